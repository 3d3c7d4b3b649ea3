/-
  A ghost heap over the model's world, and the steps of a call over it. No statement of its own; every claim of this family imports it.
-/
import Derived.Tactics
import Derived.Deep.Quiet
import Derived.StillTail
import Derived.Scope
import Derived.WalkMore
set_option linter.unusedVariables false
namespace Sx
open Go

inductive GO where
  | row (c : List Value)
  /-- a row of a type that is known; it may be written from k on -/
  | trow (t : TypeId) (k : Nat) (c : List Value)
  /-- a strings.Builder (types T, e) that holds bs; its buffer is hidden -/
  | bld (T e : TypeId) (bs : List UInt8)
  | obj (o : Obj)

def GO.isBld : GO → Bool
  | .bld _ _ _ => true
  | _ => false
def GO.cells? : GO → Option (List Value)
  | .row c => some c
  | .trow _ _ c => some c
  | _ => none
def GO.low : GO → Nat
  | .trow _ k _ => k
  | _ => 0
def GO.upd : GO → List Value → GO
  | .trow t k _, c => .trow t k c
  | _, c => .row c

abbrev Heap := Nat → Option (Bool × GO)

structure Ctx where
  old : Array Obj
  out : Array (Nat × ByteArray)
  os : Os

def GO.rel (m : Bool) : GO → Obj → Prop
  | .row c, .cells c' _ fr => c' = c.toArray ∧ (m = true → fr.1 = fr.2 ∨ c.length ≤ fr.1)
  | .trow t k c, .cells c' t' fr => c' = c.toArray ∧ t' = t ∧ (m = true → fr.1 = fr.2 ∨ fr.2 ≤ k)
  | .bld _ _ _, _ => True
  | .obj o, o' => o' = o ∧ ∀ c t fr, o ≠ .cells c t fr
  | _, _ => False

/-- where a builder's bytes lie -/
def BufAt (C : Ctx) (w : World) (H : Heap) (b : Nat) (T e : TypeId) (bs : List UInt8) : Option Nat → Prop
  | none => ∃ (p : Option Addr) (fr : Nat × Nat), w.heap[b]? = some (.cells #[.pointer p, .slice none 0 0] T fr) ∧ (p = none ∨ p = some ⟨b, 0, none⟩) ∧ (fr.1 = fr.2 ∨ fr.2 ≤ 0) ∧ bs = []
  | some g => ∃ (p : Option Addr) (fr : Nat × Nat) (cap : Nat) (row : Array Value) (fr' : Nat × Nat), w.heap[b]? = some (.cells #[.pointer p, .slice (some ⟨g, 0, none⟩) bs.length cap] T fr) ∧ (p = none ∨ p = some ⟨b, 0, none⟩) ∧ (fr.1 = fr.2 ∨ fr.2 ≤ 0) ∧
      H g = none ∧ C.old.size ≤ g ∧ w.heap[g]? = some (.cells row e fr') ∧ (∀ (j : Nat) (c : UInt8), bs[j]? = some c → row[j]? = some (Value.int .u8 (c.toNat : Int))) ∧ cap = row.size ∧ cap ≠ 0 ∧ bs.length ≤ cap ∧ (fr'.1 = fr'.2 ∨ fr'.2 ≤ bs.length)

structure Blds (C : Ctx) (w : World) (H : Heap) (B : Nat → Option Nat) : Prop where
  at_ : ∀ b m T e bs, H b = some (m, .bld T e bs) → m = true ∧ BufAt C w H b T e bs (B b)
  inj : ∀ b b' g m T e bs m' T' e' bs', H b = some (m, .bld T e bs) → H b' = some (m', .bld T' e' bs') → B b = some g → B b' = some g → b = b'

structure St (C : Ctx) (w : World) (H : Heap) : Prop where
  blk : ∀ b m g, H b = some (m, g) → ∃ o, w.heap[b]? = some o ∧ g.rel m o
  wri : ∀ b g, H b = some (true, g) → C.old.size ≤ b
  old : ∀ b : Nat, b < C.old.size → w.heap[b]? = C.old[b]?
  out : w.output = C.out
  os : w.os = C.os
  bld : ∃ B, Blds C w H B

theorem BufAt.stays {C : Ctx} {w w' : World} {H H' : Heap} {b : Nat} {T e : TypeId} {bs : List UInt8} {og : Option Nat} (h : BufAt C w H b T e bs og) (hb : w'.heap[b]? = w.heap[b]?)
    (hg : ∀ g, og = some g → w'.heap[g]? = w.heap[g]? ∧ H' g = none) : BufAt C w' H' b T e bs og := by
  cases og with
  | none => simp only [BufAt] at h ⊢; rw [hb]; exact h
  | some g =>
    obtain ⟨p, fr, cap, row, fr', h1, h2, h3, h4, h5, h6, h7⟩ := h
    obtain ⟨e1, e2⟩ := hg g rfl
    exact ⟨p, fr, cap, row, fr', by rw [hb]; exact h1, h2, h3, e2, h5, by rw [e1]; exact h6, h7⟩

def Heap.put (H : Heap) (b : Nat) (g : GO) (m : Bool := true) : Heap := fun x => if x = b then some (m, g) else H x

theorem Heap.put_same (H : Heap) (b : Nat) (g : GO) (m : Bool) : H.put b g m b = some (m, g) := by simp [Heap.put]
theorem Heap.put_ne (H : Heap) {b x : Nat} (g : GO) (m : Bool) (h : x ≠ b) : H.put b g m x = H x := by simp [Heap.put, h]

def Heap.le (H H' : Heap) : Prop := ∀ b e, H b = some e → H' b = some e
def Heap.ext (H H' : Heap) : Prop := ∀ b g, H b = some (false, g) → H' b = some (false, g)

theorem Heap.le.refl (H : Heap) : H.le H := fun _ _ h => h
theorem Heap.le.trans {A B D : Heap} (h : A.le B) (h' : B.le D) : A.le D := fun b e x => h' b e (h b e x)
theorem Heap.le.put {A B : Heap} {b : Nat} (g : GO) (m : Bool) (h : A.le B) (hb : A b = none) : A.le (B.put b g m) := fun x e hx => by
  by_cases hxb : x = b
  · subst hxb; rw [hb] at hx; cases hx
  · rw [Heap.put_ne _ _ _ hxb]; exact h x e hx
theorem Heap.le.none {A B : Heap} {b : Nat} (h : A.le B) (hb : B b = none) : A b = none := by
  cases ha : A b with
  | none => rfl
  | some e => have := h b e ha; rw [hb] at this; cases this
theorem Heap.ext.refl (H : Heap) : H.ext H := fun _ _ h => h
theorem Heap.ext.trans {A B D : Heap} (h : A.ext B) (h' : B.ext D) : A.ext D := fun b e x => h' b e (h b e x)
theorem Heap.le.ext {A B : Heap} (h : A.le B) : A.ext B := fun b g x => h b _ x

theorem St.weaken {C : Ctx} {w : World} {H H' : Heap} (h : St C w H') (le : H.le H') : St C w H :=
  ⟨fun b m g x => h.blk b m g (le b _ x), fun b g x => h.wri b g (le b _ x), h.old, h.out, h.os, by
    obtain ⟨B, hB⟩ := h.bld
    refine ⟨B, fun b m T e bs hb => ?_, fun b b' g m T e bs m' T' e' bs' hb hb' => hB.inj b b' g m T e bs m' T' e' bs' (le b _ hb) (le b' _ hb')⟩
    obtain ⟨h1, h2⟩ := hB.at_ b m T e bs (le b _ hb)
    refine ⟨h1, h2.stays rfl fun g hg => ⟨rfl, le.none ?_⟩⟩
    rw [hg] at h2
    exact h2.choose_spec.choose_spec.choose_spec.choose_spec.choose_spec.2.2.2.1⟩

theorem St.lt {C : Ctx} {w : World} {H : Heap} (h : St C w H) {b : Nat} {e} (hb : H b = some e) : b < w.heap.size := by
  obtain ⟨o, ho, _⟩ := h.blk b e.1 e.2 hb
  exact (Array.getElem?_eq_some_iff.1 ho).1

theorem St.old_le {C : Ctx} {w : World} {H : Heap} (h : St C w H) : C.old.size ≤ w.heap.size := by
  rcases Nat.eq_zero_or_pos C.old.size with h0 | h0
  · omega
  · have := h.old (C.old.size - 1) (by omega)
    have h1 : (C.old[C.old.size - 1]?).isSome := by simp; omega
    rw [← this] at h1
    have h2 : C.old.size - 1 < w.heap.size := by simpa using h1
    omega

theorem St.drew {C : Ctx} {w : World} {H : Heap} (h : St C w H) : St C { w with drawn := w.drawn + 1 } H :=
  ⟨h.blk, h.wri, h.old, h.out, h.os, by
    obtain ⟨B, hB⟩ := h.bld
    exact ⟨B, fun b m T e bs hb => ⟨(hB.at_ b m T e bs hb).1, (hB.at_ b m T e bs hb).2.stays rfl fun g hg => ⟨rfl, by
      have h2 := (hB.at_ b m T e bs hb).2
      rw [hg] at h2
      exact h2.choose_spec.choose_spec.choose_spec.choose_spec.choose_spec.2.2.2.1⟩⟩, hB.inj⟩⟩

theorem BufAt.at_ {C : Ctx} {w : World} {H : Heap} {b : Nat} {T e : TypeId} {bs : List UInt8} {og : Option Nat} (h : BufAt C w H b T e bs og) : (∃ c fr, w.heap[b]? = some (.cells c T fr)) ∧ ∀ g, og = some g → H g = none ∧ C.old.size ≤ g ∧ ∃ o, w.heap[g]? = some o := by
  cases og with
  | none =>
    obtain ⟨p, fr, h1, _⟩ := h
    exact ⟨⟨_, _, h1⟩, fun g hg => by cases hg⟩
  | some g =>
    obtain ⟨p, fr, cap, row, fr', h1, h2, h3, h4, h5, h6, h7⟩ := h
    exact ⟨⟨_, _, h1⟩, fun g' hg => by injection hg with hg; subst hg; exact ⟨h4, h5, _, h6⟩⟩

theorem St.fresh {C : Ctx} {w : World} {H : Heap} (h : St C w H) : H w.heap.size = none := by
  cases hb : H w.heap.size with
  | none => rfl
  | some e => have := h.lt hb; omega

/-- a new block -/
theorem St.push {C : Ctx} {w : World} {H : Heap} (h : St C w H) {o : Obj} {g : GO} {m : Bool} (hr : g.rel m o) (hg0 : g.isBld = false := by rfl) :
    St C { w with heap := w.heap.push o } (H.put w.heap.size g m) := by
  have hol := h.old_le
  refine ⟨fun b m' g' x => ?_, fun b g' x => ?_, fun b hb => ?_, h.out, h.os, ?_⟩
  rotate_left 3
  · obtain ⟨B, hB⟩ := h.bld
    have hne : ∀ b m T e bs, (H.put w.heap.size g m) b = some (m, .bld T e bs) → b ≠ w.heap.size := fun b m T e bs hb e' => by
      subst e'; rw [Heap.put_same] at hb; injection hb with hb; injection hb with _ hb; rw [hb] at hg0; cases hg0
    have hold : ∀ b m' T e bs, (H.put w.heap.size g m) b = some (m', .bld T e bs) → H b = some (m', .bld T e bs) := fun b m' T e bs hb => by
      by_cases e' : b = w.heap.size
      · subst e'; rw [Heap.put_same] at hb; injection hb with hb; injection hb with _ hb; rw [hb] at hg0; cases hg0
      · rwa [Heap.put_ne _ _ _ e'] at hb
    refine ⟨B, fun b m' T e bs hb => ?_, fun b b' g' m T e bs m' T' e' bs' hb hb' => hB.inj b b' g' m T e bs m' T' e' bs' (hold _ _ _ _ _ hb) (hold _ _ _ _ _ hb')⟩
    have hb := hold _ _ _ _ _ hb
    obtain ⟨h1, h2⟩ := hB.at_ b m' T e bs hb
    have hlt := h.lt hb
    obtain ⟨_, h3⟩ := h2.at_
    refine ⟨h1, h2.stays ?_ fun g' hg' => ?_⟩
    · have : b ≠ w.heap.size := by omega
      simp [Array.getElem?_push, this]
    · obtain ⟨q1, q2, o', q3⟩ := h3 g' hg'
      have hl : g' < w.heap.size := (Array.getElem?_eq_some_iff.1 q3).1
      have : g' ≠ w.heap.size := by omega
      exact ⟨by simp [Array.getElem?_push, this], by rw [Heap.put_ne _ _ _ this]; exact q1⟩
  · by_cases hbb : b = w.heap.size
    · subst hbb
      rw [Heap.put_same] at x
      injection x with x; injection x with x1 x2; subst x1; subst x2
      exact ⟨o, by simp, hr⟩
    · rw [Heap.put_ne _ _ _ hbb] at x
      obtain ⟨o', ho', hr'⟩ := h.blk b m' g' x
      have := h.lt x
      exact ⟨o', by simp [Array.getElem?_push, hbb, ho'], hr'⟩
  · by_cases hbb : b = w.heap.size
    · subst hbb; exact hol
    · rw [Heap.put_ne _ _ _ hbb] at x; exact h.wri b g' x
  · have : b ≠ w.heap.size := by omega
    rw [← h.old b hb]
    simp [Array.getElem?_push, this]

/-- a block written over -/
theorem St.set {C : Ctx} {w w' : World} {H : Heap} (h : St C w H) {b : Nat} {g g' : GO} {o' : Obj} (hb : H b = some (true, g))
    (hs : w'.output = w.output ∧ w'.os = w.os ∧ w'.heap[b]? = some o' ∧ ∀ x, x ≠ b → w'.heap[x]? = w.heap[x]?) (hr : g'.rel true o') (hg0 : g'.isBld = false := by rfl) :
    St C w' (H.put b g') := by
  obtain ⟨h1, h2, h3, h4⟩ := hs
  have hm := h.wri b g hb
  refine ⟨fun x m' g'' hx => ?_, fun x g'' hx => ?_, fun x hx => ?_, h1.trans h.out, h2.trans h.os, ?_⟩
  rotate_left 3
  · obtain ⟨B, hB⟩ := h.bld
    have hold : ∀ x m' T e bs, (H.put b g') x = some (m', .bld T e bs) → x ≠ b ∧ H x = some (m', .bld T e bs) := fun x m' T e bs hx => by
      by_cases e' : x = b
      · subst e'; rw [Heap.put_same] at hx; injection hx with hx; injection hx with _ hx; rw [hx] at hg0; cases hg0
      · exact ⟨e', by rwa [Heap.put_ne _ _ _ e'] at hx⟩
    refine ⟨B, fun x m' T e bs hx => ?_, fun x x' g'' m T e bs m' T' e' bs' hx hx' => hB.inj x x' g'' m T e bs m' T' e' bs' (hold _ _ _ _ _ hx).2 (hold _ _ _ _ _ hx').2⟩
    obtain ⟨hxb, hx⟩ := hold _ _ _ _ _ hx
    obtain ⟨q1, q2⟩ := hB.at_ x m' T e bs hx
    obtain ⟨_, q3⟩ := q2.at_
    refine ⟨q1, q2.stays (h4 x hxb) fun g'' hg'' => ?_⟩
    obtain ⟨r1, r2, _⟩ := q3 g'' hg''
    have hne : g'' ≠ b := fun e' => by subst e'; rw [hb] at r1; cases r1
    exact ⟨h4 _ hne, by rw [Heap.put_ne _ _ _ hne]; exact r1⟩
  · by_cases hxb : x = b
    · subst hxb
      rw [Heap.put_same] at hx
      injection hx with hx; injection hx with x1 x2; subst x1; subst x2
      exact ⟨o', h3, hr⟩
    · rw [Heap.put_ne _ _ _ hxb] at hx
      obtain ⟨o, ho, hr'⟩ := h.blk x m' g'' hx
      exact ⟨o, by rw [h4 x hxb]; exact ho, hr'⟩
  · by_cases hxb : x = b
    · subst hxb; exact hm
    · rw [Heap.put_ne _ _ _ hxb] at hx; exact h.wri x g'' hx
  · have : x ≠ b := by omega
    rw [h4 x this]; exact h.old x hx

/-- ghost: a block that is not written any more -/
theorem St.seal_ {C : Ctx} {w : World} {H : Heap} (h : St C w H) {b : Nat} {m : Bool} {g : GO} (hb : H b = some (m, g)) (hg0 : g.isBld = false := by rfl) : St C w (H.put b g false) := by
  refine ⟨fun x m' g'' hx => ?_, fun x g'' hx => ?_, h.old, h.out, h.os, ?_⟩
  rotate_left 2
  · obtain ⟨B, hB⟩ := h.bld
    have hold : ∀ x m' T e bs, (H.put b g false) x = some (m', .bld T e bs) → x ≠ b ∧ H x = some (m', .bld T e bs) := fun x m' T e bs hx => by
      by_cases e' : x = b
      · subst e'; rw [Heap.put_same] at hx; injection hx with hx; injection hx with _ hx; rw [hx] at hg0; cases hg0
      · exact ⟨e', by rwa [Heap.put_ne _ _ _ e'] at hx⟩
    refine ⟨B, fun x m' T e bs hx => ?_, fun x x' g'' m T e bs m' T' e' bs' hx hx' => hB.inj x x' g'' m T e bs m' T' e' bs' (hold _ _ _ _ _ hx).2 (hold _ _ _ _ _ hx').2⟩
    obtain ⟨hxb, hx⟩ := hold _ _ _ _ _ hx
    obtain ⟨q1, q2⟩ := hB.at_ x m' T e bs hx
    obtain ⟨_, q3⟩ := q2.at_
    refine ⟨q1, q2.stays rfl fun g'' hg'' => ⟨rfl, ?_⟩⟩
    obtain ⟨r1, r2, _⟩ := q3 g'' hg''
    have hne : g'' ≠ b := fun e' => by subst e'; rw [hb] at r1; cases r1
    rw [Heap.put_ne _ _ _ hne]; exact r1
  · by_cases hxb : x = b
    · subst hxb
      rw [Heap.put_same] at hx
      injection hx with hx; injection hx with x1 x2; subst x1; subst x2
      obtain ⟨o, ho, hr⟩ := h.blk x m g hb
      refine ⟨o, ho, ?_⟩
      cases g with
      | row c => cases o <;> simp only [GO.rel] at hr ⊢; exact ⟨hr.1, fun hh => by cases hh⟩
      | trow t k c => cases o <;> simp only [GO.rel] at hr ⊢; exact ⟨hr.1, hr.2.1, fun hh => by cases hh⟩
      | bld T e bs => cases hg0
      | obj o2 => simpa only [GO.rel] using hr
    · rw [Heap.put_ne _ _ _ hxb] at hx
      exact h.blk x m' g'' hx
  · by_cases hxb : x = b
    · subst hxb; rw [Heap.put_same] at hx; injection hx with hx; injection hx with x1 x2; cases x1
    · rw [Heap.put_ne _ _ _ hxb] at hx; exact h.wri x g'' hx

/-! ### calls -/

def Post (C : Ctx) (Φ : Value → Heap → Prop) : Ending → World → Prop := fun e w' => ∃ v H', e = .returned v ∧ St C w' H' ∧ Φ v H'

def Spec (P : Program) (C : Ctx) (f : FuncId) (args : List Value) (H : Heap) (Φ : Value → Heap → Prop) : Prop :=
  ∀ w, St C w H → Calls P f args.toArray w (Post C Φ)

theorem Spec.mono {P : Program} {C : Ctx} {f : FuncId} {args : List Value} {H : Heap} {Φ Ψ : Value → Heap → Prop} (h : Spec P C f args H Φ)
    (hh : ∀ v H', Φ v H' → Ψ v H') : Spec P C f args H Ψ :=
  fun w hw => (h w hw).mono fun e w' ⟨v, H', h1, h2, h3⟩ => ⟨v, H', h1, h2, hh _ _ h3⟩

/-- ghost steps ahead of a call -/
theorem Spec.pre {P : Program} {C : Ctx} {f : FuncId} {args : List Value} {H H' : Heap} {Φ : Value → Heap → Prop} (hs : ∀ w, St C w H → St C w H') (h : Spec P C f args H' Φ) :
    Spec P C f args H Φ := fun w hw => h w (hs w hw)

/-! ### frames -/

def lk : List (Nat × Value) → Nat → Option Value
  | [], _ => none
  | (d, v) :: l, t => bif Nat.beq t d then some v else lk l t

structure Fr (n : Nat) (l : List (Nat × Value)) (a : Act) : Prop where
  size : a.tmps.size = n
  defers : a.defers = []
  get : ∀ t v, lk l t = some v → a.tmps[t]? = some v

def Sub (l : List (Nat × Value)) : List (Nat × Value) → Prop
  | [] => True
  | (d, v) :: r => lk l d = some v ∧ Sub l r

theorem Sub.lk {l : List (Nat × Value)} : ∀ {r : List (Nat × Value)}, Sub l r → ∀ t v, Sx.lk r t = some v → Sx.lk l t = some v
  | [], _, t, v, h => by cases h
  | (d, u) :: r, hs, t, v, h => by
    simp only [Sx.lk] at h
    cases hb : Nat.beq t d with
    | true =>
      rw [hb] at h
      have : t = d := Nat.eq_of_beq_eq_true hb
      subst this
      simp only [cond_true] at h
      rw [← h]; exact hs.1
    | false => rw [hb] at h; exact Sub.lk hs.2 t v h

theorem Fr.sub {n : Nat} {l r : List (Nat × Value)} {a : Act} (h : Fr n l a) (hs : Sub l r) : Fr n r a :=
  ⟨h.size, h.defers, fun t v x => h.get t v (hs.lk t v x)⟩

theorem Fr.put {n d : Nat} {l : List (Nat × Value)} {a : Act} {v : Value} (h : Fr n l a) (hd : Nat.blt d n = true) : Fr n ((d, v) :: l) (a.put (some d) v) := by
  have hd' : d < n := by simpa using hd
  refine ⟨by simp [Act.put, h.size], by simp [Act.put, h.defers], fun t u x => ?_⟩
  simp only [lk] at x
  cases hb : Nat.beq t d with
  | true =>
    rw [hb] at x
    have : t = d := Nat.eq_of_beq_eq_true hb
    subst this
    simp only [cond_true, Option.some.injEq] at x
    subst x
    have := h.size
    have h3 : t < a.tmps.size := by omega
    simp [Act.put, h3]
  | false =>
    rw [hb] at x
    have : t ≠ d := Nat.ne_of_beq_eq_false hb
    simp only [cond_false] at x
    simp only [Act.put]
    rw [Array.getElem?_setIfInBounds_ne (Ne.symm this)]
    exact h.get t u x

theorem Fr.put_none {n : Nat} {l : List (Nat × Value)} {a : Act} {v : Value} (h : Fr n l a) : Fr n l (a.put none v) := h

def opv (l : List (Nat × Value)) : Operand → Option Value
  | .tmp t => lk l t
  | .const v => some v
  | .global g => some (.pointer (some ⟨g, 0, none⟩))
  | .func f => some (.func (.func f) #[] #[])

theorem Fr.ev {n : Nat} {l : List (Nat × Value)} {a : Act} {x : Operand} {v : Value} (h : Fr n l a) (hx : opv l x = some v) : a.eval x = v := by
  cases x with
  | tmp t => have := h.get t v hx; simp [Act.eval, Array.getD_eq_getD_getElem?, this]
  | const u => simpa [opv, Act.eval] using hx
  | global g => simpa [opv, Act.eval] using hx
  | func f => simpa [opv, Act.eval] using hx

def opvs (l : List (Nat × Value)) : List Operand → Option (List Value)
  | [] => some []
  | x :: xs => match opv l x, opvs l xs with
    | some v, some vs => some (v :: vs)
    | _, _ => none

theorem Fr.evs {n : Nat} {l : List (Nat × Value)} {a : Act} (h : Fr n l a) : ∀ {xs : List Operand} {vs : List Value}, opvs l xs = some vs → xs.map a.eval = vs
  | [], vs, hx => by simpa [opvs] using hx
  | x :: xs, vs, hx => by
    simp only [opvs] at hx
    split at hx
    · rename_i v us h1 h2
      injection hx with hx
      subst hx
      simp [h.ev h1, h.evs h2]
    · cases hx

/-! ### code over the ghost heap -/
section
variable (P : Program) (C : Ctx)

def GC (Q : Exit → Act → World → Prop) (n : Nat) (c : Code) (l : List (Nat × Value)) (H : Heap) : Prop :=
  ∀ a w, Fr n l a → St C w H → c.wp P Q a w

def GL (ops : Array Oper) (Q : Exit → Act → World → Prop) (n : Nat) (rest : List Oper) (l : List (Nat × Value)) (H : Heap) : Prop :=
  ∀ a w, Fr n l a → St C w H → wpList P ops Q rest a w
end

section
variable {P : Program} {C : Ctx} {Q : Exit → Act → World → Prop} {n : Nat} {l : List (Nat × Value)} {H : Heap}

theorem GC.region {id : Nat} {ops : List Oper} (k : GL P C ops.toArray Q n ops l H) : GC P C Q n (.region id ops.toArray false) l H :=
  fun a w hf hs => wp_region_lit (k a w hf hs)

theorem GC.seq {x y : Code} (k : GC P C (Exit.then (y.wp P Q) Q) n x l H) : GC P C Q n (.seq x y) l H :=
  fun a w hf hs => wp_seq (k a w hf hs)

theorem GL.nil {ops : Array Oper} {y : Code} (k : GC P C Q n y l H) : GL P C ops (Exit.then (y.wp P Q) Q) n [] l H :=
  fun a w hf hs => k a w hf hs
theorem GC.skip {y : Code} (k : GC P C Q n y l H) : GC P C (Exit.then (y.wp P Q) Q) n .skip l H :=
  fun a w hf hs => wp_skip (k a w hf hs)

theorem GC.label {lb : Nat} {y : Code} (k : GC P C Q n y l H) : GC P C (Exit.then (y.wp P Q) Q) n (.label lb) l H :=
  fun a w hf hs => wp_label (k a w hf hs)

theorem GC.scope {c : Code} (k : GC P C (Exit.noGoto Q) n c l H) : GC P C Q n (.scope c) l H :=
  fun a w hf hs => wp_scope_straight (k a w hf hs)

/-- what is known where ways meet -/
def Meet (C : Ctx) (n : Nat) {α : Type} (J : α → Heap → Prop) (e : α → List (Nat × Value)) (a : Act) (w : World) : Prop :=
  ∃ x H', J x H' ∧ Fr n (e x) a ∧ St C w H'

theorem Meet.mk {α : Type} {J : α → Heap → Prop} {e : α → List (Nat × Value)} {a : Act} {w : World} (x : α) (hj : J x H) (hs : Sub l (e x)) (hf : Fr n l a) (hw : St C w H) :
    Meet C n J e a w := ⟨x, H, hj, hf.sub hs, hw⟩

theorem GC.join {α : Type} (J : α → Heap → Prop) (e : α → List (Nat × Value)) {x y : Code}
    (h1 : GC P C (Exit.then (Meet C n J e) Q) n x l H) (h2 : ∀ x H', J x H' → GC P C Q n y (e x) H') : GC P C Q n (.seq x y) l H :=
  fun a w hf hs => wp_seq (wp_mono (h1 a w hf hs) fun ex a' w' hq => by
    cases ex with
    | normal => obtain ⟨x, H', hj, hf', hs'⟩ := hq; exact h2 x H' hj a' w' hf' hs'
    | _ => exact hq)

theorem GL.jump {α : Type} {J : α → Heap → Prop} {e : α → List (Nat × Value)} {ops : Array Oper} (hq : ∀ a w, Meet C n J e a w → Q .normal a w) (x : α) (hj : J x H) (hs : Sub l (e x)) :
    GL P C ops Q n [] l H := fun a w hf hw => hq a w (Meet.mk x hj hs hf hw)

theorem GC.jump {α : Type} {J : α → Heap → Prop} {e : α → List (Nat × Value)} (hq : ∀ a w, Meet C n J e a w → Q .normal a w) (x : α) (hj : J x H) (hs : Sub l (e x)) :
    GC P C Q n .skip l H := fun a w hf hw => wp_skip (hq a w (Meet.mk x hj hs hf hw))

theorem GC.exit_jump {α : Type} {J : α → Heap → Prop} {e : α → List (Nat × Value)} {id : Nat} (hq : ∀ a w, Meet C n J e a w → Q (.exit id) a w) (x : α) (hj : J x H) (hs : Sub l (e x)) :
    GC P C Q n (.exit id) l H := fun a w hf hw => wp_exit (hq a w (Meet.mk x hj hs hf hw))

theorem GC.cond {c : Operand} {x y : Code} {b : Bool} (hc : opv l c = some (.bool b)) (h1 : b = true → GC P C Q n x l H) (h2 : b = false → GC P C Q n y l H) :
    GC P C Q n (.cond c x y) l H :=
  fun a w hf hs => wp_cond_split (hf.ev hc) (fun h => h1 h a w hf hs) (fun h => h2 h a w hf hs)

theorem GC.block {id : Nat} {c : Code} (k : GC P C (Exit.inBlock id Q) n c l H) : GC P C Q n (.block id c) l H :=
  fun a w hf hs => wp_block (k a w hf hs)

theorem wp_loop_nat {c : Code} {a : Act} {w : World} (I : Nat → Act → World → Prop) {m : Nat} (h₀ : I m a w)
    (round : ∀ m a w, I m a w → c.wp P (Exit.then (fun a' w' => ∃ m', m' < m ∧ I m' a' w') Q) a w) : (Code.loop c).wp P Q a w := by
  intro b k cs
  have key : ∀ m a w, I m a w → ∃ e a' w', Q e a' w' ∧ Arrives P (lone (b.at a (.code c :: .inLoop c :: k)) cs w) b k cs e a' w' := by
    intro m
    induction m using Nat.strongRecOn with
    | _ m ih =>
      intro a w hI
      obtain ⟨e, a₁, w₁, hq, harr⟩ := round m a w hI b (.inLoop c :: k) cs
      cases e with
      | normal =>
        obtain ⟨m', hlt, hI₁⟩ := hq
        obtain ⟨e₂, a₂, w₂, hq₂, harr₂⟩ := ih m' hlt a₁ w₁ hI₁
        exact ⟨e₂, a₂, w₂, hq₂, .of_steps (Steps.trans harr (.one step_inLoop)) harr₂⟩
      | exit id => exact ⟨_, a₁, w₁, hq, .pass (x := .inLoop c) rfl (fun _ _ => .inl (by simp)) harr⟩
      | goto l => exact ⟨_, a₁, w₁, hq, .pass (x := .inLoop c) rfl (fun _ _ => .inl (by simp)) harr⟩
      | ret => exact ⟨_, a₁, w₁, hq, .pass (x := .inLoop c) rfl (fun _ _ => .inl (by simp)) harr⟩
      | panic ch => exact ⟨_, a₁, w₁, hq, .pass (x := .inLoop c) rfl (fun _ _ => .inl (by simp)) harr⟩
      | outgrown => exact ⟨_, a₁, w₁, hq, .pass (x := .inLoop c) rfl (fun _ _ => .inl (by simp)) harr⟩
  obtain ⟨e, a', w', hq, harr⟩ := key _ a w h₀
  exact ⟨e, a', w', hq, .of_steps (.one step_loop) harr⟩

/-- a loop: 'lp' is the shallow form -/
def lp {α : Type} (x0 : α) (H : Heap) (body : α → (α → Heap → Prop) → Heap → Prop) : Prop :=
  ∃ (I : α → Heap → Prop) (μ : α → Heap → Nat), I x0 H ∧ ∀ x H, I x H → body x (fun x' H' => I x' H' ∧ μ x' H' < μ x H) H

theorem GC.loop {α : Type} {x0 : α} {body : α → (α → Heap → Prop) → Heap → Prop} (h : lp x0 H body) (e : α → List (Nat × Value)) (hs : Sub l (e x0)) {c : Code}
    (round : ∀ x H' (J : α → Heap → Prop), body x J H' → GC P C (Exit.then (Meet C n J e) Q) n c (e x) H') : GC P C Q n (.loop c) l H := by
  obtain ⟨I, μ, h0, hr⟩ := h
  intro a w hf hw
  refine wp_loop_nat (fun m a w => ∃ x H', μ x H' = m ∧ I x H' ∧ Fr n (e x) a ∧ St C w H') ⟨x0, H, rfl, h0, hf.sub hs, hw⟩ ?_
  rintro m a w ⟨x, H', rfl, hI, hf', hw'⟩
  refine wp_mono (round x H' _ (hr x H' hI) a w hf' hw') fun ex a' w' hq => ?_
  cases ex with
  | normal =>
    obtain ⟨x', H'', ⟨hI', hlt⟩, hf'', hw''⟩ := hq
    exact ⟨_, hlt, x', H'', rfl, hI', hf'', hw''⟩
  | _ => exact hq

/-- ways meet: 'jn' is the shallow form -/
def jn {α : Type} (R : α → Heap → Prop) (body : (α → Heap → Prop) → Prop) : Prop := ∃ J : α → Heap → Prop, body J ∧ ∀ x H, J x H → R x H

theorem jn.inl {α : Type} {R : α → Heap → Prop} {body : (α → Heap → Prop) → Prop} (h : body R) : jn R body := ⟨R, h, fun _ _ h => h⟩

def ift (c : Bool) (A B : Prop) : Prop := (c = true → A) ∧ (c = false → B)

theorem ift.of {c : Bool} {A B : Prop} (h1 : c = true → A) (h2 : c = false → B) : ift c A B := ⟨h1, h2⟩

/-! ### the function's frame -/

def argFrame (args : List Value) : List (Nat × Value) := args.zipIdx.map fun p => (p.2, p.1)

theorem lk_zipIdx : ∀ (args : List Value) (k t : Nat) (v : Value), lk ((args.zipIdx k).map fun p => (p.2, p.1)) t = some v → k ≤ t ∧ args[t - k]? = some v
  | [], k, t, v, h => by simp [lk] at h
  | a :: as, k, t, v, h => by
    simp only [List.zipIdx_cons, List.map_cons, lk] at h
    cases hb : Nat.beq t k with
    | true =>
      rw [hb] at h
      have : t = k := Nat.eq_of_beq_eq_true hb
      subst this
      simp only [cond_true, Option.some.injEq] at h
      subst h
      simp
    | false =>
      rw [hb] at h
      have hne : t ≠ k := Nat.ne_of_beq_eq_false hb
      have ih := lk_zipIdx as (k + 1) t v h
      refine ⟨by omega, ?_⟩
      have : t - k = (t - (k + 1)) + 1 := by omega
      rw [this]; simpa using ih.2

def SpecPost (P : Program) (C : Ctx) (fn : Func) (Φ : Value → Heap → Prop) : Exit → Act → World → Prop := bodyPost P fn (Post C Φ)

theorem Spec.enter {f : FuncId} {fn : Func} {c : Code} {args : List Value} {Φ : Value → Heap → Prop} (hf : P.funcs[f]? = some fn) (hb : fn.body = some c) (hn : fn.ntmps = n)
    (ha : Nat.ble args.length n = true) (k : GC P C (SpecPost P C fn Φ) n c (argFrame args) H) : Spec P C f args H Φ := by
  intro w hw
  refine calls_of_wp hf hb (k _ w ⟨?_, rfl, ?_⟩ hw)
  · have : args.length ≤ n := by simpa using ha
    simp [hn]; omega
  · intro t v h
    have := (lk_zipIdx args 0 t v h).2
    simp only [Nat.sub_zero] at this
    have hlt : t < args.length := (List.getElem?_eq_some_iff.1 this).1
    simp only [Array.getElem?_append, List.size_toArray, hlt, if_true, List.getElem?_toArray]
    exact this

theorem post_tmp1 {fn : Func} {Φ : Value → Heap → Prop} {t : Nat} {v : Value} {a : Act} {w : World} (hr : fn.results = #[.tmp t]) (hl : lk l t = some v) (hf : Fr n l a) (hw : St C w H) (h : Φ v H) :
    SpecPost P C fn Φ .ret a w := by
  refine bodyPost_ret (v := v) ?_ hf.defers ⟨v, H, rfl, hw, h⟩
  have := hf.get t v hl
  rw [results_tmp hr]
  simp [Array.getD_eq_getD_getElem?, this]

theorem post_tmp0 {fn : Func} {Φ : Value → Heap → Prop} {a : Act} {w : World} (hr : fn.results = #[]) (hf : Fr n l a) (hw : St C w H) (h : Φ (.tuple #[]) H) :
    SpecPost P C fn Φ .ret a w := by
  refine bodyPost_ret (v := .tuple #[]) ?_ hf.defers ⟨_, H, rfl, hw, h⟩
  rw [results_none hr]

theorem post_tmp2 {fn : Func} {Φ : Value → Heap → Prop} {t u : Nat} {x y : Value} {a : Act} {w : World} (hr : fn.results = #[.tmp t, .tmp u]) (hl : lk l t = some x) (hl2 : lk l u = some y)
    (hf : Fr n l a) (hw : St C w H) (h : Φ (.tuple #[x, y]) H) : SpecPost P C fn Φ .ret a w := by
  refine bodyPost_ret (v := .tuple #[x, y]) ?_ hf.defers ⟨_, H, rfl, hw, h⟩
  have h1 := hf.get t x hl
  have h2 := hf.get u y hl2
  rw [results_tmp2 hr]
  simp [Array.getD_eq_getD_getElem?, h1, h2]

theorem post_tmp3 {fn : Func} {Φ : Value → Heap → Prop} {t u s : Nat} {x y z : Value} {a : Act} {w : World} (hr : fn.results = #[.tmp t, .tmp u, .tmp s]) (hl : lk l t = some x) (hl2 : lk l u = some y)
    (hl3 : lk l s = some z) (hf : Fr n l a) (hw : St C w H) (h : Φ (.tuple #[x, y, z]) H) : SpecPost P C fn Φ .ret a w := by
  refine bodyPost_ret (v := .tuple #[x, y, z]) ?_ hf.defers ⟨_, H, rfl, hw, h⟩
  have h1 := hf.get t x hl
  have h2 := hf.get u y hl2
  have h3 := hf.get s z hl3
  simp [results, hr, Array.getD_eq_getD_getElem?, h1, h2, h3]

theorem post_normal {fn : Func} {Φ : Value → Heap → Prop} {a : Act} {w : World} (h : SpecPost P C fn Φ .ret a w) : SpecPost P C fn Φ .normal a w := h

theorem GC.ret (h : ∀ a w, Fr n l a → St C w H → Q .ret a w) : GC P C Q n .ret l H := fun a w hf hs => wp_ret (h a w hf hs)
/-- the body's end without a return -/
theorem GL.ends {ops : Array Oper} (h : ∀ a w, Fr n l a → St C w H → Q .normal a w) : GL P C ops Q n [] l H := fun a w hf hs => h a w hf hs
theorem GC.ends (h : ∀ a w, Fr n l a → St C w H → Q .normal a w) : GC P C Q n .skip l H := fun a w hf hs => wp_skip (h a w hf hs)
end
end Sx
