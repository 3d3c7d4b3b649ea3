/-
  Texts of this family, one behind the other: SxBase, SxOps, SxMem, SxApp, SxReg, SxAll, SxAny, SxLaw, SxUser, SxMore, SxArr, SxBld, SxClr, SxTwo, SxRf, SxZip, SxZip2, SxMapK, SxUn, SxUse2, SxRow, SxDoor.
-/
import Derived.RangeFuncRecord
import Derived.Tactics
import Derived.Deep.Quiet
import Derived.StillTail
import Derived.Scope
import Derived.WalkMore
import Derived.WalkKit
import Derived.OrdersHeld
import Derived.ProofKit
import Derived.OpenShut
import Derived.ShutString
import Derived.ChangeOld
import Derived.Below
import Derived.WideKeyArgs
import Derived.Deep.Slices
import Derived.IntWalk
import Derived.Lib.Builder
import Derived.Lib.UnsafeStr
import Derived.Lib.MakeNoZero
import Derived.Lib.Bytealg
import Derived.WalkSpells
import Derived.Lib.LazyBuf
import Derived.RangeFuncIn
import Derived.RangeFuncLeaves
import Derived.OrdersIn
import Derived.LoopNIn
import Derived.MapKept
import Derived.Deep.DeepHandedRow
noncomputable section
set_option linter.unusedVariables false
set_option linter.unusedSimpArgs false
set_option maxRecDepth 10000
namespace Sx
section
open Go
inductive GO where
 | row (c : List Value)
 /-- a row of a type that is known; it may be written from k on -/
 | trow (t : TypeId) (k : Nat) (c : List Value)
 /-- a strings.Builder (types T, e) that holds bs; its buffer is hidden -/
 | bld (T e : TypeId) (bs : List UInt8)
 | obj (o : Obj)
def GO.isBld : GO → Bool
 | .bld _ _ _ => true
 | _ => false
def GO.cells? : GO → Option (List Value)
 | .row c => some c
 | .trow _ _ c => some c
 | _ => none
abbrev Heap := Nat → Option (Bool × GO)
structure Ctx where
 old : Array Obj
 out : Array (Nat × ByteArray)
 os : Os
 tape : Nat → Question → Nat
 drawn : Nat
def GO.rel (m : Bool) : GO → Obj → Prop
 | .row c, .cells c' _ fr => c' = c.toArray ∧ (m = true → fr.1 = fr.2 ∨ c.length ≤ fr.1)
 | .trow t k c, .cells c' t' fr => c' = c.toArray ∧ t' = t ∧ (m = true → fr.1 = fr.2 ∨ fr.2 ≤ k)
 | .bld _ _ _, _ => True
 | .obj o, o' => o' = o ∧ ∀ c t fr, o ≠ .cells c t fr
 | _, _ => False
/-- where a builder's bytes lie -/
def BufAt (C : Ctx) (w : World) (H : Heap) (b : Nat) (T e : TypeId) (bs : List UInt8) : Option Nat → Prop
 | none => ∃ (p : Option Addr) (fr : Nat × Nat), w.heap[b]? = some (.cells #[.pointer p, .slice none 0 0] T fr) ∧ (p = none ∨ p = some ⟨b, 0, none⟩) ∧ (fr.1 = fr.2 ∨ fr.2 ≤ 0) ∧ bs = []
 | some g => ∃ (p : Option Addr) (fr : Nat × Nat) (cap : Nat) (row : Array Value) (fr' : Nat × Nat), w.heap[b]? = some (.cells #[.pointer p, .slice (some ⟨g, 0, none⟩) bs.length cap] T fr) ∧ (p = none ∨ p = some ⟨b, 0, none⟩) ∧ (fr.1 = fr.2 ∨ fr.2 ≤ 0) ∧
  H g = none ∧ C.old.size ≤ g ∧ w.heap[g]? = some (.cells row e fr') ∧ (∀ (j : Nat) (c : UInt8), bs[j]? = some c → row[j]? = some (Value.int .u8 (c.toNat : Int))) ∧ cap = row.size ∧ cap ≠ 0 ∧ bs.length ≤ cap ∧ (fr'.1 = fr'.2 ∨ fr'.2 ≤ bs.length)
structure Blds (C : Ctx) (w : World) (H : Heap) (B : Nat → Option Nat) : Prop where
 at_ : ∀ b m T e bs, H b = some (m, .bld T e bs) → m = true ∧ BufAt C w H b T e bs (B b)
 inj : ∀ b b' g m T e bs m' T' e' bs', H b = some (m, .bld T e bs) → H b' = some (m', .bld T' e' bs') → B b = some g → B b' = some g → b = b'
structure St (C : Ctx) (w : World) (H : Heap) : Prop where
 blk : ∀ b m g, H b = some (m, g) → ∃ o, w.heap[b]? = some o ∧ g.rel m o
 wri : ∀ b g, H b = some (true, g) → C.old.size ≤ b
 old : ∀ b : Nat, b < C.old.size → w.heap[b]? = C.old[b]?
 out : w.output = C.out
 os : (w.os, w.tape) = (C.os, C.tape) ∧ C.drawn ≤ w.drawn
 bld : ∃ B, Blds C w H B
theorem BufAt.stays {C : Ctx} {w w' : World} {H H' : Heap} {b : Nat} {T e : TypeId} {bs : List UInt8} {og : Option Nat} (h : BufAt C w H b T e bs og) (hb : w'.heap[b]? = w.heap[b]?)
 (hg : ∀ g, og = some g → w'.heap[g]? = w.heap[g]? ∧ H' g = none) : BufAt C w' H' b T e bs og := by
 cases og with
 | none => simp only [BufAt] at h ⊢; rw [hb]; exact h
 | some g =>
  obtain ⟨p, fr, cap, row, fr', h1, h2, h3, h4, h5, h6, h7⟩ := h
  obtain ⟨e1, e2⟩ := hg g rfl
  exact ⟨p, fr, cap, row, fr', by rw [hb]; exact h1, h2, h3, e2, h5, by rw [e1]; exact h6, h7⟩
def Heap.put (H : Heap) (b : Nat) (g : GO) (m : Bool := true) : Heap := fun x => if x = b then some (m, g) else H x
theorem Heap.put_same (H : Heap) (b : Nat) (g : GO) (m : Bool) : H.put b g m b = some (m, g) := by simp [Heap.put]
theorem Heap.put_ne (H : Heap) {b x : Nat} (g : GO) (m : Bool) (h : x ≠ b) : H.put b g m x = H x := by simp [Heap.put, h]
def Heap.le (H H' : Heap) : Prop := ∀ b e, H b = some e → H' b = some e
theorem Heap.le.refl (H : Heap) : H.le H := fun _ _ h => h
theorem Heap.le.trans {A B D : Heap} (h : A.le B) (h' : B.le D) : A.le D := fun b e x => h' b e (h b e x)
theorem Heap.le.put {A B : Heap} {b : Nat} (g : GO) (m : Bool) (h : A.le B) (hb : A b = none) : A.le (B.put b g m) := fun x e hx => by
 by_cases hxb : x = b
 ·subst hxb; rw [hb] at hx; cases hx
 ·rw [Heap.put_ne _ _ _ hxb]; exact h x e hx
theorem Heap.le.none {A B : Heap} {b : Nat} (h : A.le B) (hb : B b = none) : A b = none := by
 cases ha : A b with
 | none => rfl
 | some e => have := h b e ha; rw [hb] at this; cases this
theorem St.weaken {C : Ctx} {w : World} {H H' : Heap} (h : St C w H') (le : H.le H') : St C w H :=
 ⟨fun b m g x => h.blk b m g (le b _ x), fun b g x => h.wri b g (le b _ x), h.old, h.out, h.os, by
  obtain ⟨B, hB⟩ := h.bld
  refine ⟨B, fun b m T e bs hb => ?_, fun b b' g m T e bs m' T' e' bs' hb hb' => hB.inj b b' g m T e bs m' T' e' bs' (le b _ hb) (le b' _ hb')⟩
  obtain ⟨h1, h2⟩ := hB.at_ b m T e bs (le b _ hb)
  refine ⟨h1, h2.stays rfl fun g hg => ⟨rfl, le.none ?_⟩⟩
  rw [hg] at h2
  exact h2.choose_spec.choose_spec.choose_spec.choose_spec.choose_spec.2.2.2.1⟩
theorem St.lt {C : Ctx} {w : World} {H : Heap} (h : St C w H) {b : Nat} {e} (hb : H b = some e) : b < w.heap.size := by
 obtain ⟨o, ho, _⟩ := h.blk b e.1 e.2 hb
 exact (Array.getElem?_eq_some_iff.1 ho).1
theorem St.old_le {C : Ctx} {w : World} {H : Heap} (h : St C w H) : C.old.size ≤ w.heap.size := by
 rcases Nat.eq_zero_or_pos C.old.size with h0 | h0
 ·omega
 ·have := h.old (C.old.size - 1) (by omega)
  have h1 : (C.old[C.old.size - 1]?).isSome := by simp; omega
  rw [← this] at h1
  have h2 : C.old.size - 1 < w.heap.size := by simpa using h1
  omega
theorem St.drew {C : Ctx} {w : World} {H : Heap} (h : St C w H) : St C { w with drawn := w.drawn + 1 } H :=
 ⟨h.blk, h.wri, h.old, h.out, ⟨h.os.1, Nat.le_succ_of_le h.os.2⟩, by
  obtain ⟨B, hB⟩ := h.bld
  exact ⟨B, fun b m T e bs hb => ⟨(hB.at_ b m T e bs hb).1, (hB.at_ b m T e bs hb).2.stays rfl fun g hg => ⟨rfl, by
   have h2 := (hB.at_ b m T e bs hb).2
   rw [hg] at h2
   exact h2.choose_spec.choose_spec.choose_spec.choose_spec.choose_spec.2.2.2.1⟩⟩, hB.inj⟩⟩
theorem BufAt.at_ {C : Ctx} {w : World} {H : Heap} {b : Nat} {T e : TypeId} {bs : List UInt8} {og : Option Nat} (h : BufAt C w H b T e bs og) : (∃ c fr, w.heap[b]? = some (.cells c T fr)) ∧ ∀ g, og = some g → H g = none ∧ C.old.size ≤ g ∧ ∃ o, w.heap[g]? = some o := by
 cases og with
 | none =>
  obtain ⟨p, fr, h1, _⟩ := h
  exact ⟨⟨_, _, h1⟩, fun g hg => by cases hg⟩
 | some g =>
  obtain ⟨p, fr, cap, row, fr', h1, h2, h3, h4, h5, h6, h7⟩ := h
  exact ⟨⟨_, _, h1⟩, fun g' hg => by injection hg with hg; subst hg; exact ⟨h4, h5, _, h6⟩⟩
theorem St.fresh {C : Ctx} {w : World} {H : Heap} (h : St C w H) : H w.heap.size = none := by
 cases hb : H w.heap.size with
 | none => rfl
 | some e => have := h.lt hb; omega
/-- a new block -/
theorem St.push {C : Ctx} {w : World} {H : Heap} (h : St C w H) {o : Obj} {g : GO} {m : Bool} (hr : g.rel m o) (hg0 : g.isBld = false := by rfl) :
 St C { w with heap := w.heap.push o } (H.put w.heap.size g m) := by
 have hol := h.old_le
 refine ⟨fun b m' g' x => ?_, fun b g' x => ?_, fun b hb => ?_, h.out, h.os, ?_⟩
 rotate_left 3
 ·obtain ⟨B, hB⟩ := h.bld
  have hne : ∀ b m T e bs, (H.put w.heap.size g m) b = some (m, .bld T e bs) → b ≠ w.heap.size := fun b m T e bs hb e' => by
   subst e'; rw [Heap.put_same] at hb; injection hb with hb; injection hb with _ hb; rw [hb] at hg0; cases hg0
  have hold : ∀ b m' T e bs, (H.put w.heap.size g m) b = some (m', .bld T e bs) → H b = some (m', .bld T e bs) := fun b m' T e bs hb => by
   by_cases e' : b = w.heap.size
   ·subst e'; rw [Heap.put_same] at hb; injection hb with hb; injection hb with _ hb; rw [hb] at hg0; cases hg0
   ·rwa [Heap.put_ne _ _ _ e'] at hb
  refine ⟨B, fun b m' T e bs hb => ?_, fun b b' g' m T e bs m' T' e' bs' hb hb' => hB.inj b b' g' m T e bs m' T' e' bs' (hold _ _ _ _ _ hb) (hold _ _ _ _ _ hb')⟩
  have hb := hold _ _ _ _ _ hb
  obtain ⟨h1, h2⟩ := hB.at_ b m' T e bs hb
  have hlt := h.lt hb
  obtain ⟨_, h3⟩ := h2.at_
  refine ⟨h1, h2.stays ?_ fun g' hg' => ?_⟩
  ·have : b ≠ w.heap.size := by omega
   simp [Array.getElem?_push, this]
  ·obtain ⟨q1, q2, o', q3⟩ := h3 g' hg'
   have hl : g' < w.heap.size := (Array.getElem?_eq_some_iff.1 q3).1
   have : g' ≠ w.heap.size := by omega
   exact ⟨by simp [Array.getElem?_push, this], by rw [Heap.put_ne _ _ _ this]; exact q1⟩
 ·by_cases hbb : b = w.heap.size
  ·subst hbb
   rw [Heap.put_same] at x
   injection x with x; injection x with x1 x2; subst x1; subst x2
   exact ⟨o, by simp, hr⟩
  ·rw [Heap.put_ne _ _ _ hbb] at x
   obtain ⟨o', ho', hr'⟩ := h.blk b m' g' x
   have := h.lt x
   exact ⟨o', by simp [Array.getElem?_push, hbb, ho'], hr'⟩
 ·by_cases hbb : b = w.heap.size
  ·subst hbb; exact hol
  ·rw [Heap.put_ne _ _ _ hbb] at x; exact h.wri b g' x
 ·have : b ≠ w.heap.size := by omega
  rw [← h.old b hb]
  simp [Array.getElem?_push, this]
/-- a block written over -/
theorem St.set {C : Ctx} {w w' : World} {H : Heap} (h : St C w H) {b : Nat} {g g' : GO} {o' : Obj} (hb : H b = some (true, g))
 (hs : w'.output = w.output ∧ (w'.os, w'.tape, w'.drawn) = (w.os, w.tape, w.drawn) ∧ w'.heap[b]? = some o' ∧ ∀ x, x ≠ b → w'.heap[x]? = w.heap[x]?) (hr : g'.rel true o') (hg0 : g'.isBld = false := by rfl) :
 St C w' (H.put b g') := by
 obtain ⟨h1, h2, h3, h4⟩ := hs
 have hm := h.wri b g hb
 refine ⟨fun x m' g'' hx => ?_, fun x g'' hx => ?_, fun x hx => ?_, h1.trans h.out, ⟨(congrArg (fun q : Os × (Nat → Question → Nat) × Nat => (q.1, q.2.1)) h2).trans h.os.1, by rw [show w'.drawn = w.drawn from congrArg (fun q : Os × (Nat → Question → Nat) × Nat => q.2.2) h2]; exact h.os.2⟩, ?_⟩
 rotate_left 3
 ·obtain ⟨B, hB⟩ := h.bld
  have hold : ∀ x m' T e bs, (H.put b g') x = some (m', .bld T e bs) → x ≠ b ∧ H x = some (m', .bld T e bs) := fun x m' T e bs hx => by
   by_cases e' : x = b
   ·subst e'; rw [Heap.put_same] at hx; injection hx with hx; injection hx with _ hx; rw [hx] at hg0; cases hg0
   ·exact ⟨e', by rwa [Heap.put_ne _ _ _ e'] at hx⟩
  refine ⟨B, fun x m' T e bs hx => ?_, fun x x' g'' m T e bs m' T' e' bs' hx hx' => hB.inj x x' g'' m T e bs m' T' e' bs' (hold _ _ _ _ _ hx).2 (hold _ _ _ _ _ hx').2⟩
  obtain ⟨hxb, hx⟩ := hold _ _ _ _ _ hx
  obtain ⟨q1, q2⟩ := hB.at_ x m' T e bs hx
  obtain ⟨_, q3⟩ := q2.at_
  refine ⟨q1, q2.stays (h4 x hxb) fun g'' hg'' => ?_⟩
  obtain ⟨r1, r2, _⟩ := q3 g'' hg''
  have hne : g'' ≠ b := fun e' => by subst e'; rw [hb] at r1; cases r1
  exact ⟨h4 _ hne, by rw [Heap.put_ne _ _ _ hne]; exact r1⟩
 ·by_cases hxb : x = b
  ·subst hxb
   rw [Heap.put_same] at hx
   injection hx with hx; injection hx with x1 x2; subst x1; subst x2
   exact ⟨o', h3, hr⟩
  ·rw [Heap.put_ne _ _ _ hxb] at hx
   obtain ⟨o, ho, hr'⟩ := h.blk x m' g'' hx
   exact ⟨o, by rw [h4 x hxb]; exact ho, hr'⟩
 ·by_cases hxb : x = b
  ·subst hxb; exact hm
  ·rw [Heap.put_ne _ _ _ hxb] at hx; exact h.wri x g'' hx
 ·have : x ≠ b := by omega
  rw [h4 x this]; exact h.old x hx
def Post (C : Ctx) (Φ : Value → Heap → Prop) : Ending → World → Prop := fun e w' => ∃ v H', e = .returned v ∧ St C w' H' ∧ Φ v H'
def Spec (P : Program) (C : Ctx) (f : FuncId) (args : List Value) (H : Heap) (Φ : Value → Heap → Prop) : Prop :=
 ∀ w, St C w H → Calls P f args.toArray w (Post C Φ)
theorem Spec.mono {P : Program} {C : Ctx} {f : FuncId} {args : List Value} {H : Heap} {Φ Ψ : Value → Heap → Prop} (h : Spec P C f args H Φ)
 (hh : ∀ v H', Φ v H' → Ψ v H') : Spec P C f args H Ψ :=
 fun w hw => (h w hw).mono fun e w' ⟨v, H', h1, h2, h3⟩ => ⟨v, H', h1, h2, hh _ _ h3⟩
def lk : List (Nat × Value) → Nat → Option Value
 | [], _ => none
 | (d, v) :: l, t => bif Nat.beq t d then some v else lk l t
/-- how many slots a frame has, and what is deferred in it -/
structure FN where
 n : Nat
 ds : List Deferred
structure Fr (n : FN) (l : List (Nat × Value)) (a : Act) : Prop where
 size : a.tmps.size = n.n
 defers : a.defers = n.ds
 get : ∀ t v, lk l t = some v → a.tmps[t]? = some v
def Sub (l : List (Nat × Value)) : List (Nat × Value) → Prop
 | [] => True
 | (d, v) :: r => lk l d = some v ∧ Sub l r
theorem Sub.lk {l : List (Nat × Value)} : ∀ {r : List (Nat × Value)}, Sub l r → ∀ t v, Sx.lk r t = some v → Sx.lk l t = some v
 | [], _, t, v, h => by cases h
 | (d, u) :: r, hs, t, v, h => by
  simp only [Sx.lk] at h
  cases hb : Nat.beq t d with
  | true =>
   rw [hb] at h
   have : t = d := Nat.eq_of_beq_eq_true hb
   subst this
   simp only [cond_true] at h
   rw [← h]; exact hs.1
  | false => rw [hb] at h; exact Sub.lk hs.2 t v h
theorem Fr.sub {n : FN} {l r : List (Nat × Value)} {a : Act} (h : Fr n l a) (hs : Sub l r) : Fr n r a :=
 ⟨h.size, h.defers, fun t v x => h.get t v (hs.lk t v x)⟩
theorem Fr.put {n : FN} {d : Nat} {l : List (Nat × Value)} {a : Act} {v : Value} (h : Fr n l a) (hd : Nat.blt d n.n = true) : Fr n ((d, v) :: l) (a.put (some d) v) := by
 have hd' : d < n.n := by simpa using hd
 refine ⟨by simp [Act.put, h.size], by simp [Act.put, h.defers], fun t u x => ?_⟩
 simp only [lk] at x
 cases hb : Nat.beq t d with
 | true =>
  rw [hb] at x
  have : t = d := Nat.eq_of_beq_eq_true hb
  subst this
  simp only [cond_true, Option.some.injEq] at x
  subst x
  have := h.size
  have h3 : t < a.tmps.size := by omega
  simp [Act.put, h3]
 | false =>
  rw [hb] at x
  have : t ≠ d := Nat.ne_of_beq_eq_false hb
  simp only [cond_false] at x
  simp only [Act.put]
  rw [Array.getElem?_setIfInBounds_ne (Ne.symm this)]
  exact h.get t u x
def opv (l : List (Nat × Value)) : Operand → Option Value
 | .tmp t => lk l t
 | .const v => some v
 | .global g => some (.pointer (some ⟨g, 0, none⟩))
 | .func f => some (.func (.func f) #[] #[])
theorem Fr.ev {n : FN} {l : List (Nat × Value)} {a : Act} {x : Operand} {v : Value} (h : Fr n l a) (hx : opv l x = some v) : a.eval x = v := by
 cases x with
 | tmp t => have := h.get t v hx; simp [Act.eval, Array.getD_eq_getD_getElem?, this]
 | const u => simpa [opv, Act.eval] using hx
 | global g => simpa [opv, Act.eval] using hx
 | func f => simpa [opv, Act.eval] using hx
def opvs (l : List (Nat × Value)) : List Operand → Option (List Value)
 | [] => some []
 | x :: xs => match opv l x, opvs l xs with
  | some v, some vs => some (v :: vs)
  | _, _ => none
theorem Fr.evs {n : FN} {l : List (Nat × Value)} {a : Act} (h : Fr n l a) : ∀ {xs : List Operand} {vs : List Value}, opvs l xs = some vs → xs.map a.eval = vs
 | [], vs, hx => by simpa [opvs] using hx
 | x :: xs, vs, hx => by
  simp only [opvs] at hx
  split at hx
  ·rename_i v us h1 h2
   injection hx with hx
   subst hx
   simp [h.ev h1, h.evs h2]
  ·cases hx
section
variable (P : Program) (C : Ctx)
def GC (Q : Exit → Act → World → Prop) (n : FN) (c : Code) (l : List (Nat × Value)) (H : Heap) : Prop :=
 ∀ a w, Fr n l a → St C w H → c.wp P Q a w
def GL (ops : Array Oper) (Q : Exit → Act → World → Prop) (n : FN) (rest : List Oper) (l : List (Nat × Value)) (H : Heap) : Prop :=
 ∀ a w, Fr n l a → St C w H → wpList P ops Q rest a w
end
section
variable {P : Program} {C : Ctx} {Q : Exit → Act → World → Prop} {n : FN} {l : List (Nat × Value)} {H : Heap}
theorem GC.region {id : Nat} {ops : List Oper} (k : GL P C ops.toArray Q n ops l H) : GC P C Q n (.region id ops.toArray false) l H :=
 fun a w hf hs => wp_region_lit (k a w hf hs)
theorem GC.seq {x y : Code} (k : GC P C (Exit.then (y.wp P Q) Q) n x l H) : GC P C Q n (.seq x y) l H :=
 fun a w hf hs => wp_seq (k a w hf hs)
theorem GL.nil {ops : Array Oper} {y : Code} (k : GC P C Q n y l H) : GL P C ops (Exit.then (y.wp P Q) Q) n [] l H :=
 fun a w hf hs => k a w hf hs
theorem GC.skip {y : Code} (k : GC P C Q n y l H) : GC P C (Exit.then (y.wp P Q) Q) n .skip l H :=
 fun a w hf hs => wp_skip (k a w hf hs)
/-- what is known where ways meet -/
def Meet (C : Ctx) (n : FN) {α : Type} (J : α → Heap → Prop) (e : α → List (Nat × Value)) (a : Act) (w : World) : Prop :=
 ∃ x H', J x H' ∧ Fr n (e x) a ∧ St C w H'
theorem Meet.mk {α : Type} {J : α → Heap → Prop} {e : α → List (Nat × Value)} {a : Act} {w : World} (x : α) (hj : J x H) (hs : Sub l (e x)) (hf : Fr n l a) (hw : St C w H) :
 Meet C n J e a w := ⟨x, H, hj, hf.sub hs, hw⟩
theorem GC.join {α : Type} (J : α → Heap → Prop) (e : α → List (Nat × Value)) {x y : Code}
 (h1 : GC P C (Exit.then (Meet C n J e) Q) n x l H) (h2 : ∀ x H', J x H' → GC P C Q n y (e x) H') : GC P C Q n (.seq x y) l H :=
 fun a w hf hs => wp_seq (wp_mono (h1 a w hf hs) fun ex a' w' hq => by
  cases ex with
  | normal => obtain ⟨x, H', hj, hf', hs'⟩ := hq; exact h2 x H' hj a' w' hf' hs'
  | _ => exact hq)
theorem GL.jump {α : Type} {J : α → Heap → Prop} {e : α → List (Nat × Value)} {ops : Array Oper} (hq : ∀ a w, Meet C n J e a w → Q .normal a w) (x : α) (hj : J x H) (hs : Sub l (e x)) :
 GL P C ops Q n [] l H := fun a w hf hw => hq a w (Meet.mk x hj hs hf hw)
theorem GC.jump {α : Type} {J : α → Heap → Prop} {e : α → List (Nat × Value)} (hq : ∀ a w, Meet C n J e a w → Q .normal a w) (x : α) (hj : J x H) (hs : Sub l (e x)) :
 GC P C Q n .skip l H := fun a w hf hw => wp_skip (hq a w (Meet.mk x hj hs hf hw))
theorem GC.exit_jump {α : Type} {J : α → Heap → Prop} {e : α → List (Nat × Value)} {id : Nat} (hq : ∀ a w, Meet C n J e a w → Q (.exit id) a w) (x : α) (hj : J x H) (hs : Sub l (e x)) :
 GC P C Q n (.exit id) l H := fun a w hf hw => wp_exit (hq a w (Meet.mk x hj hs hf hw))
theorem GC.cond {c : Operand} {x y : Code} {b : Bool} (hc : opv l c = some (.bool b)) (h1 : b = true → GC P C Q n x l H) (h2 : b = false → GC P C Q n y l H) :
 GC P C Q n (.cond c x y) l H :=
 fun a w hf hs => wp_cond_split (hf.ev hc) (fun h => h1 h a w hf hs) (fun h => h2 h a w hf hs)
theorem GC.block {id : Nat} {c : Code} (k : GC P C (Exit.inBlock id Q) n c l H) : GC P C Q n (.block id c) l H :=
 fun a w hf hs => wp_block (k a w hf hs)
theorem Qqd {c : Code} {a : Act} {w : World} (I : Nat → Act → World → Prop) {m : Nat} (h₀ : I m a w)
 (round : ∀ m a w, I m a w → c.wp P (Exit.then (fun a' w' => ∃ m', m' < m ∧ I m' a' w') Q) a w) : (Code.loop c).wp P Q a w := by
 intro b k cs
 have key : ∀ m a w, I m a w → ∃ e a' w', Q e a' w' ∧ Arrives P (lone (b.at a (.code c :: .inLoop c :: k)) cs w) b k cs e a' w' := by
  intro m
  induction m using Nat.strongRecOn with
  | _ m ih =>
   intro a w hI
   obtain ⟨e, a₁, w₁, hq, harr⟩ := round m a w hI b (.inLoop c :: k) cs
   cases e with
   | normal =>
    obtain ⟨m', hlt, hI₁⟩ := hq
    obtain ⟨e₂, a₂, w₂, hq₂, harr₂⟩ := ih m' hlt a₁ w₁ hI₁
    exact ⟨e₂, a₂, w₂, hq₂, .of_steps (Steps.trans harr (.one step_inLoop)) harr₂⟩
   | exit id => exact ⟨_, a₁, w₁, hq, .pass (x := .inLoop c) rfl (fun _ _ => .inl (by simp)) harr⟩
   | goto l => exact ⟨_, a₁, w₁, hq, .pass (x := .inLoop c) rfl (fun _ _ => .inl (by simp)) harr⟩
   | ret => exact ⟨_, a₁, w₁, hq, .pass (x := .inLoop c) rfl (fun _ _ => .inl (by simp)) harr⟩
   | panic ch => exact ⟨_, a₁, w₁, hq, .pass (x := .inLoop c) rfl (fun _ _ => .inl (by simp)) harr⟩
   | outgrown => exact ⟨_, a₁, w₁, hq, .pass (x := .inLoop c) rfl (fun _ _ => .inl (by simp)) harr⟩
 obtain ⟨e, a', w', hq, harr⟩ := key _ a w h₀
 exact ⟨e, a', w', hq, .of_steps (.one step_loop) harr⟩
/-- a loop: 'lp' is the shallow form -/
def lp {α : Type} (x0 : α) (H : Heap) (body : α → (α → Heap → Prop) → Heap → Prop) : Prop :=
 ∃ (I : α → Heap → Prop) (μ : α → Heap → Nat), I x0 H ∧ ∀ x H, I x H → body x (fun x' H' => I x' H' ∧ μ x' H' < μ x H) H
theorem GC.loop {α : Type} {x0 : α} {body : α → (α → Heap → Prop) → Heap → Prop} (h : lp x0 H body) (e : α → List (Nat × Value)) (hs : Sub l (e x0)) {c : Code}
 (round : ∀ x H' (J : α → Heap → Prop), body x J H' → GC P C (Exit.then (Meet C n J e) Q) n c (e x) H') : GC P C Q n (.loop c) l H := by
 obtain ⟨I, μ, h0, hr⟩ := h
 intro a w hf hw
 refine Qqd (fun m a w => ∃ x H', μ x H' = m ∧ I x H' ∧ Fr n (e x) a ∧ St C w H') ⟨x0, H, rfl, h0, hf.sub hs, hw⟩ ?_
 rintro m a w ⟨x, H', rfl, hI, hf', hw'⟩
 refine wp_mono (round x H' _ (hr x H' hI) a w hf' hw') fun ex a' w' hq => ?_
 cases ex with
 | normal =>
  obtain ⟨x', H'', ⟨hI', hlt⟩, hf'', hw''⟩ := hq
  exact ⟨_, hlt, x', H'', rfl, hI', hf'', hw''⟩
 | _ => exact hq
/-- ways meet: 'jn' is the shallow form -/
def jn {α : Type} (R : α → Heap → Prop) (body : (α → Heap → Prop) → Prop) : Prop := ∃ J : α → Heap → Prop, body J ∧ ∀ x H, J x H → R x H
def ift (c : Bool) (A B : Prop) : Prop := (c = true → A) ∧ (c = false → B)
theorem ift.of {c : Bool} {A B : Prop} (h1 : c = true → A) (h2 : c = false → B) : ift c A B := ⟨h1, h2⟩
def argFrame (args : List Value) : List (Nat × Value) := args.zipIdx.map fun p => (p.2, p.1)
theorem Qpl : ∀ (args : List Value) (k t : Nat) (v : Value), lk ((args.zipIdx k).map fun p => (p.2, p.1)) t = some v → k ≤ t ∧ args[t - k]? = some v
 | [], k, t, v, h => by simp [lk] at h
 | a :: as, k, t, v, h => by
  simp only [List.zipIdx_cons, List.map_cons, lk] at h
  cases hb : Nat.beq t k with
  | true =>
   rw [hb] at h
   have : t = k := Nat.eq_of_beq_eq_true hb
   subst this
   simp only [cond_true, Option.some.injEq] at h
   subst h
   simp
  | false =>
   rw [hb] at h
   have hne : t ≠ k := Nat.ne_of_beq_eq_false hb
   have ih := Qpl as (k + 1) t v h
   refine ⟨by omega, ?_⟩
   have : t - k = (t - (k + 1)) + 1 := by omega
   rw [this]; simpa using ih.2
def SpecPost (P : Program) (C : Ctx) (fn : Func) (Φ : Value → Heap → Prop) : Exit → Act → World → Prop
 | .normal, a, w | .ret, a, w => LeavesInM Fence.wide 0 P fn a.tmps (Post C Φ) a.defers .returning w
 | _, _, _ => False
theorem SpecPost.body {fn : Func} {Φ : Value → Heap → Prop} : ∀ (e : Exit) (a : Act) (w : World), SpecPost P C fn Φ e a w → bodyPostM Fence.wide 0 P fn (Post C Φ) e a w
 | .normal, _, _, h => h
 | .ret, _, _, h => h
 | .panic _, _, _, h => h.elim
 | .outgrown, _, _, h => h.elim
 | .exit _, _, _, h => h.elim
 | .goto _, _, _, h => h.elim
theorem QdK {fn : Func} {Φ : Value → Heap → Prop} {a : Act} {w : World} {v : Value} (hr : (results fn a.tmps).run P w = .ok v w) (hd : a.defers = []) (hR : Post C Φ (.returned v) w) : SpecPost P C fn Φ .ret a w := by
 show LeavesInM Fence.wide 0 P fn a.tmps (Post C Φ) a.defers .returning w
 rw [hd]; exact ⟨v, hr, hR⟩
theorem Spec.enter {n : Nat} {f : FuncId} {fn : Func} {c : Code} {args : List Value} {Φ : Value → Heap → Prop} (hf : P.funcs[f]? = some fn) (hb : fn.body = some c) (hn : fn.ntmps = n)
 (ha : Nat.ble args.length n = true) (k : GC P C (SpecPost P C fn Φ) ⟨n, []⟩ c (argFrame args) H) : Spec P C f args H Φ := by
 intro w hw
 refine callsIn_wide.1 (callsIn_of_wp_marks (n := 0) hf hb trivial (wpIn_wide.2 (wp_mono (k _ w ⟨?_, rfl, ?_⟩ hw) SpecPost.body)))
 ·have : args.length ≤ n := by simpa using ha
  simp [hn]; omega
 ·intro t v h
  have := (Qpl args 0 t v h).2
  simp only [Nat.sub_zero] at this
  have hlt : t < args.length := (List.getElem?_eq_some_iff.1 this).1
  simp only [Array.getElem?_append, List.size_toArray, hlt, if_true, List.getElem?_toArray]
  exact this
theorem Qsc {fn : Func} {Φ : Value → Heap → Prop} {t : Nat} {v : Value} {a : Act} {w : World} (hr : fn.results = #[.tmp t]) (hl : lk l t = some v) {m : Nat} (hf : Fr ⟨m, []⟩ l a) (hw : St C w H) (h : Φ v H) :
 SpecPost P C fn Φ .ret a w := by
 refine QdK (v := v) ?_ hf.defers ⟨v, H, rfl, hw, h⟩
 have := hf.get t v hl
 rw [results_tmp hr]
 simp [Array.getD_eq_getD_getElem?, this]
theorem QC {fn : Func} {Φ : Value → Heap → Prop} {a : Act} {w : World} (hr : fn.results = #[]) {m : Nat} (hf : Fr ⟨m, []⟩ l a) (hw : St C w H) (h : Φ (.tuple #[]) H) :
 SpecPost P C fn Φ .ret a w := by
 refine QdK (v := .tuple #[]) ?_ hf.defers ⟨_, H, rfl, hw, h⟩
 rw [results_none hr]
theorem Qsd {fn : Func} {Φ : Value → Heap → Prop} {t u : Nat} {x y : Value} {a : Act} {w : World} (hr : fn.results = #[.tmp t, .tmp u]) (hl : lk l t = some x) (hl2 : lk l u = some y)
 {m : Nat} (hf : Fr ⟨m, []⟩ l a) (hw : St C w H) (h : Φ (.tuple #[x, y]) H) : SpecPost P C fn Φ .ret a w := by
 refine QdK (v := .tuple #[x, y]) ?_ hf.defers ⟨_, H, rfl, hw, h⟩
 have h1 := hf.get t x hl
 have h2 := hf.get u y hl2
 rw [results_tmp2 hr]
 simp [Array.getD_eq_getD_getElem?, h1, h2]
theorem Qse {fn : Func} {Φ : Value → Heap → Prop} {t u s : Nat} {x y z : Value} {a : Act} {w : World} (hr : fn.results = #[.tmp t, .tmp u, .tmp s]) (hl : lk l t = some x) (hl2 : lk l u = some y)
 (hl3 : lk l s = some z) {m : Nat} (hf : Fr ⟨m, []⟩ l a) (hw : St C w H) (h : Φ (.tuple #[x, y, z]) H) : SpecPost P C fn Φ .ret a w := by
 refine QdK (v := .tuple #[x, y, z]) ?_ hf.defers ⟨_, H, rfl, hw, h⟩
 have h1 := hf.get t x hl
 have h2 := hf.get u y hl2
 have h3 := hf.get s z hl3
 simp [results, hr, Array.getD_eq_getD_getElem?, h1, h2, h3]
theorem GC.ret (h : ∀ a w, Fr n l a → St C w H → Q .ret a w) : GC P C Q n .ret l H := fun a w hf hs => wp_ret (h a w hf hs)
/-- the body's end without a return -/
theorem GL.ends {ops : Array Oper} (h : ∀ a w, Fr n l a → St C w H → Q .normal a w) : GL P C ops Q n [] l H := fun a w hf hs => h a w hf hs
theorem GC.ends (h : ∀ a w, Fr n l a → St C w H → Q .normal a w) : GC P C Q n .skip l H := fun a w hf hs => wp_skip (h a w hf hs)
end
end
section
open Go
abbrev Str := List UInt8
def sv (s : Str) : Value := .string ⟨s.toArray⟩
structure Sl where
 p : Option (Nat × Nat)
 len : Nat
 cap : Nat
 x : Option Nat
abbrev Sl.of (p : Option (Nat × Nat)) (len cap : Nat) : Sl := ⟨p, len, cap, none⟩
def adv (p : Nat × Nat) : Addr := ⟨p.1, p.2, none⟩
def pv (p : Option (Nat × Nat)) : Value := .pointer (p.map adv)
def Sl.ad (s : Sl) : Option Addr := s.p.map fun p => ⟨p.1, p.2, s.x⟩
def slv (s : Sl) : Value := .slice s.ad s.len s.cap
def mv (m : Option Nat) : Value := .map m
def Sl.nil : Sl := ⟨none, 0, 0, none⟩
def rd (H : Heap) (p : Nat × Nat) : Option Value :=
 match H p.1 with
 | some (_, g) => match g.cells? with
  | some c => c[p.2]?
  | none => none
 | none => none
def rds (H : Heap) (p : Nat × Nat) : List Value → Prop
 | [] => True
 | v :: r => rd H p = some v ∧ rds H (p.1, p.2 + 1) r
theorem St.cell {C : Ctx} {w : World} {H : Heap} (h : St C w H) {p : Nat × Nat} {v : Value} (hr : rd H p = some v) : w.cell? (adv p) = some v := by
 unfold rd at hr
 split at hr
 ·rename_i m g hb
  obtain ⟨o, ho, hrel⟩ := h.blk _ _ _ hb
  split at hr
  ·rename_i c hc
   cases g <;> simp only [GO.cells?, Option.some.injEq, reduceCtorEq] at hc <;> subst hc <;> cases o <;> simp only [GO.rel] at hrel <;> simp [World.cell?, adv, ho, hrel.1, hr]
  ·cases hr
 ·cases hr
theorem Qhi (p : Nat × Nat) (k : Nat) : (adv p).add k = adv (p.1, p.2 + k) := by
 unfold Addr.add adv
 by_cases h : k = 0
 ·simp [h]
 ·simp [h]
section
variable {P : Program} {C : Ctx} {Q : Exit → Act → World → Prop} {n : FN} {l : List (Nat × Value)} {H : Heap} {ops : Array Oper} {rest : List Oper} {d : Nat} {ty : TypeId} {pos : String} {after : Array Edge}
/-- the guard says yes -/
def Wt (ops : Array Oper) (l : List (Nat × Value)) : Option (Nat × Bool) → Prop
 | none => True
 | some (j, want) => ∃ d b, (ops[j]?).bind (·.dst) = some d ∧ lk l d = some (.bool b) ∧ b = want
/-- the guard says no -/
def Wn (ops : Array Oper) (l : List (Nat × Value)) : Option (Nat × Bool) → Prop
 | none => False
 | some (j, want) => ∃ d, (ops[j]?).bind (·.dst) = some d ∧ ((∃ b, lk l d = some (.bool b) ∧ b = !want) ∨ lk l d = some undef)
theorem Wt.wanted {g} (h : Wt ops l g) {o : Oper} (ho : o.guard = g) {a : Act} (hf : Fr n l a) : Region.wanted o (yielded ops a.tmps) = true := by
 cases g with
 | none => simp [Region.wanted, ho]
 | some x =>
  obtain ⟨j, want⟩ := x
  obtain ⟨d, b, h1, h2, h3⟩ := h
  have := hf.get d _ h2
  simp [Region.wanted, ho, yielded, h1, this, h3]
theorem Wn.wanted {g} (h : Wn ops l g) {o : Oper} (ho : o.guard = g) {a : Act} (hf : Fr n l a) : Region.wanted o (yielded ops a.tmps) = false := by
 cases g with
 | none => exact h.elim
 | some x =>
  obtain ⟨j, want⟩ := x
  obtain ⟨d, h1, ⟨b, h2, h3⟩ | h2⟩ := h
  ·have := hf.get d _ h2
   simp [Region.wanted, ho, yielded, h1, this, h3]
  ·have := hf.get d _ h2
   simp [Region.wanted, ho, yielded, h1, this, undef]
variable {g : Option (Nat × Bool)}
theorem GL.skip {op : Op} (hw : Wn ops l g) (hd : Nat.blt d n.n = true) (k : GL P C ops Q n rest ((d, undef) :: l) H) : GL P C ops Q n (⟨some d, op, ty, pos, after, g⟩ :: rest) l H := by
 intro a w hf hs
 have hx := hw.wanted (o := ⟨some d, op, ty, pos, after, g⟩) rfl hf
 simp only [wpList, hx]
 exact k _ w (hf.put hd) hs
/-- an operation that yields a value and a world -/
theorem GL.run {op : Op} {v : Value} (hw : Wt ops l g) (hd : Nat.blt d n.n = true)
 (hr : ∀ a w, Fr n l a → St C w H → ∃ v w' H', (execOp a.eval ⟨some d, op, ty, pos, after, g⟩).run P w = .ok (.value v) w' ∧ St C w' H' ∧ GL P C ops Q n rest ((d, v) :: l) H') :
 GL P C ops Q n (⟨some d, op, ty, pos, after, g⟩ :: rest) l H := by
 intro a w hf hs
 have hx := hw.wanted (o := ⟨some d, op, ty, pos, after, g⟩) rfl hf
 obtain ⟨v, w', H', h1, h2, h3⟩ := hr a w hf hs
 simp only [wpList, hx, if_true]
 refine .inl ?_
 unfold Oper.wp
 rw [h1]
 exact h3 _ _ (hf.put hd) h2
/-- an operation that yields a value and leaves the world -/
def OV (P : Program) (C : Ctx) (n : FN) (l : List (Nat × Value)) (H : Heap) (o : Oper) (v : Value) : Prop :=
 ∀ a w, Fr n l a → St C w H → (execOp a.eval o).run P w = .ok (.value v) w
theorem GL.val {op : Op} {v : Value} (hw : Wt ops l g) (hd : Nat.blt d n.n = true) (hr : OV P C n l H ⟨some d, op, ty, pos, after, g⟩ v) (k : GL P C ops Q n rest ((d, v) :: l) H) :
 GL P C ops Q n (⟨some d, op, ty, pos, after, g⟩ :: rest) l H := by
 intro a w hf hs
 have hx := hw.wanted (o := ⟨some d, op, ty, pos, after, g⟩) rfl hf
 simp only [wpList, hx, if_true]
 refine .inl ?_
 unfold Oper.wp
 rw [hr a w hf hs]
 exact k _ _ (hf.put hd) hs
theorem OV.move {x : Operand} {v : Value} (hx : opv l x = some v) : OV P C n l H ⟨some d, .move x, ty, pos, after, g⟩ v :=
 (fun a w hf hs => by simp [execOp, hf.ev hx])
theorem OV.assign {x : Operand} {v : Value} (hx : opv l x = some v) : OV P C n l H ⟨some d, .assign x, ty, pos, after, g⟩ v :=
 (fun a w hf hs => by simp [execOp, hf.ev hx])
theorem OV.pickT {c x y : Operand} {b : Bool} {v : Value} (hc : opv l c = some (.bool b)) (hb : b = true) (hx : opv l x = some v) : OV P C n l H ⟨some d, .pick c x y, ty, pos, after, g⟩ (v) :=
 (fun a w hf hs => by subst hb; simp [execOp, hf.ev hc, hf.ev hx, asBool])
theorem OV.pickF {c x y : Operand} {b : Bool} {v : Value} (hc : opv l c = some (.bool b)) (hb : b = false) (hx : opv l y = some v) : OV P C n l H ⟨some d, .pick c x y, ty, pos, after, g⟩ (v) :=
 (fun a w hf hs => by subst hb; simp [execOp, hf.ev hc, hf.ev hx, asBool])
def w (k : IntKind) (x : Int) : Int := k.wrap x
def bAnd (k : IntKind) (x y : Int) : Int := k.wrap ((BitVec.ofInt k.bits x &&& BitVec.ofInt k.bits y).toNat)
def bOr (k : IntKind) (x y : Int) : Int := k.wrap ((BitVec.ofInt k.bits x ||| BitVec.ofInt k.bits y).toNat)
def bXor (k : IntKind) (x y : Int) : Int := k.wrap ((BitVec.ofInt k.bits x ^^^ BitVec.ofInt k.bits y).toNat)
def bAndNot (k : IntKind) (x y : Int) : Int := k.wrap ((BitVec.ofInt k.bits x &&& ~~~ BitVec.ofInt k.bits y).toNat)
def sShr (k : IntKind) (x y : Int) : Int := x.fdiv (2 ^ (min y.toNat k.bits))
def ibin (op : BinOp) (k : IntKind) (x y : Int) : Option Value :=
 match op with
 | .add => some (.int k (w k (x + y)))
 | .sub => some (.int k (w k (x - y)))
 | .mul => some (.int k (w k (x * y)))
 | .and => some (.int k (bAnd k x y))
 | .or => some (.int k (bOr k x y))
 | .xor => some (.int k (bXor k x y))
 | .andNot => some (.int k (bAndNot k x y))
 | .eql => some (.bool (x == y))
 | .neq => some (.bool (x != y))
 | .lss => some (.bool (decide (x < y)))
 | .leq => some (.bool (decide (x ≤ y)))
 | .gtr => some (.bool (decide (x > y)))
 | .geq => some (.bool (decide (x ≥ y)))
 | _ => none
theorem QgB (P : Program) (op : BinOp) (t : TypeId) (x y : Operand) (k k' : IntKind) (a b : Int) (w : World) : (eqGuard op t x y (.int k a) (.int k' b)).run P w = .ok () w := by
 unfold eqGuard; cases op <;> rfl
theorem OV.ibin {op : BinOp} {t yt : TypeId} {x y : Operand} {k0 : IntKind} {a b : Int} {v : Value} (hx : opv l x = some (.int k0 a)) (hy : opv l y = some (.int k0 b))
 (hv : Sx.ibin op k0 a b = some v) : OV P C n l H ⟨some d, .binOp op t x y yt, ty, pos, after, g⟩ (v) :=
 (fun ac w hf hs => by
  simp only [execOp, hf.ev hx, hf.ev hy]
  simp only [bind_pure_comp, Sem.run_map, Sem.run_bind, QgB, Result.andThen_ok]
  cases op <;> simp only [Sx.ibin, Option.some.injEq, reduceCtorEq] at hv <;> subst hv <;> simp [Go.binOp, Op.intArith, Op.intBits, Op.intCmp, Sx.w, bAnd, bOr, bXor, bAndNot])
theorem OV.shr {t yt : TypeId} {x y : Operand} {k0 k1 : IntKind} {a b : Int} (hx : opv l x = some (.int k0 a)) (hy : opv l y = some (.int k1 b)) (hb : 0 ≤ b) : OV P C n l H ⟨some d, .binOp .shr t x y yt, ty, pos, after, g⟩ (.int k0 (sShr k0 a b)) :=
 (fun ac w hf hs => by
  have : ¬ b < 0 := by omega
  simp only [execOp, hf.ev hx, hf.ev hy, bind_pure_comp, Sem.run_map, Sem.run_bind, QgB, Result.andThen_ok]
  simp [Go.binOp, Op.shift, this, sShr])
theorem OV.quo {t yt : TypeId} {x y : Operand} {k0 : IntKind} {a b : Int} (hx : opv l x = some (.int k0 a)) (hy : opv l y = some (.int k0 b)) (hb : b ≠ 0) : OV P C n l H ⟨some d, .binOp .quo t x y yt, ty, pos, after, g⟩ (.int k0 (Sx.w k0 (a.tdiv b))) :=
 (fun ac w hf hs => by
  simp only [execOp, hf.ev hx, hf.ev hy, bind_pure_comp, Sem.run_map, Sem.run_bind, QgB, Result.andThen_ok]
  simp [Go.binOp, Op.intDiv, hb, Sx.w])
theorem OV.not {t : TypeId} {x : Operand} {b : Bool} (hx : opv l x = some (.bool b)) : OV P C n l H ⟨some d, .unOp .not t x, ty, pos, after, g⟩ (.bool (!b)) :=
 (fun ac w hf hs => by simp [execOp, hf.ev hx, Op.unary])
def slt (s t : Str) : Bool := Op.bytesLess s t
def sbin (op : BinOp) (s t : Str) : Option Value :=
 match op with
 | .eql => some (.bool (s == t))
 | .neq => some (.bool (!(s == t)))
 | .lss => some (.bool (slt s t))
 | .leq => some (.bool (slt s t || (s == t)))
 | .gtr => some (.bool (!(slt s t || (s == t))))
 | .geq => some (.bool (!(slt s t)))
 | _ => none
theorem Qg2 (P : Program) (op : BinOp) (t : TypeId) (x y : Operand) (a b : ByteArray) (w : World) : (eqGuard op t x y (.string a) (.string b)).run P w = .ok () w := by
 unfold eqGuard; cases op <;> rfl
theorem OV.sbin {op : BinOp} {t yt : TypeId} {x y : Operand} {a b : Str} {v : Value} (hx : opv l x = some (sv a)) (hy : opv l y = some (sv b))
 (hv : Sx.sbin op a b = some v) : OV P C n l H ⟨some d, .binOp op t x y yt, ty, pos, after, g⟩ (v) :=
 (fun ac w hf hs => by
  simp only [execOp, hf.ev hx, hf.ev hy, sv]
  simp only [bind_pure_comp, Sem.run_map, Sem.run_bind, Qg2, Result.andThen_ok]
  cases op <;> simp only [Sx.sbin, Option.some.injEq, reduceCtorEq] at hv <;> subst hv <;> simp [Go.binOp, Op.stringOp, slt])
theorem OV.cat {t yt : TypeId} {x y : Operand} {a b : Str} (hx : opv l x = some (sv a)) (hy : opv l y = some (sv b)) (hl : a.length + b.length < 9223372036854775807) : OV P C n l H ⟨some d, .binOp .add t x y yt, ty, pos, after, g⟩ (sv (a ++ b)) :=
 (fun ac w hf hs => by
  simp only [execOp, hf.ev hx, hf.ev hy, sv]
  simp only [bind_pure_comp, Sem.run_map, Sem.run_bind, Qg2, Result.andThen_ok]
  have h1 : ¬ (((⟨a.toArray⟩ : ByteArray).size + (⟨b.toArray⟩ : ByteArray).size : Nat) : Int) > IntKind.i64.max := by
   simp [ByteArray.size, IntKind.max, IntKind.bits, IntKind.signed]; omega
  have h2 : (⟨a.toArray⟩ : ByteArray) ++ ⟨b.toArray⟩ = ⟨(a ++ b).toArray⟩ := by
   apply ByteArray.ext; simp
  simp only [Go.binOp, Op.stringOp, h1, if_false, Sem.run_pure, Result.andThen_ok, h2])
theorem OV.extract {x : Operand} {i : Nat} {vs : Array Value} {v : Value} (hx : opv l x = some (.tuple vs)) (hv : vs[i]? = some v) : OV P C n l H ⟨some d, .extract x i, ty, pos, after, g⟩ (v) :=
 (fun ac w hf hs => by simp [execOp, hf.ev hx, Instr.extract, hv])
theorem OV.nilCheck {x : Operand} {p : Nat × Nat} {q : Option (Nat × Nat)} (hx : opv l x = some (pv q)) (hq : q = some p) : OV P C n l H ⟨some d, .nilCheck x, ty, pos, after, g⟩ (pv (some p)) :=
 (fun ac w hf hs => by subst hq; simp [execOp, hf.ev hx, pv])
def fieldOff (P : Program) (t : TypeId) (i : Nat) : Option Nat :=
 match P.underlying t with
 | some (.struct fs) => match fs[i]? with
  | some f => match P.info? f.type with
   | some inf => if inf.size = 0 then none else some f.offset
   | none => none
  | none => none
 | _ => none
theorem Qqa {t : TypeId} {i off : Nat} {p : Nat × Nat} (w : World) (h : fieldOff P t i = some off) : (Instr.fieldAt t (pv (some p)) i).run P w = .ok (pv (some (p.1, p.2 + off))) w := by
 unfold fieldOff at h
 split at h
 ·rename_i fs hfs
  split at h
  ·rename_i f hf
   split at h
   ·rename_i inf hinf
    split at h
    ·cases h
    ·rename_i hz
     injection h with h
     subst h
     simp [Instr.fieldAt, underlying, hfs, hf, Instr.sureAddr, pv, fieldPlace, Go.sizeOf, typeInfo, hinf, hz, Qhi]
   ·cases h
  ·cases h
 ·cases h
theorem OV.fieldAddr {t : TypeId} {x : Operand} {i off : Nat} {p : Nat × Nat} (hx : opv l x = some (pv (some p))) (ho : fieldOff P t i = some off) : OV P C n l H ⟨some d, .fieldAddr t x i, ty, pos, after, g⟩ (pv (some (p.1, p.2 + off))) :=
 (fun ac w hf hs => by simp [execOp, hf.ev hx, Qqa w ho])
theorem OV.makeFunc {fn : Fn} {fs cs : Array Operand} {vs us : List Value} (hx : opvs l fs.toList = some vs) (hy : opvs l cs.toList = some us) : OV P C n l H ⟨some d, .makeFunc fn fs cs, ty, pos, after, g⟩ (.func fn vs.toArray us.toArray) :=
 (fun ac w hf hs => by
  have h1 : fs.map ac.eval = vs.toArray := by apply Array.ext'; simp [hf.evs hx]
  have h2 : cs.map ac.eval = us.toArray := by apply Array.ext'; simp [hf.evs hy]
  simp [execOp, Instr.makeFunc, h1, h2])
def partVals (l : List (Nat × Value)) : List (Nat × Operand) → Option (List (Nat × Value))
 | [] => some []
 | (i, x) :: xs => match opv l x, partVals l xs with
  | some v, some vs => some ((i, v) :: vs)
  | _, _ => none
theorem Fr.parts {a : Act} (h : Fr n l a) : ∀ {xs : List (Nat × Operand)} {vs : List (Nat × Value)}, partVals l xs = some vs → xs.map (fun p => (p.1, a.eval p.2)) = vs
 | [], vs, hx => by simpa [partVals] using hx
 | (i, x) :: xs, vs, hx => by
  simp only [partVals] at hx
  split at hx
  ·rename_i v us h1 h2
   injection hx with hx
   subst hx
   simp [h.ev h1, h.parts h2]
  ·cases hx
theorem OV.build {t : TypeId} {ps : Array (Nat × Operand)} {vs : List (Nat × Value)} {v : Value} (hx : partVals l ps.toList = some vs)
 (hr : ∀ w, (Instr.build t vs.toArray).run P w = .ok v w) : OV P C n l H ⟨some d, .build t ps, ty, pos, after, g⟩ (v) :=
 (fun ac w hf hs => by
  have h1 : ps.map (fun p => (p.1, ac.eval p.2)) = vs.toArray := by apply Array.ext'; simp [hf.parts hx]
  simp only [execOp]
  rw [show (ps.map fun x => match x with | (i, x) => (i, ac.eval x)) = ps.map (fun p => (p.1, ac.eval p.2)) from rfl, h1]
  simp [hr])
theorem QgC (P : Program) (op : BinOp) (t : TypeId) (x y : Operand) (a b : Option Addr) (w : World) : (eqGuard op t x y (.pointer a) (.pointer b)).run P w = .ok () w := by
 unfold eqGuard; cases op <;> rfl
theorem OV.eqlNil {t yt e : TypeId} {x y : Operand} {p : Option (Nat × Nat)} (hx : opv l x = some (pv p)) (hy : opv l y = some (.pointer none)) (ht : P.underlying t = some (.pointer e)) : OV P C n l H ⟨some d, .binOp .eql t x y yt, ty, pos, after, g⟩ (.bool p.isNone) :=
 (fun ac w hf hs => by
  simp only [execOp, hf.ev hx, hf.ev hy, pv]
  simp only [bind_pure_comp, Sem.run_map, Sem.run_bind, QgC, Result.andThen_ok]
  have he : P.pointee t = e := by simp [Program.pointee, ht]
  have := run_eql_pointer_nil (P := P) w t (p.map adv) (by rw [he]; exact ht)
  rw [this]; simp)
theorem QiC (P : Program) (op : BinOp) (t : TypeId) (x y : Operand) (a b : Bool) (w : World) : (eqGuard op t x y (.bool a) (.bool b)).run P w = .ok () w := by
 unfold eqGuard; cases op <;> rfl
theorem OV.eqlBool {t yt : TypeId} {x y : Operand} {a b : Bool} (hx : opv l x = some (.bool a)) (hy : opv l y = some (.bool b)) (ht : P.underlying t = some .bool) : OV P C n l H ⟨some d, .binOp .eql t x y yt, ty, pos, after, g⟩ (.bool (a == b)) :=
 (fun ac w hf hs => by
  simp only [execOp, hf.ev hx, hf.ev hy]
  simp only [bind_pure_comp, Sem.run_map, Sem.run_bind, QiC, Result.andThen_ok]
  rw [run_eql_bool (P := P) w t a b ht]; rfl)
theorem OV.neqBool {t yt : TypeId} {x y : Operand} {a b : Bool} (hx : opv l x = some (.bool a)) (hy : opv l y = some (.bool b)) (ht : P.underlying t = some .bool) : OV P C n l H ⟨some d, .binOp .neq t x y yt, ty, pos, after, g⟩ (.bool (!(a == b))) :=
 (fun ac w hf hs => by
  simp only [execOp, hf.ev hx, hf.ev hy]
  simp only [bind_pure_comp, Sem.run_map, Sem.run_bind, QiC, Result.andThen_ok]
  rw [run_neq_bool (P := P) w t a b ht]; rfl)
end
end
section
open Go
def splice (c : List Value) (o : Nat) (vs : List Value) : List Value := c.take o ++ vs ++ c.drop (o + vs.length)
theorem QlK (c : List Value) (o : Nat) : splice c o [] = c := by simp [splice]
theorem Qiy {c : List Value} {o : Nat} {vs : List Value} (h : o + vs.length ≤ c.length) : (splice c o vs).length = c.length := by simp [splice]; omega
theorem QkQ {c : List Value} {o : Nat} {v : Value} {vs : List Value} (h : o + (vs.length + 1) ≤ c.length) : splice (c.set o v) (o + 1) vs = splice c o (v :: vs) := by
 unfold splice
 have h1 : (c.set o v).take (o + 1) = c.take o ++ [v] := by
  rw [List.take_succ_eq_append_getElem (by simp; omega)]
  simp [List.take_set_of_le]
 have h2 : (c.set o v).drop (o + 1 + vs.length) = c.drop (o + (vs.length + 1)) := by
  rw [List.drop_set_of_lt (by omega)]
  congr 1; omega
 rw [h1, h2]
 simp
def one (v : Value) : Bool := v.oneCell'
theorem St.setCellT {C : Ctx} {w : World} {H : Heap} (h : St C w H) {b o : Nat} {t : TypeId} {k : Nat} {c : List Value} {v : Value} (hb : H b = some (true, .trow t k c)) (ho : o < c.length) (hk : k ≤ o) :
 (∃ u, w.cell? ⟨b, o, none⟩ = some u) ∧ w.frozen? ⟨b, o, none⟩ = false ∧ St C (w.setCell ⟨b, o, none⟩ v) (H.put b (.trow t k (c.set o v))) := by
 obtain ⟨ob, hob, hrel⟩ := h.blk _ _ _ hb
 cases ob <;> simp only [GO.rel] at hrel
 rename_i c' t' fr
 obtain ⟨hc, ht, hfr⟩ := hrel
 subst hc
 subst ht
 refine ⟨⟨c[o], ?_⟩, ?_, ?_⟩
 ·simp [World.cell?, hob, ho]
 ·have := hfr trivial
  obtain ⟨lo, hi⟩ := fr
  simp only [World.frozen?, hob]
  simp only [] at this
  simp; omega
 ·refine h.set hb (o' := .cells (c.set o v).toArray t' fr) ⟨rfl, rfl, ?_, ?_⟩ ⟨rfl, rfl, fun _ => by simpa using hfr trivial⟩
  ·have : b < w.heap.size := (Array.getElem?_eq_some_iff.1 hob).1
   simp [World.setCell, Array.getElem?_modify, hob]
  ·intro x hx
   simp [World.setCell, Array.getElem?_modify, Ne.symm hx]
theorem St.setCell {C : Ctx} {w : World} {H : Heap} (h : St C w H) {b o : Nat} {c : List Value} {v : Value} (hb : H b = some (true, .row c)) (ho : o < c.length) :
 (∃ u, w.cell? ⟨b, o, none⟩ = some u) ∧ w.frozen? ⟨b, o, none⟩ = false ∧ St C (w.setCell ⟨b, o, none⟩ v) (H.put b (.row (c.set o v))) := by
 obtain ⟨ob, hob, hrel⟩ := h.blk _ _ _ hb
 cases ob <;> simp only [GO.rel] at hrel
 rename_i c' t fr
 obtain ⟨hc, hfr⟩ := hrel
 subst hc
 refine ⟨⟨c[o], ?_⟩, ?_, ?_⟩
 ·simp [World.cell?, hob, ho]
 ·have := hfr trivial
  obtain ⟨lo, hi⟩ := fr
  simp only [World.frozen?, hob]
  simp only [] at this
  simp; omega
 ·refine h.set hb (o' := .cells (c.set o v).toArray t fr) ⟨rfl, rfl, ?_, ?_⟩ ⟨rfl, fun _ => by simpa using hfr trivial⟩
  ·have : b < w.heap.size := (Array.getElem?_eq_some_iff.1 hob).1
   simp [World.setCell, Array.getElem?_modify, hob]
  ·intro x hx
   simp [World.setCell, Array.getElem?_modify, Ne.symm hx]
theorem St.stores {P : Program} {C : Ctx} {b o : Nat} : ∀ (vs : List Value) (i : Nat) (w : World) (H : Heap) (c : List Value), St C w H → H b = some (true, .row c) → o + i + vs.length ≤ c.length → (∀ v ∈ vs, v.oneCell' = true) →
 ∃ w', (storeCells ⟨b, o, none⟩ vs i).run P w = .ok () w' ∧ St C w' (H.put b (.row (splice c (o + i) vs)))
 | [], i, w, H, c, h, hb, hl, h1 => by
  refine ⟨w, rfl, ?_⟩
  rw [QlK]
  have : H.put b (.row c) = H := by
   funext x; by_cases hx : x = b
   ·subst hx; rw [Heap.put_same, hb]
   ·rw [Heap.put_ne _ _ _ hx]
  rw [this]; exact h
 | v :: vs, i, w, H, c, h, hb, hl, h1 => by
  simp only [List.length_cons] at hl
  obtain ⟨⟨u, hu⟩, hf, hst⟩ := h.setCell (v := v) hb (o := o + i) (by omega)
  have hadd : (⟨b, o, none⟩ : Addr).add i = ⟨b, o + i, none⟩ := Qhi (b, o) i
  obtain ⟨w', hr, hs'⟩ := St.stores (P := P) vs (i + 1) _ _ (c.set (o + i) v) hst (Heap.put_same ..) (show o + (i + 1) + vs.length ≤ (c.set (o + i) v).length by rw [List.length_set]; omega) (fun v' hv' => h1 v' (List.mem_cons_of_mem _ hv'))
  refine ⟨w', ?_, ?_⟩
  ·simp only [storeCells, Sem.run_bind, hadd]
   rw [run_store P w _ v _ (h1 v (List.mem_cons_self ..))]
   simp only [hu, hf, Bool.false_eq_true, if_false, Result.andThen_ok]
   exact hr
  ·have : (Heap.put (Heap.put H b (.row (c.set (o + i) v))) b (.row (splice (c.set (o + i) v) (o + (i + 1)) vs))) = H.put b (.row (splice c (o + i) (v :: vs))) := by
    funext x; by_cases hx : x = b
    ·subst hx; rw [Heap.put_same, Heap.put_same, ← QkQ (by omega)]; rfl
    ·rw [Heap.put_ne _ _ _ hx, Heap.put_ne _ _ _ hx, Heap.put_ne _ _ _ hx]
   rw [← this]; exact hs'
theorem St.storesT {P : Program} {C : Ctx} {b o : Nat} {t : TypeId} {k : Nat} : ∀ (vs : List Value) (i : Nat) (w : World) (H : Heap) (c : List Value), St C w H → H b = some (true, .trow t k c) → k ≤ o + i → o + i + vs.length ≤ c.length → (∀ v ∈ vs, v.oneCell' = true) →
 ∃ w', (storeCells ⟨b, o, none⟩ vs i).run P w = .ok () w' ∧ St C w' (H.put b (.trow t k (splice c (o + i) vs)))
 | [], i, w, H, c, h, hb, hk, hl, h1 => by
  refine ⟨w, rfl, ?_⟩
  rw [QlK]
  have : H.put b (.trow t k c) = H := by
   funext x; by_cases hx : x = b
   ·subst hx; rw [Heap.put_same, hb]
   ·rw [Heap.put_ne _ _ _ hx]
  rw [this]; exact h
 | v :: vs, i, w, H, c, h, hb, hk, hl, h1 => by
  simp only [List.length_cons] at hl
  obtain ⟨⟨u, hu⟩, hf, hst⟩ := h.setCellT (v := v) hb (o := o + i) (by omega) hk
  have hadd : (⟨b, o, none⟩ : Addr).add i = ⟨b, o + i, none⟩ := Qhi (b, o) i
  obtain ⟨w', hr, hs'⟩ := St.storesT (P := P) vs (i + 1) _ _ (c.set (o + i) v) hst (Heap.put_same ..) (by omega) (show o + (i + 1) + vs.length ≤ (c.set (o + i) v).length by rw [List.length_set]; omega) (fun v' hv' => h1 v' (List.mem_cons_of_mem _ hv'))
  refine ⟨w', ?_, ?_⟩
  ·simp only [storeCells, Sem.run_bind, hadd]
   rw [run_store P w _ v _ (h1 v (List.mem_cons_self ..))]
   simp only [hu, hf, Bool.false_eq_true, if_false, Result.andThen_ok]
   exact hr
  ·have : (Heap.put (Heap.put H b (.trow t k (c.set (o + i) v))) b (.trow t k (splice (c.set (o + i) v) (o + (i + 1)) vs))) = H.put b (.trow t k (splice c (o + i) (v :: vs))) := by
    funext x; by_cases hx : x = b
    ·subst hx; rw [Heap.put_same, Heap.put_same, ← QkQ (by omega)]; rfl
    ·rw [Heap.put_ne _ _ _ hx, Heap.put_ne _ _ _ hx, Heap.put_ne _ _ _ hx]
   rw [← this]; exact hs'
theorem QoM {H : Heap} : ∀ {cs : List Value} {p : Nat × Nat}, rds H p cs → ∀ j v, cs[j]? = some v → rd H (p.1, p.2 + j) = some v
 | [], p, _, j, v, h => by simp at h
 | c :: cs, p, hr, 0, v, h => by simp at h; subst h; exact hr.1
 | c :: cs, p, hr, j + 1, v, h => by
  have := QoM hr.2 j v (by simpa using h)
  rw [show p.2 + (j + 1) = p.2 + 1 + j by omega]; exact this
theorem QlR {H : Heap} : ∀ {cs : List Value} {p : Nat × Nat}, (∀ j v, cs[j]? = some v → rd H (p.1, p.2 + j) = some v) → rds H p cs
 | [], p, _ => trivial
 | c :: cs, p, h => ⟨by simpa using h 0 c (by simp), QlR (p := (p.1, p.2 + 1)) fun j v hj => by
  have := h (j + 1) v (by simpa using hj)
  rw [show p.2 + 1 + j = p.2 + (j + 1) by omega]; exact this⟩
theorem St.loads {P : Program} {C : Ctx} {w : World} {H : Heap} (h : St C w H) {p : Nat × Nat} {cs : List Value} (hr : rds H p cs) {n : Nat} (hn : n = cs.length) : (loadCells (adv p) n).run P w = .ok cs.toArray w := by
 subst hn
 refine run_loadCells_list w (adv p) cs fun j v hj => ?_
 rw [Qhi]; exact h.cell (QoM hr j v hj)
/-- the first cells of a slice -/
def rdsl (H : Heap) (s : Sl) (cs : List Value) : Prop := cs = [] ∨ (s.x = none ∧ ∃ p, s.p = some p ∧ rds H p cs)
theorem Sl.ad_some {s : Sl} {p : Nat × Nat} (hx : s.x = none) (hp : s.p = some p) : s.ad = some (adv p) := by simp [Sl.ad, hp, hx, adv]
theorem St.loadsl {P : Program} {C : Ctx} {w : World} {H : Heap} (h : St C w H) {s : Sl} {cs : List Value} (hr : rdsl H s cs) {n : Nat} (hn : n = cs.length) {a : Addr} (ha : s.ad = some a) : (loadCells a n).run P w = .ok cs.toArray w := by
 rcases hr with rfl | ⟨hx, p, hp, hr⟩
 ·subst hn; rfl
 ·rw [Sl.ad_some hx hp] at ha
  injection ha with ha; subst ha
  exact h.loads hr hn
theorem Qp8 {H H' : Heap} (h : H.le H') {p : Nat × Nat} {v : Value} (hr : rd H p = some v) : rd H' p = some v := by
 unfold rd at *
 split at hr
 ·rename_i m c hb; rw [h _ _ hb]; exact hr
 ·cases hr
theorem QtG {H H' : Heap} (h : H.le H') : ∀ {cs : List Value} {p : Nat × Nat}, rds H p cs → rds H' p cs
 | [], _, _ => trivial
 | _ :: _, _, hr => ⟨Qp8 h hr.1, QtG h hr.2⟩
theorem QkO {H H' : Heap} (h : H.le H') {s : Sl} {cs : List Value} (hr : rdsl H s cs) : rdsl H' s cs := by
 rcases hr with rfl | ⟨hx, p, hp, hr⟩
 ·exact .inl rfl
 ·exact .inr ⟨hx, p, hp, QtG h hr⟩
section
variable {P : Program} {C : Ctx} {Q : Exit → Act → World → Prop} {n : FN} {l : List (Nat × Value)} {H : Heap} {ops : Array Oper} {rest : List Oper} {d : Nat} {ty : TypeId} {pos : String} {after : Array Edge} {g : Option (Nat × Bool)}
def aggB (P : Program) (t : TypeId) : Bool :=
 match P.underlying t with
 | some (.struct _) | some (.array _ _) | none => true
 | some _ => false
theorem Qng {t : TypeId} (h : aggB P t = false) (w : World) : (isAgg t).run P w = .ok false w := by
 unfold aggB at h
 split at h
 ·cases h
 ·cases h
 ·cases h
 ·rename_i d h1 h2 h3
  cases d <;> simp_all [isAgg, underlying]
def aggT (P : Program) (t : TypeId) : Bool :=
 match P.underlying t with
 | some (.struct _) | some (.array _ _) => true
 | _ => false
theorem Qkd {t : TypeId} (h : aggT P t = true) (w : World) : (isAgg t).run P w = .ok true w := by
 unfold aggT at h
 split at h
 ·rename_i h1; simp [isAgg, underlying, h1]
 ·rename_i h1; simp [isAgg, underlying, h1]
 ·cases h
theorem OV.load {t : TypeId} {x : Operand} {p : Nat × Nat} {v : Value} (hx : opv l x = some (pv (some p))) (ht : aggB P t = false) (hr : rd H p = some v) : OV P C n l H ⟨some d, .load t x, ty, pos, after, g⟩ (v) :=
 (fun ac w hf hs => by
  have := hs.cell hr
  simp only [execOp, hf.ev hx, pv, Option.map_some, Instr.loadAt, Instr.sureAddr, loadVar]
  simp only [bind_pure_comp, Sem.run_map, Sem.run_bind, Sem.run_pure, Result.andThen_ok, Qng ht]
  simp [this])
theorem OV.loadT {t : TypeId} {x : Operand} {p : Nat × Nat} {cs : List Value} (hx : opv l x = some (pv (some p))) (ht : aggT P t = true) (hi : (P.info? t).map (·.size) = some cs.length) (hr : rds H p cs) : OV P C n l H ⟨some d, .load t x, ty, pos, after, g⟩ (.agg cs.toArray) :=
 (fun ac w hf hs => by
  cases hinf : P.info? t with
  | none => rw [hinf] at hi; cases hi
  | some inf =>
   rw [hinf] at hi
   have hsz : inf.size = cs.length := by simpa using hi
   simp only [execOp, hf.ev hx, pv, Option.map_some, Instr.loadAt, Instr.sureAddr, loadVar]
   simp only [bind_pure_comp, Sem.run_map, Sem.run_bind, Sem.run_pure, Result.andThen_ok, Qkd ht]
   simp [Go.sizeOf, typeInfo, hinf, hs.loads (P := P) hr hsz])
def ldI (H : Heap) (k : IntKind) (p : Nat × Nat) (K : Int → Prop) : Prop := ∃ x, rd H p = some (.int k x) ∧ K x
def ldB (H : Heap) (p : Nat × Nat) (K : Bool → Prop) : Prop := ∃ x, rd H p = some (.bool x) ∧ K x
def ldS (H : Heap) (p : Nat × Nat) (K : Str → Prop) : Prop := ∃ x, rd H p = some (sv x) ∧ K x
def ldP (H : Heap) (p : Nat × Nat) (K : Option (Nat × Nat) → Prop) : Prop := ∃ x, rd H p = some (pv x) ∧ K x
def ldL (H : Heap) (p : Nat × Nat) (K : Sl → Prop) : Prop := ∃ x, rd H p = some (slv x) ∧ K x
def ldV (H : Heap) (p : Nat × Nat) (K : Value → Prop) : Prop := ∃ x, rd H p = some x ∧ K x
def ldT {α : Type} (H : Heap) (c : α → List Value) (p : Nat × Nat) (K : α → Prop) : Prop := ∃ x, rds H p (c x) ∧ K x
/-- a store of one cell -/
def st (p : Nat × Nat) (v : Value) (K : Heap → Prop) (H : Heap) : Prop := ∃ c, H p.1 = some (true, .row c) ∧ p.2 < c.length ∧ K (H.put p.1 (.row (c.set p.2 v)))
/-- a store of several -/
def stT (p : Nat × Nat) (vs : List Value) (K : Heap → Prop) (H : Heap) : Prop := ∃ c, H p.1 = some (true, .row c) ∧ p.2 + vs.length ≤ c.length ∧ K (H.put p.1 (.row (splice c p.2 vs)))
theorem GL.run0 {op : Op} (hw : Wt ops l g)
 (hr : ∀ a w, Fr n l a → St C w H → ∃ w' H', (execOp a.eval ⟨none, op, ty, pos, after, g⟩).run P w = .ok .skip w' ∧ St C w' H' ∧ GL P C ops Q n rest l H') :
 GL P C ops Q n (⟨none, op, ty, pos, after, g⟩ :: rest) l H := by
 intro a w hf hs
 have hx := hw.wanted (o := ⟨none, op, ty, pos, after, g⟩) rfl hf
 obtain ⟨w', H', h1, h2, h3⟩ := hr a w hf hs
 simp only [wpList, hx, if_true]
 refine .inl ?_
 unfold Oper.wp
 rw [h1]
 exact h3 _ _ hf h2
theorem QlT {t : TypeId} {w : World} {H : Heap} (hs : St C w H) {p : Nat × Nat} {v : Value} {vs : List Value} {c : List Value} (hv : v.cells = vs.toArray) (hi : (P.info? t).map (·.size) = some vs.length)
 (h1 : ∀ u ∈ vs, u.oneCell' = true) (hb : H p.1 = some (true, .row c)) (hl : p.2 + vs.length ≤ c.length) :
 ∃ w', (storeVar t (adv p) v).run P w = .ok () w' ∧ St C w' (H.put p.1 (.row (splice c p.2 vs))) := by
 cases hinf : P.info? t with
 | none => rw [hinf] at hi; cases hi
 | some inf =>
  rw [hinf] at hi
  have hsz : inf.size = vs.length := by simpa using hi
  obtain ⟨w', h2, h3⟩ := St.stores (P := P) (b := p.1) (o := p.2) vs 0 w H c hs hb (by simpa using hl) h1
  refine ⟨w', ?_, by simpa using h3⟩
  simp [storeVar, hv, Go.sizeOf, typeInfo, hinf, hsz]
  exact h2
theorem Qn5 {c : List Value} {o : Nat} {v : Value} (h : o < c.length) : splice c o [v] = c.set o v := by
 rw [← QkQ (by simp; omega), QlK]
theorem GL.store {t : TypeId} {x y : Operand} {p : Nat × Nat} {v : Value} {K : Heap → Prop} (h : st p v K H) (hw : Wt ops l g) (hx : opv l x = some (pv (some p))) (hy : opv l y = some v) (h1 : v.oneCell' = true)
 (hi : (P.info? t).map (·.size) = some 1) (k : ∀ H', K H' → GL P C ops Q n rest l H') : GL P C ops Q n (⟨none, .store t x y, ty, pos, after, g⟩ :: rest) l H := by
 obtain ⟨c, hb, hl, hk⟩ := h
 refine GL.run0 hw fun a w hf hs => ?_
 have hv : v.cells = [v].toArray := by cases v <;> simp_all [Value.cells, Value.oneCell']
 obtain ⟨w', h2, h3⟩ := QlT (P := P) (t := t) hs (p := p) hv hi (by simpa using h1) hb (by simp; omega)
 rw [Qn5 hl] at h3
 refine ⟨w', _, ?_, h3, k _ hk⟩
 simp only [execOp, hf.ev hx, hf.ev hy, pv, Option.map_some, Instr.storeAt, Instr.sureAddr]
 simp [h2]
theorem GL.storeT {t : TypeId} {x y : Operand} {p : Nat × Nat} {vs : List Value} {K : Heap → Prop} (h : stT p vs K H) (hw : Wt ops l g) (hx : opv l x = some (pv (some p))) (hy : opv l y = some (.agg vs.toArray)) (h1 : vs.all Value.oneCell' = true)
 (hi : (P.info? t).map (·.size) = some vs.length) (k : ∀ H', K H' → GL P C ops Q n rest l H') : GL P C ops Q n (⟨none, .store t x y, ty, pos, after, g⟩ :: rest) l H := by
 obtain ⟨c, hb, hl, hk⟩ := h
 refine GL.run0 hw fun a w hf hs => ?_
 obtain ⟨w', h2, h3⟩ := QlT (P := P) (t := t) hs (p := p) (v := .agg vs.toArray) rfl hi (by simpa using h1) hb hl
 refine ⟨w', _, ?_, h3, k _ hk⟩
 simp only [execOp, hf.ev hx, hf.ev hy, pv, Option.map_some, Instr.storeAt, Instr.sureAddr]
 simp [h2]
/-- new memory -/
def nw (cs : List Value) (K : Nat → Heap → Prop) (H : Heap) : Prop := ∀ b, H b = none → K b (H.put b (.row cs))
theorem St.newRow {w : World} {H : Heap} (hs : St C w H) (e : TypeId) (cs : Array Value) : St C { w with heap := w.heap.push (.cells cs e) } (H.put w.heap.size (.row cs.toList)) :=
 hs.push ⟨by simp, fun _ => .inl rfl⟩
theorem GL.alloc {e : TypeId} {cs : List Value} {z : Value} {K : Nat → Heap → Prop} (h : nw cs K H) (hw : Wt ops l g) (hd : Nat.blt d n.n = true) (hz : (P.info? e).bind (·.zero) = some z) (hc : z.cells = cs.toArray)
 (k : ∀ b H', K b H' → GL P C ops Q n rest ((d, pv (some (b, 0))) :: l) H') : GL P C ops Q n (⟨some d, .alloc e, ty, pos, after, g⟩ :: rest) l H := by
 cases hinf : P.info? e with
 | none => rw [hinf] at hz; cases hz
 | some inf =>
  rw [hinf] at hz
  simp only [Option.bind_some] at hz
  refine GL.run (v := z) hw hd fun a w hf hs => ⟨pv (some (w.heap.size, 0)), _, _, ?_, hs.newRow e cs.toArray, k _ _ (by simpa using h _ hs.fresh)⟩
  simp only [execOp, Instr.alloc]
  simp [zeroValue, typeInfo, hinf, hz, newVar, Go.newRow, hc, pv, adv]
theorem GL.box {e : TypeId} {x : Operand} {v : Value} {cs : List Value} {K : Nat → Heap → Prop} (h : nw cs K H) (hw : Wt ops l g) (hd : Nat.blt d n.n = true) (hx : opv l x = some v) (hc : v.cells = cs.toArray)
 (k : ∀ b H', K b H' → GL P C ops Q n rest ((d, pv (some (b, 0))) :: l) H') : GL P C ops Q n (⟨some d, .box e x, ty, pos, after, g⟩ :: rest) l H := by
 refine GL.run (v := v) hw hd fun a w hf hs => ⟨pv (some (w.heap.size, 0)), _, _, ?_, hs.newRow e cs.toArray, k _ _ (by simpa using h _ hs.fresh)⟩
 simp only [execOp, hf.ev hx, Instr.box]
 simp [newVar, Go.newRow, hc, pv, adv]
/-- the run of a slice literal, given -/
def litRun (P : Program) (t : TypeId) (m : Nat) (vs : List (Nat × Value)) (cs : List Value) : Prop :=
 ∃ e, ∀ w, (Instr.buildSlice t m vs.toArray).run P w = .ok (.slice (some ⟨w.heap.size, 0, none⟩) m m) { w with heap := w.heap.push (.cells cs.toArray e) }
theorem GL.buildSlice {t : TypeId} {m : Nat} {ps : Array (Nat × Operand)} {vs : List (Nat × Value)} {cs : List Value} {K : Nat → Heap → Prop} (h : nw cs K H) (hw : Wt ops l g) (hd : Nat.blt d n.n = true) (hx : partVals l ps.toList = some vs)
 (hr : litRun P t m vs cs) (k : ∀ b H', K b H' → GL P C ops Q n rest ((d, slv (Sl.of (some (b, 0)) m m)) :: l) H') : GL P C ops Q n (⟨some d, .buildSlice t m ps, ty, pos, after, g⟩ :: rest) l H := by
 obtain ⟨e, hr⟩ := hr
 refine GL.run (v := undef) hw hd fun a w hf hs => ⟨slv (Sl.of (some (w.heap.size, 0)) m m), _, _, ?_, hs.newRow e cs.toArray, k _ _ (by simpa using h _ hs.fresh)⟩
 have h1 : ps.map (fun p => (p.1, a.eval p.2)) = vs.toArray := by apply Array.ext'; simp [hf.parts hx]
 simp only [execOp]
 rw [show (ps.map fun x => match x with | (i, x) => (i, a.eval x)) = ps.map (fun p => (p.1, a.eval p.2)) from rfl, h1]
 simp [hr, slv, Sl.ad]
theorem OV.lenStr {x : Operand} {t : TypeId} {s : Str} (hx : opv l x = some (sv s)) (ht : P.underlying t = some .string) : OV P C n l H ⟨some d, .call { callee := .builtin .len, args := #[x], argTypes := #[t] }, ty, pos, after, g⟩ (.int .i64 (s.length : Int)) :=
 (fun ac w hf hs => by
  have hsz : (⟨s.toArray⟩ : ByteArray).size = s.length := rfl
  simp only [execOp, resolve, invoke, builtin, List.map_toArray, List.map_cons, List.map_nil, hf.ev hx, sv]
  simp [Builtin.len_, underlying, ht, goInt, hsz])
theorem OV.lenSl {x : Operand} {t e : TypeId} {s : Sl} (hx : opv l x = some (slv s)) (ht : P.underlying t = some (.slice e)) : OV P C n l H ⟨some d, .call { callee := .builtin .len, args := #[x], argTypes := #[t] }, ty, pos, after, g⟩ (.int .i64 (s.len : Int)) :=
 (fun ac w hf hs => by
  simp only [execOp, resolve, invoke, builtin, List.map_toArray, List.map_cons, List.map_nil, hf.ev hx, slv]
  simp [Builtin.len_, underlying, ht, goInt])
/-- a slice's place -/
def ixa (s : Sl) (i : Int) (K : Nat × Nat → Prop) : Prop := ∃ p, s.p = some p ∧ s.x = none ∧ 0 ≤ i ∧ i < s.len ∧ K p
theorem OV.indexAddr {x y : Operand} {t e : TypeId} {s : Sl} {i : Int} {k0 : IntKind} {sz : Nat} {p : Nat × Nat} (hx : opv l x = some (slv s)) (hy : opv l y = some (.int k0 i))
 (ht : P.underlying t = some (.slice e)) (he : (P.info? e).map (·.size) = some sz) (hp : s.p = some p) (hx0 : s.x = none) (h0 : 0 ≤ i) (h1 : i < s.len) :
 OV P C n l H ⟨some d, .indexAddr t x y, ty, pos, after, g⟩ (pv (some (p.1, p.2 + i.toNat * sz))) := by
 cases hinf : P.info? e with
 | none => rw [hinf] at he; cases he
 | some inf =>
  rw [hinf] at he
  have hsz : inf.size = sz := by simpa using he
  intro ac w hf hs
  simp only [execOp, hf.ev hx, hf.ev hy, slv, Sl.ad_some hx0 hp, Instr.indexAt]
  simp [asIntOf, underlying, ht, h0, h1, Go.sizeOf, typeInfo, hinf, hsz, pv, Qhi]
/-- a string's byte -/
def ixs (s : Str) (i : Int) (K : UInt8 → Prop) : Prop := ∃ c : UInt8, 0 ≤ i ∧ s[i.toNat]? = some c ∧ K c
theorem OV.indexStr {x y : Operand} {t : TypeId} {s : Str} {i : Int} {k0 : IntKind} {c : UInt8} (hx : opv l x = some (sv s)) (hy : opv l y = some (.int k0 i))
 (ht : P.underlying t = some .string) (h0 : 0 ≤ i) (h1 : s[i.toNat]? = some c) : OV P C n l H ⟨some d, .index t x y, ty, pos, after, g⟩ (.int .u8 (c.toNat : Int)) := by
 intro ac w hf hs
 have h2 : (⟨s.toArray⟩ : ByteArray)[i.toNat]? = some c := by
  obtain ⟨hlt, he⟩ := List.getElem?_eq_some_iff.1 h1
  rw [getElem?_pos _ _ (by simpa [ByteArray.size] using hlt)]
  simp [ByteArray.getElem_eq_getElem_data, he]
 simp [execOp, hf.ev hx, hf.ev hy, sv, Instr.index, asIntOf, underlying, ht, h0, h2]
/-- s[lo:hi] of a string -/
def slS (s : Str) (lo hi : Int) (K : Str → Prop) : Prop := 0 ≤ lo ∧ lo ≤ hi ∧ hi ≤ s.length ∧ ∃ t, t = (s.take hi.toNat).drop lo.toNat ∧ K t
theorem Qig (s : Str) (a b : Nat) : (⟨s.toArray⟩ : ByteArray).extract a b = ⟨((s.take b).drop a).toArray⟩ := by
 apply ByteArray.ext
 rw [ByteArray.data_extract]
 apply Array.ext'
 rw [Array.toList_extract, List.drop_take]
def optInt (l : List (Nat × Value)) : Option Operand → Option (Option (IntKind × Int))
 | none => some none
 | some x => match opv l x with | some (.int k i) => some (some (k, i)) | _ => none
theorem Fr.optInt {a : Act} (h : Fr n l a) {x : Option Operand} {r : Option (IntKind × Int)} (hx : Sx.optInt l x = some r) : x.map a.eval = r.map fun p => Value.int p.1 p.2 := by
 cases x with
 | none => simp [Sx.optInt] at hx; subst hx; rfl
 | some x =>
  simp only [Sx.optInt] at hx
  split at hx
  ·rename_i k i h1
   injection hx with hx; subst hx
   simp [h.ev h1]
  ·cases hx
theorem OV.sliceStr {x : Operand} {lo hi : Option Operand} {t : TypeId} {s : Str} {rlo rhi : Option (IntKind × Int)} {a b : Int} (h0 : 0 ≤ a) (h1 : a ≤ b) (h2 : b ≤ s.length) {t' : Str} (ht' : t' = (s.take b.toNat).drop a.toNat) (hx : opv l x = some (sv s))
 (hlo : Sx.optInt l lo = some rlo) (hhi : Sx.optInt l hi = some rhi) (ha : a = (rlo.map fun p => p.2).getD 0) (hb : b = (rhi.map fun p => p.2).getD (s.length : Int))
 (ht : P.underlying t = some .string) : OV P C n l H ⟨some d, .slice t x lo hi none, ty, pos, after, g⟩ (sv t') := by
 subst ht'
 intro ac w hf hs
 simp only [execOp, hf.ev hx, hf.optInt hlo, hf.optInt hhi, Option.map_none, Instr.sliceAt, sv]
 have hsz : (⟨s.toArray⟩ : ByteArray).size = s.length := by simp [ByteArray.size]
 rcases rlo with _ | ⟨kl, il⟩ <;> rcases rhi with _ | ⟨kh, ih⟩ <;> simp only [Option.map_none, Option.map_some, Option.getD_none, Option.getD_some] at ha hb <;> subst ha <;> subst hb
 ·simp [underlying, ht, Instr.slice, Instr.sliceBounds]
 ·have hb1 := run_sliceBound (P := P) w kh b s.length .sliceAlen h1 h2
  simp [underlying, ht, Instr.slice, Instr.sliceBounds, hb1, hsz, Qig]
 ·have hb1 := run_sliceBound (P := P) w kl a s.length .sliceB h0 h1
  simp [underlying, ht, Instr.slice, Instr.sliceBounds, hb1, hsz, Qig]
 ·have hb1 := run_sliceBound (P := P) w kh b s.length .sliceAlen (by omega) h2
  have hb2 := run_sliceBound (P := P) w kl a b.toNat .sliceB h0 (by omega)
  simp [underlying, ht, Instr.slice, Instr.sliceBounds, hb1, hb2, hsz, Qig]
structure CallOk (P : Program) (f : FuncId) : Prop where
 ok : ∃ fn, P.funcs[f]? = some fn ∧ fn.body.isSome = true ∧ (fn.name == "runtime.NumGoroutine") = false
theorem QlS {f : FuncId} (h : CallOk P f) (args : Array Value) (w : World) : (callFunc f args).run P w = .ok (.enter f args) w := by
 obtain ⟨fn, h1, h2, h3⟩ := h.ok
 have h4 : fn.body.isNone = false := by cases hb : fn.body <;> simp_all
 simp only [callFunc, Sem.run_bind, run_program, Result.andThen_ok, h1, h3, h4, Bool.false_eq_true, if_false]
 rfl
theorem GL.callWp {o : Oper} {f : FuncId} {vs : List Value} {Φ : Value → Heap → Prop} (hc : Spec P C f vs H Φ) (hdo : o.dst = some d) (hw : Wt ops l g) (hg : o.guard = g) (hd : Nat.blt d n.n = true)
 (hrun : ∀ a w, Fr n l a → (execOp a.eval o).run P w = .ok (.enter f vs.toArray) w)
 (k : ∀ v H', Φ v H' → GL P C ops Q n rest ((d, v) :: l) H') : GL P C ops Q n (o :: rest) l H := by
 intro a w hf hs
 have hx := hw.wanted (o := o) hg hf
 simp only [wpList, hx, if_true]
 refine .inl ?_
 unfold Oper.wp
 rw [hrun a w hf]
 refine (hc w hs).mono fun e w' he => ?_
 obtain ⟨v, H', rfl, h2, h3⟩ := he
 simp only [hdo]
 exact k v H' h3 _ _ (hf.put hd) h2
/-- a call of a function by its name -/
theorem GL.call {f : FuncId} {xs : Array Operand} {ats : Array TypeId} {vs : List Value} {Φ : Value → Heap → Prop} (hc : Spec P C f vs H Φ) (hw : Wt ops l g) (hd : Nat.blt d n.n = true) (hok : CallOk P f) (hx : opvs l xs.toList = some vs)
 (k : ∀ v H', Φ v H' → GL P C ops Q n rest ((d, v) :: l) H') : GL P C ops Q n (⟨some d, .call { callee := .value (.func f), args := xs, argTypes := ats }, ty, pos, after, g⟩ :: rest) l H :=
 GL.callWp hc rfl hw rfl hd (fun a w hf => by
  have h1 : xs.map a.eval = vs.toArray := by apply Array.ext'; simp [hf.evs hx]
  simp [execOp, resolve, invoke, Deferred.ofValue, Act.eval, h1, QlS hok]) k
/-- a call of a function value -/
theorem GL.callV {f : FuncId} {x : Operand} {fs cs : List Value} {xs : Array Operand} {ats : Array TypeId} {vs : List Value} {Φ : Value → Heap → Prop} (hc : Spec P C f (fs ++ vs ++ cs) H Φ) (hw : Wt ops l g) (hd : Nat.blt d n.n = true) (hok : CallOk P f)
 (hfx : opv l x = some (.func (.func f) fs.toArray cs.toArray)) (hx : opvs l xs.toList = some vs)
 (k : ∀ v H', Φ v H' → GL P C ops Q n rest ((d, v) :: l) H') : GL P C ops Q n (⟨some d, .call { callee := .value x, args := xs, argTypes := ats }, ty, pos, after, g⟩ :: rest) l H :=
 GL.callWp hc rfl hw rfl hd (fun a w hf => by
  have h1 : xs.map a.eval = vs.toArray := by apply Array.ext'; simp [hf.evs hx]
  simp [execOp, resolve, invoke, Deferred.ofValue, hf.ev hfx, h1, QlS hok]) k
def bytesV (s : Str) : List Value := s.map fun b => .int .u8 (b.toNat : Int)
end
end
section
open Go
def zeros (zc : List Value) : Nat → List Value
 | 0 => []
 | k + 1 => zc ++ zeros zc k
theorem QeO (zc : List Value) : ∀ k, (zeros zc k).length = k * zc.length
 | 0 => by simp [zeros]
 | k + 1 => by simp [zeros, QeO zc k]; rw [Nat.add_mul]; omega
theorem QpJ (zc : List Value) : ∀ (k i : Nat), i < k * zc.length → (zeros zc k)[i]? = zc[i % zc.length]?
 | 0, i, h => by omega
 | k + 1, i, h => by
  rw [Nat.add_mul] at h
  simp only [zeros]
  by_cases hi : i < zc.length
  ·rw [List.getElem?_append_left hi, Nat.mod_eq_of_lt hi]
  ·rw [List.getElem?_append_right (by omega), QpJ zc k (i - zc.length) (by omega)]
   congr 1
   rw [Nat.mod_eq_sub_mod (a := i) (by omega)]
theorem Ql6 (zc : List Value) (k : Nat) : Builtin.zeroCells zc.toArray k = (zeros zc k).toArray := by
 apply Array.ext'
 apply List.ext_getElem?
 intro i
 simp only [Builtin.zeroCells, List.size_toArray, Array.toList_map, Array.toList_range, List.getElem?_map]
 by_cases hi : i < k * zc.length
 ·have hz := QpJ zc k i hi
  have hpos : 0 < zc.length := by
   rcases Nat.eq_zero_or_pos zc.length with h | h
   ·rw [h] at hi; omega
   ·exact h
  have hm : i % zc.length < zc.length := Nat.mod_lt _ hpos
  simp [hi, hz, hm]
 ·have h1 : (zeros zc k)[i]? = none := by rw [List.getElem?_eq_none]; rw [QeO]; omega
  simp [hi, h1]
/-- append of m elements, whose cells are ys, to s; an element has sz cells and 'bytes' bytes; zc: the zero element's cells -/
def apd (zc : List Value) (bytes : Nat) (s : Sl) (ys : List Value) (m : Nat) (K : Sl → Heap → Prop) (H : Heap) : Prop :=
 ∃ xs, rdsl H s xs ∧ xs.length = s.len * zc.length ∧ ys.length = m * zc.length ∧ (s.len + m) * bytes ≤ 140737488355328 ∧ s.len + m ≤ 9223372036854775807 ∧
  (s.len + m ≤ s.cap → (ys = [] ∧ K ⟨s.p, s.len + m, s.cap, s.x⟩ H) ∨
   (∃ p c, s.p = some p ∧ s.x = none ∧ H p.1 = some (true, .row c) ∧ p.2 + s.len * zc.length + ys.length ≤ c.length ∧ K ⟨s.p, s.len + m, s.cap, s.x⟩ (H.put p.1 (.row (splice c (p.2 + s.len * zc.length) ys))))) ∧
  (s.cap < s.len + m → ∀ b cap, H b = none → s.len + m ≤ cap → K (Sl.of (some (b, 0)) (s.len + m) cap) (H.put b (.row (xs ++ ys ++ zeros zc (cap - (s.len + m))))))
/-- the cells of what is appended -/
structure Src (P : Program) (C : Ctx) (H : Heap) (x : Value) (sz : Nat) (ys : List Value) (m : Nat) : Prop where
 len : ∀ w, (Builtin.lenOf x).run P w = .ok m w
 cells : ∀ w, St C w H → (Builtin.firstCells sz m x).run P w = .ok ys.toArray w
theorem Src.slice {P : Program} {C : Ctx} {H : Heap} {t : Sl} {sz : Nat} {ys : List Value} (hr : rdsl H t ys) (hl : ys.length = t.len * sz) : Src P C H (slv t) sz ys t.len := by
 refine ⟨fun w => by simp [Builtin.lenOf, slv], fun w hs => ?_⟩
 simp only [Builtin.firstCells, slv]
 cases ha : t.ad with
 | none =>
  rcases hr with rfl | ⟨hx, p, hp, hr⟩
  ·rfl
  ·rw [Sl.ad_some hx hp] at ha; cases ha
 | some a => exact hs.loadsl hr hl.symm ha
theorem Src.str {P : Program} {C : Ctx} {H : Heap} {s : Str} : Src P C H (sv s) 1 (bytesV s) s.length := by
 refine ⟨fun w => by simp [Builtin.lenOf, sv, ByteArray.size], fun w hs => ?_⟩
 simp only [Builtin.firstCells, sv, Sem.run_pure]
 congr 1
 rw [Qig]
 simp [bytesV]
section
variable {P : Program} {C : Ctx} {Q : Exit → Act → World → Prop} {n : FN} {l : List (Nat × Value)} {H : Heap} {ops : Array Oper} {rest : List Oper} {d : Nat} {ty : TypeId} {pos : String} {after : Array Edge} {g : Option (Nat × Bool)}
/-- the element type's row -/
structure Elem (P : Program) (t : TypeId) (zc : List Value) (bytes : Nat) : Prop where
 ok : ∃ e i z, P.underlying t = some (.slice e) ∧ P.info? e = some i ∧ i.size = zc.length ∧ i.bytes = bytes ∧ i.zero = some z ∧ z.cells = zc.toArray
theorem Qq9 {t t2 : TypeId} {s : Sl} {x : Value} {ys : List Value} {m : Nat} {zc : List Value} {bytes : Nat} {K : Sl → Heap → Prop} {w : World}
 (h : apd zc bytes s ys m K H) (hs : St C w H) (he : Elem P t zc bytes) (h2 : ∃ u, P.underlying t2 = some u ∧ ∀ k, u ≠ .int k) (hx : Src P C H x zc.length ys m) (h1 : ∀ u ∈ ys, u.oneCell' = true) :
 ∃ r w' H', (Builtin.append_ #[t, t2] ty #[slv s, x]).run P w = .ok (slv r) w' ∧ St C w' H' ∧ K r H' := by
 obtain ⟨e, i, z, hu, hi, hsz, hby, hz, hzc⟩ := he.ok
 obtain ⟨u2, hu2, hne⟩ := h2
 obtain ⟨xs, hxr, hxl, hyl, hb, h63, hfit, hgrow⟩ := h
 by_cases hle : s.len + m ≤ s.cap
 ·rcases hfit hle with ⟨hy0, hk⟩ | ⟨p, c, hp, hx0, hc, hlen, hk⟩
  ·subst hy0
   refine ⟨_, w, H, ?_, hs, hk⟩
   have hc0 := hx.cells w hs
   have hs2 : slv ⟨s.p, s.len + m, s.cap, s.x⟩ = .slice s.ad (s.len + m) s.cap := rfl
   rw [hs2]
   cases hp : s.ad with
   | none =>
    simp [Builtin.append_, underlying, hu, hu2, Go.sizeOf, typeInfo, hi, slv, hp, hx.len w, hle, hsz, hc0]
   | some p =>
    simp [Builtin.append_, underlying, hu, hu2, Go.sizeOf, typeInfo, hi, slv, hp, hx.len w, hle, hsz, hc0, storeCells]
  ·have hc0 := hx.cells w hs
   obtain ⟨w', hst, hs'⟩ := St.stores (P := P) (C := C) (b := p.1) (o := p.2 + s.len * zc.length) ys 0 w H c hs hc (by omega) h1
   refine ⟨_, w', _, ?_, hs', hk⟩
   have ha : (adv p).add (s.len * zc.length) = ⟨p.1, p.2 + s.len * zc.length, none⟩ := Qhi p _
   have hs2 : slv ⟨s.p, s.len + m, s.cap, s.x⟩ = .slice s.ad (s.len + m) s.cap := rfl
   rw [hs2]
   simp [Builtin.append_, underlying, hu, hu2, Go.sizeOf, typeInfo, hi, slv, Sl.ad_some hx0 hp, hx.len w, hle, hsz, hc0, ha, hst]
 ·have hgt : s.cap < s.len + m := by omega
  have hd : St C w.drew H := hs.drew
  have hc0 := hx.cells w.drew hd
  have h63' : ¬ (9223372036854775807 < ((s.len : Int) + (m : Int))) := by omega
  have h48' : ¬ (281474976710656 < Builtin.nextslicecap (s.len + m) s.cap * bytes) := by have := growslice_fits (bytes := bytes) hgt hb; omega
  have hold : (Builtin.firstCells zc.length s.len (slv s)).run P w.drew = .ok xs.toArray w.drew := (Src.slice (P := P) (C := C) hxr hxl).cells w.drew hd
  have hcap := grownCap_ge w (s.len + m) s.cap e
  have hrow : xs.toArray ++ ys.toArray ++ Builtin.zeroCells z.cells (grownCap w (s.len + m) s.cap e - (s.len + m)) = (xs ++ ys ++ zeros zc (grownCap w (s.len + m) s.cap e - (s.len + m))).toArray := by
   rw [hzc, Ql6]; simp
  refine ⟨Sl.of (some (w.heap.size, 0)) (s.len + m) (grownCap w (s.len + m) s.cap e), w.drew.alloc (.cells (xs ++ ys ++ zeros zc (grownCap w (s.len + m) s.cap e - (s.len + m))).toArray e), _, ?_, ?_, hgrow hgt w.heap.size (grownCap w (s.len + m) s.cap e) hs.fresh hcap⟩
  ·rw [← hrow]
   have hs2 : slv s = .slice s.ad s.len s.cap := rfl
   have hs3 : ∀ a c : Nat, slv (Sl.of (some (w.heap.size, 0)) a c) = .slice (some ⟨w.heap.size, 0, none⟩) a c := fun _ _ => rfl
   rw [hs3]
   rw [hs2] at hold ⊢
   simp [Builtin.append_, underlying, hu, hu2, Go.sizeOf, typeInfo, zeroValue, hi, hz, hby, hsz, hx.len w, hle, h63', h48', Question.forced, hc0, hold, Go.newRow, grownCap]
   refine congrArg (fun a : Array Value => w.drew.alloc (.cells a e)) ?_
   apply Array.ext'
   simp
  ·exact hd.push ⟨rfl, fun _ => .inl rfl⟩
theorem GL.append {x y : Operand} {t t2 : TypeId} {s : Sl} {yv : Value} {ys : List Value} {m : Nat} {zc : List Value} {bytes : Nat} {K : Sl → Heap → Prop} (h : apd zc bytes s ys m K H) (hw : Wt ops l g) (hd : Nat.blt d n.n = true)
 (hx : opv l x = some (slv s)) (hy : opv l y = some yv) (he : Elem P t zc bytes) (h2 : ∃ u, P.underlying t2 = some u ∧ ∀ k, u ≠ .int k) (hsrc : Src P C H yv zc.length ys m) (h1 : ∀ u ∈ ys, u.oneCell' = true)
 (k : ∀ r H', K r H' → GL P C ops Q n rest ((d, slv r) :: l) H') : GL P C ops Q n (⟨some d, .call { callee := .builtin .append, args := #[x, y], argTypes := #[t, t2] }, ty, pos, after, g⟩ :: rest) l H := by
 refine GL.run (v := undef) hw hd fun a w hf hst => ?_
 obtain ⟨r, w', H', hr, hs', hk⟩ := Qq9 (P := P) (ty := ty) h hst he h2 hsrc h1
 refine ⟨slv r, w', H', ?_, hs', k _ _ hk⟩
 simp only [execOp, resolve, invoke, builtin, List.map_toArray, List.map_cons, List.map_nil, hf.ev hx, hf.ev hy]
 simp [hr]
/-- append of a slice -/
def apS (zc : List Value) (bytes : Nat) (s t : Sl) (K : Sl → Heap → Prop) (H : Heap) : Prop :=
 ∃ ys, rdsl H t ys ∧ (∀ u ∈ ys, u.oneCell' = true) ∧ apd zc bytes s ys t.len K H
theorem GL.appendS {x y : Operand} {t t2 e2 : TypeId} {s s2 : Sl} {zc : List Value} {bytes : Nat} {K : Sl → Heap → Prop} (h : apS zc bytes s s2 K H) (hw : Wt ops l g) (hd : Nat.blt d n.n = true)
 (hx : opv l x = some (slv s)) (hy : opv l y = some (slv s2)) (he : Elem P t zc bytes) (h2 : P.underlying t2 = some (.slice e2))
 (k : ∀ r H', K r H' → GL P C ops Q n rest ((d, slv r) :: l) H') : GL P C ops Q n (⟨some d, .call { callee := .builtin .append, args := #[x, y], argTypes := #[t, t2] }, ty, pos, after, g⟩ :: rest) l H := by
 obtain ⟨ys, h3, h4, h5⟩ := h
 have hl := h5
 obtain ⟨_, _, _, hyl, _⟩ := hl
 exact GL.append h5 hw hd hx hy he ⟨_, h2, fun _ h => by cases h⟩ (Src.slice h3 hyl) h4 k
theorem Qne {b : Nat} {cs : List Value} {m : Bool} : rds (H.put b (.row cs) m) (b, 0) cs :=
 QlR fun j v hj => by simp [rd, Heap.put_same, GO.cells?, hj]
theorem Heap.le.puts {A B : Heap} (h : A.le B) (b : Nat) (g : GO) (m : Bool) : (A.put b g m).le (B.put b g m) := fun x e hx => by
 by_cases hxb : x = b
 ·subst hxb; rw [Heap.put_same] at hx ⊢; exact hx
 ·rw [Heap.put_ne _ _ _ hxb] at hx ⊢; exact h x e hx
theorem apd.frame {zc : List Value} {bytes : Nat} {s : Sl} {ys : List Value} {m : Nat} {K : Sl → Heap → Prop} {H' : Heap} (h : apd zc bytes s ys m K H) (hle : H.le H') :
 apd zc bytes s ys m (fun r H2 => ∃ H0, K r H0 ∧ H0.le H2) H' := by
 obtain ⟨xs, h1, h2, h3, h4, h5, h6, h7⟩ := h
 refine ⟨xs, QkO hle h1, h2, h3, h4, h5, fun hc => ?_, fun hc b cap hb hcap => ⟨_, h7 hc b cap (hle.none hb) hcap, hle.puts _ _ _⟩⟩
 rcases h6 hc with ⟨e, hk⟩ | ⟨p, c, e1, e0, e2, e3, hk⟩
 ·exact .inl ⟨e, _, hk, hle⟩
 ·exact .inr ⟨p, c, e1, e0, hle _ _ e2, e3, _, hk, hle.puts _ _ _⟩
theorem GL.weaken {H' : Heap} (hle : H.le H') (k : GL P C ops Q n rest l H) : GL P C ops Q n rest l H' := fun a w hf hs => k a w hf (hs.weaken hle)
/-- append of elements that are written out: a slice literal, then the append -/
theorem GL.appendLit {x y : Operand} {t t2 e2 t3 ty2 : TypeId} {d2 m : Nat} {s : Sl} {ps : Array (Nat × Operand)} {vs : List (Nat × Value)} {ys : List Value} {zc : List Value} {bytes : Nat} {K : Sl → Heap → Prop} {pos2 : String} {after2 : Array Edge} {g2 : Option (Nat × Bool)}
 (h : apd zc bytes s ys m K H) (hw : Wt ops l g) (hd : Nat.blt d n.n = true) (hw2 : ∀ v, Wt ops ((d, v) :: l) g2) (hd2 : Nat.blt d2 n.n = true)
 (hx : ∀ v, opv ((d, v) :: l) x = some (slv s)) (hy : ∀ v, opv ((d, v) :: l) y = some v) (hp : partVals l ps.toList = some vs) (hr : litRun P t3 m vs ys) (he : Elem P t zc bytes) (h2 : P.underlying t2 = some (.slice e2)) (h1 : ys.all Value.oneCell' = true)
 (k : ∀ v r H', K r H' → GL P C ops Q n rest ((d2, slv r) :: (d, v) :: l) H') :
 GL P C ops Q n (⟨some d, .buildSlice t3 m ps, ty, pos, after, g⟩ :: ⟨some d2, .call { callee := .builtin .append, args := #[x, y], argTypes := #[t, t2] }, ty2, pos2, after2, g2⟩ :: rest) l H := by
 refine GL.buildSlice (K := fun b H' => H' = H.put b (.row ys) ∧ H b = none) (fun b hb => ⟨rfl, hb⟩) hw hd hp hr ?_
 rintro b H' ⟨rfl, hb⟩
 refine GL.appendS (s2 := Sl.of (some (b, 0)) m m) ⟨ys, .inr ⟨rfl, _, rfl, Qne⟩, by simpa using h1, h.frame ((Heap.le.refl H).put _ _ hb)⟩ (hw2 _) hd2 (hx _) (hy _) he h2 ?_
 rintro r H2 ⟨H0, hk, hle⟩
 exact GL.weaken hle (k _ r H0 hk)
end
end
section
open Go
section
variable {P : Program} {C : Ctx} {Q : Exit → Act → World → Prop} {n : FN} {l : List (Nat × Value)} {H : Heap} {ops : Array Oper} {rest tl : List Oper} {d : Nat} {ty : TypeId} {pos : String} {after : Array Edge} {g : Option (Nat × Bool)}
theorem GC.sub {c : Code} (l' : List (Nat × Value)) (hs : Sub l l') (k : GC P C Q n c l' H) : GC P C Q n c l H := fun a w hf hw => k a w (hf.sub hs) hw
/-- a piece of the list, then the rest -/
theorem QjI {K : Act → World → Prop} : ∀ (x : List Oper) {y : List Oper} {a : Act} {w : World}, wpList P ops (Exit.then K Q) x a w → (∀ a w, K a w → wpList P ops Q y a w) → wpList P ops Q (x ++ y) a w
 | [], y, a, w, h, hk => hk a w h
 | o :: x, y, a, w, h, hk => by
  simp only [List.cons_append, wpList] at h ⊢
  split
  ·rename_i hw
   rw [if_pos hw] at h
   rcases h with h | ⟨h1, a0, w0, h2⟩
   ·refine .inl ?_
    have hm : ∀ a w, wpList P ops (Exit.then K Q) x a w → wpList P ops Q (x ++ y) a w := fun a w h => QjI x h hk
    unfold Oper.wp at h ⊢
    generalize (execOp a.eval o).run P w = r at *
    cases r with
    | ok nx w' =>
     cases nx <;> simp only [Oper.upon] at h ⊢ <;>
      first
       | exact hm _ _ h
       | exact Calls.mono h (fun e w'' he => by
        cases e with
        | returned v => exact hm _ _ he
        | panicked c => exact he
        | outgrown => obtain ⟨a0, w0, h3⟩ := he; exact ⟨a0, w0, h3⟩)
       | exact Rows.mono h (fun _ _ he => hm _ _ he)
    | halt hh w' => cases hh <;> simp only [Oper.upon] at h ⊢ <;> exact h
   ·exact .inr ⟨h1, a0, w0, h2⟩
  ·rename_i hw
   rw [if_neg hw] at h
   exact QjI x h hk
theorem GL.split {α : Type} (x : List Oper) {y : List Oper} (J : α → Heap → Prop) (e : α → List (Nat × Value)) (h1 : GL P C ops (Exit.then (Meet C n J e) Q) n x l H) (h2 : ∀ v H', J v H' → GL P C ops Q n y (e v) H') :
 GL P C ops Q n (x ++ y) l H :=
 fun a w hf hs => QjI x (h1 a w hf hs) fun a' w' ⟨v, H', hj, hf', hs'⟩ => h2 v H' hj a' w' hf' hs'
/-- the first k of a list -/
theorem GL.cut {α : Type} (k : Nat) {r : List Oper} (J : α → Heap → Prop) (e : α → List (Nat × Value)) (h1 : GL P C ops (Exit.then (Meet C n J e) Q) n (r.take k) l H) (h2 : ∀ v H', J v H' → GL P C ops Q n (r.drop k) (e v) H') :
 GL P C ops Q n r l H := by
 have := GL.split (r.take k) J e h1 h2
 rwa [List.take_append_drop] at this
theorem GL.cut0 (k : Nat) {r : List Oper} (l' : List (Nat × Value)) (h1 : GL P C ops (Exit.then (Meet C n (fun (_ : Unit) H2 => H2 = H) (fun _ => l')) Q) n (r.take k) l H) (h2 : GL P C ops Q n (r.drop k) l' H) :
 GL P C ops Q n r l H := GL.cut k _ _ h1 fun _ _ e => by subst e; exact h2
/-- ways meet behind a piece of code -/
theorem GC.meet {α : Type} {c : Code} (J : α → Heap → Prop) (e : α → List (Nat × Value)) (h1 : GC P C (Exit.then (Meet C n J e) Q) n c l H) (h2 : ∀ x H', J x H' → GL P C #[] Q n [] (e x) H') : GC P C Q n c l H :=
 fun a w hf hs => wp_mono (h1 a w hf hs) fun ex a' w' hq => by
  cases ex with
  | normal => obtain ⟨x, H', hj, hf', hs'⟩ := hq; exact h2 x H' hj a' w' hf' hs'
  | _ => exact hq
def GQ (P : Program) (C : Ctx) (ops : Array Oper) (Q : Exit → Act → World → Prop) (n : FN) (rest : List Oper) (l : List (Nat × Value)) (H : Heap) : Prop :=
 ∀ a w, Fr n l a → St C w H → wpQuiet P ops (fun w => St C w H) (fun a' => ∀ w', St C w' H → Q .normal a' w') rest a
theorem GC.draw {id : Nat} {ops : List Oper} (hm : P.follows .mixedOrders = true) (hB : Region.lexB .any ops.toArray = true) (k : GQ P C ops.toArray Q n ops l H) : GC P C Q n (.region id ops.toArray true) l H :=
 fun a w hf hs => wp_region_quiet (C := fun w => St C w H) hm hB hs.drew (by simpa using k a w hf hs)
theorem GQ.val {op : Op} {v : Value} (hw : Wt ops l g) (hd : Nat.blt d n.n = true) (hr : OV P C n l H ⟨some d, op, ty, pos, after, g⟩ v) (k : GQ P C ops Q n rest ((d, v) :: l) H) :
 GQ P C ops Q n (⟨some d, op, ty, pos, after, g⟩ :: rest) l H := by
 intro a w0 hf hs0
 have hx := hw.wanted (o := ⟨some d, op, ty, pos, after, g⟩) rfl hf
 simp only [wpQuiet, hx, if_true]
 refine ⟨v, fun w hs => ?_, k _ w0 (hf.put hd) hs0⟩
 unfold Oper.quietAt
 rw [hr a w hf hs]
 exact ⟨rfl, rfl⟩
theorem GQ.nil (k : GL P C ops Q n [] l H) : GQ P C ops Q n [] l H := fun a _ hf _ w hs => k a w hf hs
end
end
section
open Go
def nck (q : Option (Nat × Nat)) (K : Nat × Nat → Prop) : Prop := ∃ p, q = some p ∧ K p
def catOk (a b : Str) : Prop := a.length + b.length < 9223372036854775807
section
variable {P : Program} {C : Ctx} {Q Q' : Exit → Act → World → Prop} {n : FN} {l : List (Nat × Value)} {H : Heap} {ops : Array Oper} {rest tl : List Oper} {d : Nat} {ty : TypeId} {pos : String} {after : Array Edge} {g : Option (Nat × Bool)}
theorem GC.exit_to {id : Nat} {y : Code} (hq : ∀ a w, y.wp P Q' a w → Q (.exit id) a w) (k : GC P C Q' n y l H) : GC P C Q n (.exit id) l H := fun a w hf hs => wp_exit (hq a w (k a w hf hs))
theorem GC.exit_ends {id : Nat} (h : ∀ a w, Fr n l a → St C w H → Q (.exit id) a w) : GC P C Q n (.exit id) l H := fun a w hf hs => wp_exit (h a w hf hs)
theorem GC.skip_to {y : Code} (hq : ∀ a w, y.wp P Q' a w → Q .normal a w) (k : GC P C Q' n y l H) : GC P C Q n .skip l H := fun a w hf hs => wp_skip (hq a w (k a w hf hs))
theorem GL.nil_to {y : Code} (hq : ∀ a w, y.wp P Q' a w → Q .normal a w) (k : GC P C Q' n y l H) : GL P C ops Q n [] l H := fun a w hf hs => hq a w (k a w hf hs)
theorem GL.jump0 {α : Type} {J : α → Heap → Prop} {e : α → List (Nat × Value)} (hq : ∀ a w, Meet C n J e a w → Q .normal a w) (x : α) (hj : J x H) (hs : Sub l (e x)) : GL P C ops Q n [] l H := GL.jump hq x hj hs
theorem OV.maxI {x y : Operand} {ats : Array TypeId} {k0 : IntKind} {a b : Int} (hx : opv l x = some (.int k0 a)) (hy : opv l y = some (.int k0 b)) :
 OV P C n l H ⟨some d, .call { callee := .builtin .max, args := #[x, y], argTypes := ats }, ty, pos, after, g⟩ (.int k0 (if b > a then b else a)) := fun ac w hf hs => by
 simp only [execOp, resolve, invoke, builtin, List.map_toArray, List.map_cons, List.map_nil, hf.ev hx, hf.ev hy]
 simp [Builtin.max_, Builtin.max2]
end
end
section
open Go
/-- a region that asks in which order: Hs: what its looks lean on, kept by all that acts -/
def dr (H : Heap) (K : Heap → Prop) : Prop := ∃ Hs, Heap.le Hs H ∧ K Hs
def GA (P : Program) (C : Ctx) (ops : Array Oper) (Q : Exit → Act → World → Prop) (n : FN) (fuel : Nat) (listed : Array Bool) (l : List (Nat × Value)) (H Hs : Heap) : Prop :=
 ∀ a w, Fr n l a → St C w H → St C w Hs → wpAnyH P .any ops Q (fun w => St C w Hs) fuel listed a w
section
variable {P : Program} {C : Ctx} {Q : Exit → Act → World → Prop} {n : FN} {l : List (Nat × Value)} {H Hs : Heap} {ops : Array Oper} {fuel : Nat} {listed : Array Bool} {d : Nat} {op : Op} {ty : TypeId} {pos : String} {after : Array Edge} {g : Option (Nat × Bool)}
theorem GC.any {id : Nat} {ops : List Oper} (hm : P.follows .mixedOrders = true) (hle : Hs.le H) (k : GA P C ops.toArray Q n ops.toArray.size (Array.replicate ops.toArray.size false) l H Hs) : GC P C Q n (.region id ops.toArray true) l H :=
 fun a w hf hs => wp_region_held hm (k a _ hf hs.drew (hs.drew.weaken hle))
theorem GA.take (i : Nat) {v : Value} (hi : ops[i]? = some ⟨some d, op, ty, pos, after, g⟩) (hs : Region.noSelect ops = true) (hf : Region.free .any ops listed i = true) (hr : (Region.ready .any ops listed).contains i = true)
 (hQ : ∀ c a w, Q (.panic c) a w → False) (hw : Wt ops l g) (hd : Nat.blt d n.n = true) (hv : OV P C n l Hs ⟨some d, op, ty, pos, after, g⟩ v)
 (k : GA P C ops Q n fuel (listed.setIfInBounds i true) ((d, v) :: l) H Hs) : GA P C ops Q n (fuel + 1) listed l H Hs := by
 intro a w hfr hst hss
 exact wpAnyH_take hi hs hf hr (fun c a w h => (hQ c _ w h).elim) (.inl ⟨hw.wanted (o := ⟨some d, op, ty, pos, after, g⟩) rfl hfr, fun w' hw' => hv a w' hfr hw'⟩) hss (k _ w (hfr.put hd) hst hss)
theorem GA.skip (i : Nat) (hi : ops[i]? = some ⟨some d, op, ty, pos, after, g⟩) (hs : Region.noSelect ops = true) (hf : Region.free .any ops listed i = true) (hr : (Region.ready .any ops listed).contains i = true)
 (hQ : ∀ c a w, Q (.panic c) a w → False) (hw : Wn ops l g) (hd : Nat.blt d n.n = true)
 (k : GA P C ops Q n fuel (listed.setIfInBounds i true) ((d, undef) :: l) H Hs) : GA P C ops Q n (fuel + 1) listed l H Hs := by
 intro a w hfr hst hss
 exact wpAnyH_take hi hs hf hr (fun c a w h => (hQ c _ w h).elim) (.inr ⟨hw.wanted (o := ⟨some d, op, ty, pos, after, g⟩) rfl hfr, rfl⟩) hss (k _ w (hfr.put hd) hst hss)
theorem GA.eff (i : Nat) {o : Oper} (hi : ops[i]? = some o) (hr : Region.ready .any ops listed = [i])
 (k : GL P C ops (Exit.then (fun a w => St C w Hs ∧ wpAnyH P .any ops Q (fun w => St C w Hs) fuel (listed.setIfInBounds i true) a w) Q) n [o] l H) : GA P C ops Q n (fuel + 1) listed l H Hs := by
 intro a w hfr hst hss
 refine wpAnyH_all hr (by simp) fun j hj => ?_
 have hji : j = i := by simpa using hj
 subst hji
 have h := k a w hfr hst
 unfold wpOp
 simp only [hi]
 simp only [wpList] at h
 split
 ·rename_i hw
  rw [if_pos hw] at h
  rcases h with h | ⟨h1, a0, w0, h2⟩
  ·refine .inl ?_
   unfold Oper.wp at h ⊢
   generalize (execOp a.eval o).run P w = r at *
   cases r with
   | ok nx w' =>
    cases nx <;> simp only [Oper.upon] at h ⊢ <;>
     first
      | exact h
      | exact Calls.mono h (fun e w'' he => by
       cases e with
       | returned v => exact he
       | panicked c => exact he
       | outgrown => obtain ⟨a0, w0, h3⟩ := he; exact ⟨a0, w0, h3⟩)
   | halt hh w' => cases hh <;> simp only [Oper.upon] at h ⊢ <;> exact h
  ·exact .inr ⟨h1, a0, w0, h2⟩
 ·rename_i hw
  rw [if_neg hw] at h
  exact h
theorem QpH {K : Act → World → Prop} {i : Nat} {o : Oper} {a : Act} {w : World} (hi : ops[i]? = some o) (h : wpList P ops (Exit.then K Q) [o] a w) : wpOp P ops Q i K a w := by
 unfold wpOp
 simp only [hi]
 simp only [wpList] at h
 split
 ·rename_i hw
  rw [if_pos hw] at h
  rcases h with h | ⟨h1, a0, w0, h2⟩
  ·refine .inl ?_
   unfold Oper.wp at h ⊢
   generalize (execOp a.eval o).run P w = r at *
   cases r with
   | ok nx w' =>
    cases nx <;> simp only [Oper.upon] at h ⊢ <;>
     first
      | exact h
      | exact Calls.mono h (fun e w'' he => by
       cases e with
       | returned v => exact he
       | panicked c => exact he
       | outgrown => obtain ⟨a0, w0, h3⟩ := he; exact ⟨a0, w0, h3⟩)
   | halt hh w' => cases hh <;> simp only [Oper.upon] at h ⊢ <;> exact h
  ·exact .inr ⟨h1, a0, w0, h2⟩
 ·rename_i hw
  rw [if_neg hw] at h
  exact h
theorem GA.back {fuel' : Nat} {listed' : Array Bool} (hle : Hs.le H) (k : GA P C ops Q n fuel' listed' l H Hs) :
 GL P C ops (Exit.then (fun a w => St C w Hs ∧ wpAnyH P .any ops Q (fun w => St C w Hs) fuel' listed' a w) Q) n [] l H :=
 fun a w hf hs => ⟨hs.weaken hle, k a w hf hs (hs.weaken hle)⟩
theorem GA.done (hr : Region.ready .any ops listed = []) (k : GL P C ops Q n [] l H) : GA P C ops Q n fuel listed l H Hs :=
 fun a w hf hs _ => wpAnyH_done hr (k a w hf hs) fuel
theorem GA.sub (l' : List (Nat × Value)) (hs : Sub l l') (k : GA P C ops Q n fuel listed l' H Hs) : GA P C ops Q n fuel listed l H Hs := fun a w hf hw => k a w (hf.sub hs) hw
end
end
section
open Go
def heapOf (W : World) : Heap := fun b => (W.heap[b]?).map fun o => (false, match o with | .cells c _ _ => .row c.toList | o => .obj o)
def ctxOf (W : World) : Ctx := ⟨W.heap, W.output, W.os, W.tape, W.drawn⟩
theorem Qsu (W : World) : St (ctxOf W) W (heapOf W) := by
 refine ⟨fun b m g h => ?_, fun b g h => ?_, fun _ _ => rfl, rfl, ⟨rfl, Nat.le_refl _⟩, fun _ => none, fun b m T e bs h => ?_, fun b b' g m T e bs m' T' e' bs' _ _ h => by cases h⟩
 rotate_left 2
 ·simp only [heapOf, Option.map_eq_some_iff, Prod.mk.injEq] at h
  obtain ⟨o, ho, hm, hg⟩ := h
  cases o <;> cases hg
 ·simp only [heapOf, Option.map_eq_some_iff, Prod.mk.injEq] at h
  obtain ⟨o, ho, hm, hg⟩ := h
  refine ⟨o, ho, ?_⟩
  subst hm
  cases o <;> simp only at hg <;> subst hg
  ·exact ⟨by simp, fun h => by cases h⟩
  all_goals exact ⟨rfl, fun _ _ _ h => by cases h⟩
 ·simp only [heapOf, Option.map_eq_some_iff, Prod.mk.injEq] at h
  obtain ⟨o, ho, hm, hg⟩ := h
  cases hm
theorem St.sameAt {W W' : World} {H : Heap} (h : St (ctxOf W) W' H) {p : MemPlace} (hp : p.block < W.heap.size) : W.sameAt W' p := by
 have hb : W'.heap[p.block]? = W.heap[p.block]? := h.old p.block hp
 cases p with
 | cell b o => exact World.cell?_of_block (w := W) hb
 | map b => exact hb
theorem St.frame {W W' : World} {H : Heap} (h : St (ctxOf W) W' H) (may : MemPlace → Prop) : W.keptBut W' may := by
 refine ⟨congrArg (fun q : Os × (Nat → Question → Nat) => q.1) h.os.1, h.out, fun i hi => ?_⟩
 rw [show W'.heap[i]? = W.heap[i]? from h.old i hi]
 split <;> simp_all
section
variable {H : Type} {enc : TypeId × Value → H} {P : Program}
theorem QpA (hl : laidOutB P = true) {W W' : World} {G : Heap} (hst : St (ctxOf W) W' G) : ∀ {ts : List TypeId} {vs : List Value} {ds : List (DataW H)} {ps : List MemPlace}, ts.all (fun t => P.readableRec t && decide (t < P.types.size)) = true →
 DataW.TrodAll enc P W 0 (fun _ => true) true ts vs ds ps → (∀ x ∈ ps, x.block < W.heap.size) → DataW.TrodAll enc P W' 0 (fun b => decide (b < W.heap.size)) true ts vs ds ps
 | [], vs, ds, ps, _, h, _ => by
  cases vs <;> cases ds <;> simp_all [DataW.TrodAll]
 | t :: ts, vs, ds, ps, ht, h, hlt => by
  obtain ⟨v, vs', d, ds', p, q, rfl, rfl, rfl, h1, h2⟩ := ChangeShapes.trodAll_cons h
  simp only [List.all_cons, Bool.and_eq_true, decide_eq_true_eq] at ht
  exact trodAll_cons_mk (WideElems.Trod_stays hl ht.1.1 ht.1.2 h1 (fun x hx => hst.sameAt (hlt x (List.mem_append_left _ hx))) (fun x hx => by simpa using hlt x (List.mem_append_left _ hx)))
   (QpA hl hst ht.2 h2 (fun x hx => hlt x (List.mem_append_right _ hx)))
mutual
def sizeD {H : Type} : DataW H → Nat
 | .lit (.string bytes) => bytes.length + 1
 | .lit _ => 1
 | .nil => 1
 | .ptr d => sizeD d + 1
 | .slice elems spare => sizeDs elems + sizeDs spare + 1
 | .agg parts => sizeDs parts + 1
 | .iface _ d => sizeD d + 1
 | .map _ => 1
 | .held _ => 1
def sizeDs {H : Type} : List (DataW H) → Nat
 | [] => 0
 | d :: r => sizeD d + sizeDs r
end
/-- what a call's value of a type, of size B at most, says of the memory there -/
def Tr (P : Program) (W : World) (B : Nat) (n : Nat) (t : TypeId) (cs : List Value) : Prop :=
 ∃ (H : Type) (enc : TypeId × Value → H) (x : DataW H × List MemPlace), DataW.trod enc P W 0 (fun _ => true) true n t cs = some x ∧ sizeD x.1 ≤ B
theorem Tr.int {W : World} {B n : Nat} {t : TypeId} {cs : List Value} {k : IntKind} (h : Tr P W B n t cs) (ht : P.underlying t = some (.int k)) : ∃ x, cs = [.int k x] ∧ (Lit.int k x).wf = true := by
 obtain ⟨H, enc, x, h, hB⟩ := h
 obtain ⟨n, h1, _, h2⟩ := DataW.trod_int ht h
 exact ⟨n, h1, h2⟩
theorem Tr.bool {W : World} {B n : Nat} {t : TypeId} {cs : List Value} (h : Tr P W B n t cs) (ht : P.underlying t = some .bool) : ∃ x, cs = [.bool x] := by
 obtain ⟨H, enc, x, h, hB⟩ := h
 obtain ⟨b, h1, _⟩ := DataW.trod_bool ht h
 exact ⟨b, h1⟩
theorem Qsl {W : World} {p : Nat × Nat} {v : Value} (h : W.cell? (adv p) = some v) : rd (heapOf W) p = some v := by
 simp only [World.cell?, adv] at h
 simp only [rd, heapOf]
 cases hb : W.heap[p.1]? with
 | none => simp [hb] at h
 | some o => cases o <;> simp_all [GO.cells?]
theorem Qn1 {H : Heap} : ∀ {a b : List Value} {p : Nat × Nat}, rds H p (a ++ b) ↔ rds H p a ∧ rds H (p.1, p.2 + a.length) b
 | [], b, p => by simp [rds]
 | x :: a, b, p => by
  simp only [List.cons_append, rds, List.length_cons, Qn1 (a := a) (p := (p.1, p.2 + 1)), and_assoc]
  rw [show p.2 + (a.length + 1) = p.2 + 1 + a.length by omega]
theorem QqI {H : Heap} {z : Nat} : ∀ {css : List (List Value)} {p : Nat × Nat}, (∀ c ∈ css, c.length = z) → (∀ i c, css[i]? = some c → rds H (p.1, p.2 + i * z) c) → rds H p css.flatten
 | [], p, _, _ => trivial
 | c :: css, p, hz, h => by
  rw [List.flatten_cons, Qn1]
  have hc := hz c (List.mem_cons_self ..)
  refine ⟨by simpa using h 0 c (by simp), QqI (p := (p.1, p.2 + c.length)) (fun c hc => hz c (List.mem_cons_of_mem _ hc)) fun i d hd => ?_⟩
  have := h (i + 1) d (by simpa using hd)
  rw [show p.2 + c.length + i * z = p.2 + (i + 1) * z by rw [hc, Nat.add_mul]; omega]
  exact this
theorem QpU {W : World} {a : Addr} {v : Value} (h : W.cell? a = some v) : a.spot = none := by
 obtain ⟨b, o, s⟩ := a
 cases s with
 | none => rfl
 | some s => simp only [World.cell?] at h; split at h <;> simp_all
theorem listOf {α : Type} {n : Nat} {p : Nat → α → Prop} : (∀ i, i < n → ∃ x, p i x) → ∃ l : List α, l.length = n ∧ ∀ i x, l[i]? = some x → p i x := by
 induction n with
 | zero => intro _; exact ⟨[], rfl, fun i x h => by simp at h⟩
 | succ n ih =>
  intro h
  obtain ⟨l, h1, h2⟩ := ih fun i hi => h i (by omega)
  obtain ⟨x, hx⟩ := h n (by omega)
  refine ⟨l ++ [x], by simp [h1], fun i y hy => ?_⟩
  by_cases hi : i < n
  ·rw [List.getElem?_append_left (by omega)] at hy; exact h2 i y hy
  ·have hin : i = n := by
    have := (List.getElem?_eq_some_iff.1 hy).1
    simp [h1] at this; omega
   subst hin
   rw [List.getElem?_append_right (by omega), h1] at hy
   simp at hy; subst hy; exact hx
end
end
section
open Go
theorem QM {x : Int} (h0 : -9223372036854775808 ≤ x) (h1 : x ≤ 9223372036854775807) : w .i64 x = x := IntWalk.i64_in x ⟨h0, h1⟩
def Gh (C : Ctx) (A B : Heap) : Prop := ∀ w, St C w A → St C w B
theorem Gh.refl {C : Ctx} (A : Heap) : Gh C A A := fun _ h => h
theorem Gh.trans {C : Ctx} {A B D : Heap} (h : Gh C A B) (h' : Gh C B D) : Gh C A D := fun w hw => h' w (h w hw)
theorem Gh.le {C : Ctx} {A B : Heap} (h : B.le A) : Gh C A B := fun _ hw => hw.weaken h
theorem Spec.gh {P : Program} {C : Ctx} {f : FuncId} {args : List Value} {H : Heap} {Φ : Value → Heap → Prop} (h : Spec P C f args H (fun v H2 => ∃ H0, Gh C H2 H0 ∧ Φ v H0)) : Spec P C f args H Φ :=
 fun w hw => (h w hw).mono fun e w' ⟨v, H', h1, h2, H0, h3, h4⟩ => ⟨v, H0, h1, h3 _ h2, h4⟩
theorem Heap.le_put {H : Heap} {b : Nat} {g : GO} {m : Bool} (hb : H b = none) : H.le (H.put b g m) := (Heap.le.refl H).put g m hb
theorem Heap.put_put (H : Heap) (b : Nat) (g g' : GO) (m m' : Bool) : (H.put b g m).put b g' m' = H.put b g' m' := by
 funext x; by_cases hx : x = b
 ·subst hx; rw [Heap.put_same, Heap.put_same]
 ·rw [Heap.put_ne _ _ _ hx, Heap.put_ne _ _ _ hx, Heap.put_ne _ _ _ hx]
theorem Heap.put_id {H : Heap} {b : Nat} {g : GO} {m : Bool} (hb : H b = some (m, g)) : H.put b g m = H := by
 funext x; by_cases hx : x = b
 ·subst hx; rw [Heap.put_same, hb]
 ·rw [Heap.put_ne _ _ _ hx]
/-- but for block b, what is known stays -/
def Heap.but (b : Nat) (H H' : Heap) : Prop := ∀ x e, x ≠ b → H x = some e → H' x = some e
theorem Heap.but.trans {b : Nat} {A B D : Heap} (h : Heap.but b A B) (h' : Heap.but b B D) : Heap.but b A D := fun x e hx hh => h' x e hx (h x e hx hh)
theorem QbU {H : Heap} {b o : Nat} {c : List Value} {m : Bool} (h : H b = some (m, .row c)) : rd H (b, o) = c[o]? := by simp [rd, h, GO.cells?]
theorem Qhu {H : Heap} {b o : Nat} {c cs : List Value} {m : Bool} (h : H b = some (m, .row c)) (hc : ∀ j v, cs[j]? = some v → c[o + j]? = some v) : rds H (b, o) cs :=
 QlR fun j v hj => by rw [QbU h]; exact hc j v hj
theorem Qic (s : Str) : (bytesV s).length = s.length := by simp [bytesV]
theorem Qon (a b : Str) : bytesV (a ++ b) = bytesV a ++ bytesV b := by simp [bytesV]
theorem QlC (s : Str) (i : Nat) : (bytesV s)[i]? = (s[i]?).map fun b => .int .u8 (b.toNat : Int) := by simp [bytesV]
/-- nobody's slice, or all of a row that may be written: cs are its elements' cells -/
def Own (H : Heap) (z : Nat) (s : Sl) (cs : List Value) : Prop :=
 cs.length = s.len * z ∧ s.x = none ∧ s.len ≤ s.cap ∧ ((s.p = none ∧ s.cap = 0) ∨ ∃ b sp, s.p = some (b, 0) ∧ H b = some (true, .row (cs ++ sp)) ∧ s.cap * z ≤ (cs ++ sp).length)
theorem Own.rdsl {H : Heap} {z : Nat} {s : Sl} {cs : List Value} (h : Own H z s cs) : Sx.rdsl H s cs := by
 obtain ⟨hl, hx, hc, ⟨hp, h0⟩ | ⟨b, sp, hp, hb, _⟩⟩ := h
 ·left
  have : s.len = 0 := by omega
  rw [this] at hl
  exact List.length_eq_zero_iff.1 (by simpa using hl)
 ·exact .inr ⟨hx, _, hp, Qhu hb fun j v hj => by
   have := (List.getElem?_eq_some_iff.1 hj).1
   rw [Nat.zero_add, List.getElem?_append_left this]; exact hj⟩
theorem Own.nil (H : Heap) (z : Nat) : Own H z Sl.nil [] := ⟨by simp [Sl.nil], rfl, Nat.le_refl _, .inl ⟨rfl, rfl⟩⟩
/-- the slice's block is new over H -/
def Fresh (H : Heap) (s : Sl) : Prop := ∀ p, s.p = some p → H p.1 = none
theorem Fresh.nil (H : Heap) : Fresh H Sl.nil := fun _ h => by cases h
theorem Own.le {A B : Heap} {z : Nat} {s : Sl} {cs : List Value} (h : Own A z s cs) (hle : A.le B) : Own B z s cs := by
 obtain ⟨hl, hx, hc, h0 | ⟨b, sp, hp, hb, h1⟩⟩ := h
 ·exact ⟨hl, hx, hc, .inl h0⟩
 ·exact ⟨hl, hx, hc, .inr ⟨b, sp, hp, hle _ _ hb, h1⟩⟩
theorem Own.but {A B : Heap} {z : Nat} {s : Sl} {cs : List Value} {k : Nat} (h : Own A z s cs) (hle : Heap.but k A B) (hk : ∀ p, s.p = some p → p.1 ≠ k) : Own B z s cs := by
 obtain ⟨hl, hx, hc, h0 | ⟨b, sp, hp, hb, h1⟩⟩ := h
 ·exact ⟨hl, hx, hc, .inl h0⟩
 ·exact ⟨hl, hx, hc, .inr ⟨b, sp, hp, hle _ _ (hk _ hp) hb, h1⟩⟩
/-- owned, its block not among those of H0, of which all is kept -/
structure OwnF (H0 H : Heap) (z : Nat) (s : Sl) (cs : List Value) : Prop where
 le : H0.le H
 own : Own H z s cs
 fresh : Fresh H0 s
theorem OwnF.nil (H : Heap) (z : Nat) : OwnF H H z Sl.nil [] := ⟨Heap.le.refl H, Own.nil H z, Fresh.nil H⟩
theorem OwnF.up {H0 H H2 : Heap} {z : Nat} {s : Sl} {cs : List Value} (h : OwnF H0 H z s cs) (hle : H.le H2) : OwnF H0 H2 z s cs := ⟨h.le.trans hle, h.own.le hle, h.fresh⟩
theorem QsH {H0 H : Heap} {zc : List Value} {bytes : Nat} {s : Sl} {cs ys : List Value} {m : Nat} {K : Sl → Heap → Prop} (h : OwnF H0 H zc.length s cs) (hy : ys.length = m * zc.length)
 (hb : (s.len + m) * bytes ≤ 140737488355328) (h63 : s.len + m ≤ 9223372036854775807) (k : ∀ r H2, OwnF H0 H2 zc.length r (cs ++ ys) → r.len = s.len + m → K r H2) : apd zc bytes s ys m K H := by
 obtain ⟨hle, ho, hf⟩ := h
 have ho' := ho
 obtain ⟨hl, hx, hc, hcase⟩ := ho
 refine ⟨cs, ho'.rdsl, hl, hy, hb, h63, fun hfit => ?_, fun hgrow b cap hnone hcap => ?_⟩
 ·rcases hcase with ⟨hp, h0⟩ | ⟨b, sp, hp, hbk, hcl⟩
  ·left
   have hm : m = 0 := by omega
   subst hm
   have hy0 : ys = [] := List.length_eq_zero_iff.1 (by simpa using hy)
   subst hy0
   refine ⟨rfl, k _ _ ⟨hle, ⟨?_, hx, hfit, .inl ⟨hp, h0⟩⟩, hf⟩ rfl⟩
   simpa using hl
  ·right
   have hle2 : (s.len + m) * zc.length ≤ s.cap * zc.length := Nat.mul_le_mul_right _ hfit
   rw [Nat.add_mul] at hle2
   refine ⟨_, _, hp, hx, hbk, ?_, k _ _ ⟨fun x e hx' => ?_, ⟨?_, hx, hfit, .inr ⟨b, sp.drop ys.length, hp, ?_, ?_⟩⟩, hf⟩ rfl⟩
   ·simp only [Nat.zero_add]; rw [hy]; omega
   ·have : x ≠ b := fun e' => by subst e'; have := hf _ hp; simp only at this; rw [this] at hx'; cases hx'
    rw [Heap.put_ne _ _ _ this]; exact hle _ _ hx'
   ·simp only [List.length_append, hl, hy, Nat.add_mul]
   ·rw [Heap.put_same]
    simp only [Nat.zero_add, splice, ← hl]
    rw [List.take_append_of_le_length (Nat.le_refl _), List.take_length, List.drop_append, List.drop_eq_nil_of_le (by omega)]
    simp
   ·simp only [List.length_append, List.length_drop] at hcl ⊢
    omega
 ·refine k _ _ ⟨hle.put _ _ (hle.none hnone), ⟨by simp only [List.length_append, hl, hy, Nat.add_mul], rfl, hcap, .inr ⟨b, zeros zc (cap - (s.len + m)), rfl, by rw [Heap.put_same], ?_⟩⟩, ?_⟩ rfl
  ·simp only [List.length_append, QeO, hl, hy]
   rw [← Nat.add_mul, ← Nat.add_mul]
   exact Nat.mul_le_mul_right _ (by omega)
  ·intro p hp
   simp only [Option.some.injEq] at hp
   subst hp
   exact hle.none hnone
theorem QtA {H : Heap} {s : Sl} {cs : List Value} {i : Int} {K : Nat × Nat → Prop} (hr : Sx.rdsl H s cs) (h0 : 0 ≤ i) (h1 : i < s.len) (hne : cs ≠ []) (k : ∀ p, s.p = some p → rds H p cs → K p) : ixa s i K := by
 rcases hr with rfl | ⟨hx, p, hp, hr⟩
 ·exact absurd rfl hne
 ·exact ⟨p, hp, hx, h0, h1, k p hp hr⟩
theorem QbT {c : Bool} {A B : Prop} (hc : c = true) (h : A) : ift c A B := ⟨fun _ => h, fun h' => by rw [hc] at h'; cases h'⟩
theorem QbC {c : Bool} {A B : Prop} (hc : c = false) (h : B) : ift c A B := ⟨fun h' => (by rw [hc] at h'; cases h'), fun _ => h⟩
end
section
open Go
section
variable {P : Program} {C : Ctx} {Q Q' : Exit → Act → World → Prop} {n : FN} {l : List (Nat × Value)} {H : Heap} {ops : Array Oper} {rest : List Oper} {d : Nat} {ty : TypeId} {pos : String} {after : Array Edge} {g : Option (Nat × Bool)}
def callU (P : Program) (C : Ctx) (x : Value) (vs : List Value) (H : Heap) (Φ : Value → Heap → Prop) : Prop :=
 ∃ f fs cs, x = .func (.func f) (List.toArray fs) (List.toArray cs) ∧ CallOk P f ∧ Spec P C f (fs ++ vs ++ cs) H Φ
theorem callU.mono {x : Value} {vs : List Value} {Φ Ψ : Value → Heap → Prop} (h : callU P C x vs H Φ) (hh : ∀ v H', Φ v H' → Ψ v H') : callU P C x vs H Ψ := by
 obtain ⟨f, fs, cs, h1, h2, h3⟩ := h
 exact ⟨f, fs, cs, h1, h2, h3.mono hh⟩
theorem GL.callU {x : Operand} {xv : Value} {xs : Array Operand} {ats : Array TypeId} {vs : List Value} {Φ : Value → Heap → Prop} (hc : Sx.callU P C xv vs H Φ) (hw : Wt ops l g) (hd : Nat.blt d n.n = true)
 (hfx : opv l x = some xv) (hx : opvs l xs.toList = some vs)
 (k : ∀ v H', Φ v H' → GL P C ops Q n rest ((d, v) :: l) H') : GL P C ops Q n (⟨some d, .call { callee := .value x, args := xs, argTypes := ats }, ty, pos, after, g⟩ :: rest) l H := by
 obtain ⟨f, fs, cs, h1, h2, h3⟩ := hc
 exact GL.callV h3 hw hd h2 (by rw [hfx, h1]) hx k
structure ExtOk (P : Program) (f : FuncId) (e : Array Value → Sem Value) : Prop where
 ok : ∃ fn, P.funcs[f]? = some fn ∧ (fn.name == "runtime.NumGoroutine") = false ∧ fn.body.isNone = true ∧ Extern.findNext fn = none ∧ Extern.find fn = some e
theorem Quu {f : FuncId} {e : Array Value → Sem Value} (h : ExtOk P f e) (args : Array Value) (w : World) : (callFunc f args).run P w = ((e args).run P w).andThen fun v w' => .ok (.value v) w' := by
 obtain ⟨fn, h1, h2, h3, h4, h5⟩ := h.ok
 exact run_callFunc_extern h1 h2 h3 h4 h5 args w
/-- one that only reckons -/
theorem OV.ext {f : FuncId} {e : Array Value → Sem Value} {xs : Array Operand} {ats : Array TypeId} {vs : List Value} {v : Value} (hok : ExtOk P f e) (hx : opvs l xs.toList = some vs) (hr : ∀ w, (e vs.toArray).run P w = .ok v w) :
 OV P C n l H ⟨some d, .call { callee := .value (.func f), args := xs, argTypes := ats }, ty, pos, after, g⟩ v := fun a w hf hs => by
 have h1 : xs.map a.eval = vs.toArray := by apply Array.ext'; simp [hf.evs hx]
 simp [execOp, resolve, invoke, Deferred.ofValue, Act.eval, h1, Quu hok, hr]
def idxB (s : Str) (c : Int) : Int := Lib.indexByte s c.toNat.toUInt8
theorem Qta (s : Str) (c : Int) (w : World) : (Extern.BytealgIndexByte.indexByte #[sv s, .int .u8 c]).run P w = .ok (.int .i64 (idxB s c)) w := Lib.run_indexByteString _ _ _
theorem Qtb (x : Value) (w : World) : (Extern.AbiNoEscape.same #[x]).run P w = .ok x w := rfl
theorem GC.never {c : Code} (h : False) : GC P C Q n c l H := h.elim
theorem OV.neqSame {t yt te : TypeId} {x y : Operand} {p q : Option (Nat × Nat)} {a : Nat × Nat} (hx : opv l x = some (pv p)) (hy : opv l y = some (pv q)) (hp : p = some a) (hq : q = some a) (ht : P.underlying t = some (.pointer te)) (hi : (P.info? te).isSome = true) :
 OV P C n l H ⟨some d, .binOp .neq t x y yt, ty, pos, after, g⟩ (.bool false) :=
 (fun ac w hf hs => by
  subst hp; subst hq
  obtain ⟨j, hj⟩ := Option.isSome_iff_exists.1 hi
  simp only [execOp, hf.ev hx, hf.ev hy, pv]
  simp only [bind_pure_comp, Sem.run_map, Sem.run_bind, QgC, Result.andThen_ok]
  have := Lib.run_neq_ptr_same (P := P) w (adv a) ht hj
  rw [Option.map_some, this]; rfl)
def sttG (p : Nat × Nat) (v : Value) (K : Heap → Prop) (H : Heap) : Prop := ∃ t k c, H p.1 = some (true, .trow t k c) ∧ k ≤ p.2 ∧ p.2 < c.length ∧ K (H.put p.1 (.trow t k (c.set p.2 v)))
theorem GL.storeG {t : TypeId} {x y : Operand} {p : Nat × Nat} {v : Value} {K : Heap → Prop} (h : sttG p v K H) (hw : Wt ops l g) (hx : opv l x = some (pv (some p))) (hy : opv l y = some v) (h1 : v.oneCell' = true)
 (hi : (P.info? t).map (·.size) = some 1) (k : ∀ H', K H' → GL P C ops Q n rest l H') : GL P C ops Q n (⟨none, .store t x y, ty, pos, after, g⟩ :: rest) l H := by
 obtain ⟨tt, kk, c, hb, hkk, hl, hk⟩ := h
 refine GL.run0 hw fun a w hf hs => ?_
 have hv : v.cells = [v].toArray := by cases v <;> simp_all [Value.cells, Value.oneCell']
 cases hinf : P.info? t with
 | none => rw [hinf] at hi; cases hi
 | some inf =>
  rw [hinf] at hi
  have hsz : inf.size = 1 := by simpa using hi
  obtain ⟨w', h2, h3⟩ := St.storesT (P := P) (b := p.1) (o := p.2) [v] 0 w H c hs hb (by simpa using hkk) (by simp; omega) (by simpa using h1)
  rw [Nat.add_zero, Qn5 hl] at h3
  refine ⟨w', _, ?_, h3, k _ hk⟩
  simp only [execOp, hf.ev hx, hf.ev hy, pv, Option.map_some, Instr.storeAt, Instr.sureAddr]
  have h2' : (storeCells (adv p) [v]).run P w = .ok () w' := h2
  simp [storeVar, hv, Go.sizeOf, typeInfo, hinf, hsz, h2']
/-- append to a slice of a typed row -/
def apdG (e : TypeId) (zc : List Value) (bytes : Nat) (s : Sl) (ys : List Value) (m : Nat) (K : Sl → Heap → Prop) (H : Heap) : Prop :=
 ∃ xs, rdsl H s xs ∧ xs.length = s.len * zc.length ∧ ys.length = m * zc.length ∧ (s.len + m) * bytes ≤ 140737488355328 ∧ s.len + m ≤ 9223372036854775807 ∧
  (s.len + m ≤ s.cap → (ys = [] ∧ K ⟨s.p, s.len + m, s.cap, s.x⟩ H) ∨
   (∃ p t k c, s.p = some p ∧ s.x = none ∧ H p.1 = some (true, .trow t k c) ∧ k ≤ p.2 + s.len * zc.length ∧ p.2 + s.len * zc.length + ys.length ≤ c.length ∧ K ⟨s.p, s.len + m, s.cap, s.x⟩ (H.put p.1 (.trow t k (splice c (p.2 + s.len * zc.length) ys))))) ∧
  (s.cap < s.len + m → ∀ b cap, H b = none → s.len + m ≤ cap → K (Sl.of (some (b, 0)) (s.len + m) cap) (H.put b (.trow e 0 (xs ++ ys ++ zeros zc (cap - (s.len + m))))))
structure ElemG (P : Program) (t e : TypeId) (zc : List Value) (bytes : Nat) : Prop where
 ok : ∃ i z, P.underlying t = some (.slice e) ∧ P.info? e = some i ∧ i.size = zc.length ∧ i.bytes = bytes ∧ i.zero = some z ∧ z.cells = zc.toArray
theorem Qp9 {t t2 e : TypeId} {s : Sl} {x : Value} {ys : List Value} {m : Nat} {zc : List Value} {bytes : Nat} {K : Sl → Heap → Prop} {w : World}
 (h : apdG e zc bytes s ys m K H) (hs : St C w H) (he : ElemG P t e zc bytes) (h2 : ∃ u, P.underlying t2 = some u ∧ ∀ k, u ≠ .int k) (hx : Src P C H x zc.length ys m) (h1 : ∀ u ∈ ys, u.oneCell' = true) :
 ∃ r w' H', (Builtin.append_ #[t, t2] ty #[slv s, x]).run P w = .ok (slv r) w' ∧ St C w' H' ∧ K r H' := by
 obtain ⟨i, z, hu, hi, hsz, hby, hz, hzc⟩ := he.ok
 obtain ⟨u2, hu2, hne⟩ := h2
 obtain ⟨xs, hxr, hxl, hyl, hb, h63, hfit, hgrow⟩ := h
 by_cases hle : s.len + m ≤ s.cap
 ·rcases hfit hle with ⟨hy0, hk⟩ | ⟨p, tt, kk, c, hp, hx0, hc, hkk, hlen, hk⟩
  ·subst hy0
   refine ⟨_, w, H, ?_, hs, hk⟩
   have hc0 := hx.cells w hs
   have hs2 : slv ⟨s.p, s.len + m, s.cap, s.x⟩ = .slice s.ad (s.len + m) s.cap := rfl
   rw [hs2]
   cases hp : s.ad with
   | none =>
    simp [Builtin.append_, underlying, hu, hu2, Go.sizeOf, typeInfo, hi, slv, hp, hx.len w, hle, hsz, hc0]
   | some p =>
    simp [Builtin.append_, underlying, hu, hu2, Go.sizeOf, typeInfo, hi, slv, hp, hx.len w, hle, hsz, hc0, storeCells]
  ·have hc0 := hx.cells w hs
   obtain ⟨w', hst, hs'⟩ := St.storesT (P := P) (C := C) (b := p.1) (o := p.2 + s.len * zc.length) ys 0 w H c hs hc (by omega) (by omega) h1
   refine ⟨_, w', _, ?_, hs', hk⟩
   have ha : (adv p).add (s.len * zc.length) = ⟨p.1, p.2 + s.len * zc.length, none⟩ := Qhi p _
   have hs2 : slv ⟨s.p, s.len + m, s.cap, s.x⟩ = .slice s.ad (s.len + m) s.cap := rfl
   rw [hs2]
   simp [Builtin.append_, underlying, hu, hu2, Go.sizeOf, typeInfo, hi, slv, Sl.ad_some hx0 hp, hx.len w, hle, hsz, hc0, ha, hst]
 ·have hgt : s.cap < s.len + m := by omega
  have hd : St C w.drew H := hs.drew
  have hc0 := hx.cells w.drew hd
  have h63' : ¬ (9223372036854775807 < ((s.len : Int) + (m : Int))) := by omega
  have h48' : ¬ (281474976710656 < Builtin.nextslicecap (s.len + m) s.cap * bytes) := by have := growslice_fits (bytes := bytes) hgt hb; omega
  have hold : (Builtin.firstCells zc.length s.len (slv s)).run P w.drew = .ok xs.toArray w.drew := (Src.slice (P := P) (C := C) hxr hxl).cells w.drew hd
  have hcap := grownCap_ge w (s.len + m) s.cap e
  have hrow : xs.toArray ++ ys.toArray ++ Builtin.zeroCells z.cells (grownCap w (s.len + m) s.cap e - (s.len + m)) = (xs ++ ys ++ zeros zc (grownCap w (s.len + m) s.cap e - (s.len + m))).toArray := by
   rw [hzc, Ql6]; simp
  refine ⟨Sl.of (some (w.heap.size, 0)) (s.len + m) (grownCap w (s.len + m) s.cap e), w.drew.alloc (.cells (xs ++ ys ++ zeros zc (grownCap w (s.len + m) s.cap e - (s.len + m))).toArray e), _, ?_, ?_, hgrow hgt w.heap.size (grownCap w (s.len + m) s.cap e) hs.fresh hcap⟩
  ·rw [← hrow]
   have hs2 : slv s = .slice s.ad s.len s.cap := rfl
   have hs3 : ∀ a c : Nat, slv (Sl.of (some (w.heap.size, 0)) a c) = .slice (some ⟨w.heap.size, 0, none⟩) a c := fun _ _ => rfl
   rw [hs3]
   rw [hs2] at hold ⊢
   simp [Builtin.append_, underlying, hu, hu2, Go.sizeOf, typeInfo, zeroValue, hi, hz, hby, hsz, hx.len w, hle, h63', h48', Question.forced, hc0, hold, Go.newRow, grownCap]
   refine congrArg (fun a : Array Value => w.drew.alloc (.cells a e)) ?_
   apply Array.ext'
   simp
  ·exact hd.push ⟨rfl, rfl, fun _ => .inl rfl⟩
theorem GL.appendG {x y : Operand} {t t2 e : TypeId} {s : Sl} {yv : Value} {ys : List Value} {m : Nat} {zc : List Value} {bytes : Nat} {K : Sl → Heap → Prop} (h : apdG e zc bytes s ys m K H) (hw : Wt ops l g) (hd : Nat.blt d n.n = true)
 (hx : opv l x = some (slv s)) (hy : opv l y = some yv) (he : ElemG P t e zc bytes) (h2 : ∃ u, P.underlying t2 = some u ∧ ∀ k, u ≠ .int k) (hsrc : Src P C H yv zc.length ys m) (h1 : ∀ u ∈ ys, u.oneCell' = true)
 (k : ∀ r H', K r H' → GL P C ops Q n rest ((d, slv r) :: l) H') : GL P C ops Q n (⟨some d, .call { callee := .builtin .append, args := #[x, y], argTypes := #[t, t2] }, ty, pos, after, g⟩ :: rest) l H := by
 refine GL.run (v := undef) hw hd fun a w hf hst => ?_
 obtain ⟨r, w', H', hr, hs', hk⟩ := Qp9 (P := P) (ty := ty) h hst he h2 hsrc h1
 refine ⟨slv r, w', H', ?_, hs', k _ _ hk⟩
 simp only [execOp, resolve, invoke, builtin, List.map_toArray, List.map_cons, List.map_nil, hf.ev hx, hf.ev hy]
 simp [hr]
theorem apdG.frame {e : TypeId} {zc : List Value} {bytes : Nat} {s : Sl} {ys : List Value} {m : Nat} {K : Sl → Heap → Prop} {H' : Heap} (h : apdG e zc bytes s ys m K H) (hle : H.le H') :
 apdG e zc bytes s ys m (fun r H2 => ∃ H0, K r H0 ∧ H0.le H2) H' := by
 obtain ⟨xs, h1, h2, h3, h4, h5, h6, h7⟩ := h
 refine ⟨xs, QkO hle h1, h2, h3, h4, h5, fun hc => ?_, fun hc b cap hb hcap => ⟨_, h7 hc b cap (hle.none hb) hcap, hle.puts _ _ _⟩⟩
 rcases h6 hc with ⟨e, hk⟩ | ⟨p, t, kk, c, e1, e0, e2, e4, e3, hk⟩
 ·exact .inl ⟨e, _, hk, hle⟩
 ·exact .inr ⟨p, t, kk, c, e1, e0, hle _ _ e2, e4, e3, _, hk, hle.puts _ _ _⟩
theorem GL.appendGStr {x y : Operand} {t t2 e : TypeId} {s : Sl} {u : Str} {bytes : Nat} {K : Sl → Heap → Prop} (h : apdG e [.int .u8 0] bytes s (bytesV u) u.length K H) (hw : Wt ops l g) (hd : Nat.blt d n.n = true)
 (hx : opv l x = some (slv s)) (hy : opv l y = some (sv u)) (he : ElemG P t e [.int .u8 0] bytes) (h2 : P.underlying t2 = some .string)
 (k : ∀ r H', K r H' → GL P C ops Q n rest ((d, slv r) :: l) H') : GL P C ops Q n (⟨some d, .call { callee := .builtin .append, args := #[x, y], argTypes := #[t, t2] }, ty, pos, after, g⟩ :: rest) l H :=
 GL.appendG h hw hd hx hy he ⟨_, h2, fun _ h => by cases h⟩ Src.str (by simp [bytesV, Value.oneCell']) k
theorem GL.appendGLit {x y : Operand} {t t2 e e2 t3 ty2 : TypeId} {d2 m : Nat} {s : Sl} {ps : Array (Nat × Operand)} {vs : List (Nat × Value)} {ys : List Value} {zc : List Value} {bytes : Nat} {K : Sl → Heap → Prop} {pos2 : String} {after2 : Array Edge} {g2 : Option (Nat × Bool)}
 (h : apdG e zc bytes s ys m K H) (hw : Wt ops l g) (hd : Nat.blt d n.n = true) (hw2 : ∀ v, Wt ops ((d, v) :: l) g2) (hd2 : Nat.blt d2 n.n = true)
 (hx : ∀ v, opv ((d, v) :: l) x = some (slv s)) (hy : ∀ v, opv ((d, v) :: l) y = some v) (hp : partVals l ps.toList = some vs) (hr : litRun P t3 m vs ys) (he : ElemG P t e zc bytes) (h2 : P.underlying t2 = some (.slice e2)) (h1 : ys.all Value.oneCell' = true)
 (k : ∀ v r H', K r H' → GL P C ops Q n rest ((d2, slv r) :: (d, v) :: l) H') :
 GL P C ops Q n (⟨some d, .buildSlice t3 m ps, ty, pos, after, g⟩ :: ⟨some d2, .call { callee := .builtin .append, args := #[x, y], argTypes := #[t, t2] }, ty2, pos2, after2, g2⟩ :: rest) l H := by
 refine GL.buildSlice (K := fun b H' => H' = H.put b (.row ys) ∧ H b = none) (fun b hb => ⟨rfl, hb⟩) hw hd hp hr ?_
 rintro b H' ⟨rfl, hb⟩
 have hl := h
 obtain ⟨_, _, _, hyl, _⟩ := hl
 refine GL.appendG (yv := slv (Sl.of (some (b, 0)) m m)) (h.frame ((Heap.le.refl H).put _ _ hb)) (hw2 _) hd2 (hx _) (hy _) he ⟨_, h2, fun _ h => by cases h⟩ (Src.slice (.inr ⟨rfl, _, rfl, Qne⟩) hyl) (by simpa using h1) ?_
 rintro r H2 ⟨H0, hk, hle⟩
 exact GL.weaken hle (k _ r H0 hk)
/-- its pointer, as one of no type -/
def cvU (p : Nat × Nat) (K : Prop) (H : Heap) : Prop := (∃ m t k c, H p.1 = some (m, .trow t k c) ∧ p.2 < c.length) ∧ K
theorem OV.cvU {x : Operand} {src dst t : TypeId} {q : Option (Nat × Nat)} {p : Nat × Nat} (hq : q = some p) (h : ∃ m t k c, H p.1 = some (m, .trow t k c) ∧ p.2 < c.length) (hx : opv l x = some (pv q)) (hs : P.underlying src = some (.pointer t)) (hd : P.underlying dst = some .unsafePointer) (ht : ∃ j, P.info? t = some j ∧ j.size ≠ 0) :
 OV P C n l H ⟨some d, .convert src dst x, ty, pos, after, g⟩ (pv (some p)) := fun ac w hf hst => by
 subst hq
 obtain ⟨m, tt, k, c, hb, hlt⟩ := h
 obtain ⟨j, hj, hj0⟩ := ht
 obtain ⟨o, ho, hrel⟩ := hst.blk _ _ _ hb
 cases o <;> simp only [GO.rel] at hrel
 rename_i c' t' fr
 obtain ⟨hc, _⟩ := hrel
 subst hc
 have hsh : w.shape? (adv p).block = some (t', c.length) := by simp [World.shape?, adv, ho]
 simp only [execOp, hf.ev hx, pv, Option.map_some, bind_pure_comp, Sem.run_map]
 rw [Lib.run_to_unsafe (P := P) w (adv p) hs hd hj hj0 hsh hlt]; rfl
theorem OV.cvP {x : Operand} {src dst u T : TypeId} {len : Nat} {p : Nat × Nat} (h : ∃ m k c, H p.1 = some (m, .trow T k c) ∧ c.length = len ∧ p.2 = 0) (hx : opv l x = some (pv (some p))) (hs : P.underlying src = some .unsafePointer) (hd : P.underlying dst = some (.pointer u)) (ht : ∃ j, P.info? u = some j)
 (hl : liesAt P P.depth T (len / P.cellsOf T) 0 u 1 = true) : OV P C n l H ⟨some d, .convert src dst x, ty, pos, after, g⟩ (pv (some p)) := fun ac w hf hst => by
 obtain ⟨m, k, c, hb, hlen, h0⟩ := h
 obtain ⟨j, hj⟩ := ht
 obtain ⟨o, ho, hrel⟩ := hst.blk _ _ _ hb
 cases o <;> simp only [GO.rel] at hrel
 rename_i c' t' fr
 obtain ⟨hc, ht, _⟩ := hrel
 subst hc
 subst ht
 have hsh : w.shape? (adv p).block = some (t', c.length) := by simp [World.shape?, adv, ho]
 simp only [execOp, hf.ev hx, pv, Option.map_some, bind_pure_comp, Sem.run_map]
 rw [Lib.run_from_unsafe (P := P) w (adv p) hs hd hj hsh (by rw [hlen, show (adv p).off = 0 from h0]; exact hl)]; rfl
/-- where a slice begins -/
theorem OV.usd {x : Operand} {ats : Array TypeId} {s : Sl} (h : s.p = none ∨ s.cap ≠ 0) (hx0 : s.x = none) (hx : opv l x = some (slv s)) :
 OV P C n l H ⟨some d, .call { callee := .builtin .unsafeSliceData, args := #[x], argTypes := ats }, ty, pos, after, g⟩ (pv s.p) := fun ac w hf hst => by
 simp only [execOp, resolve, invoke, builtin, List.map_toArray, List.map_cons, List.map_nil, hf.ev hx]
 have e1 : slv s = .slice (s.p.map adv) s.len s.cap := by unfold slv Sl.ad; rw [hx0]; rfl
 rw [e1]
 cases hp : s.p with
 | none => simp [Lib.run_unsafeSliceData_nil, pv]
 | some p =>
  rcases h with h | h
  ·rw [hp] at h; cases h
  ·simp [Lib.run_unsafeSliceData_row (P := P) w ats ty (adv p) s.len s.cap h, pv]
theorem St.freezeT {w : World} {H : Heap} (h : St C w H) {b : Nat} {t : TypeId} {k m : Nat} {c : List Value} (hb : H b = some (true, .trow t k c)) (hm : m ≠ 0) : St C (w.freeze ⟨b, 0, none⟩ m) (H.put b (.trow t (max k m) c)) := by
 obtain ⟨ob, hob, hrel⟩ := h.blk _ _ _ hb
 cases ob <;> simp only [GO.rel] at hrel
 rename_i c' t' fr
 obtain ⟨hc, ht, hfr⟩ := hrel
 subst hc
 subst ht
 obtain ⟨lo, hi⟩ := fr
 refine h.set hb (o' := .cells c.toArray t' (if lo == hi then (0, m) else (min lo 0, max hi m))) ⟨?_, ?_, ?_, ?_⟩ ⟨rfl, rfl, fun _ => ?_⟩
 ·simp [World.freeze, hm]
 ·simp [World.freeze, hm]
 ·simp [World.freeze, hm, Array.getElem?_modify, hob]
 ·intro x hx
  simp [World.freeze, hm, Array.getElem?_modify, Ne.symm hx]
 ·have := hfr trivial
  simp only [] at this
  by_cases h1 : lo = hi
  ·simp [h1]; omega
  ·simp [h1]; omega
/-- a text over the head of a row of bytes, without a copy -/
def ust (e : TypeId) (p : Option (Nat × Nat)) (n : Int) (K : Str → Heap → Prop) (H : Heap) : Prop :=
 (n = 0 ∧ K [] H) ∨ ∃ (b k : Nat) (c : List Value) (s : Str), p = some (b, 0) ∧ H b = some (true, .trow e k c) ∧ n = s.length ∧ s ≠ [] ∧ s.length ≤ 9223372036854775807 ∧ (∀ (j : Nat) (x : UInt8), s[j]? = some x → c[j]? = some (Value.int .u8 (x.toNat : Int))) ∧ K s (H.put b (.trow e (max k s.length) c))
theorem GL.ust {x y : Operand} {t t2 e : TypeId} {p : Option (Nat × Nat)} {m : Int} {K : Str → Heap → Prop} (h : Sx.ust e p m K H) (hw : Wt ops l g) (hd : Nat.blt d n.n = true) (hx : opv l x = some (pv p)) (hy : opv l y = some (.int .i64 m))
 (ht : P.underlying t = some (.pointer e)) (hc : P.cellsOf e = 1) (k : ∀ s H', K s H' → GL P C ops Q n rest ((d, sv s) :: l) H') : GL P C ops Q n (⟨some d, .call { callee := .builtin .unsafeString, args := #[x, y], argTypes := #[t, t2] }, ty, pos, after, g⟩ :: rest) l H := by
 refine GL.run (v := undef) hw hd fun a w hf hst => ?_
 rcases h with ⟨h0, hk⟩ | ⟨b, kk, c, s, hp, hb, hn, hne, h63, hcs, hk⟩
 ·subst h0
  refine ⟨sv [], w, H, ?_, hst, k _ _ hk⟩
  simp only [execOp, resolve, invoke, builtin, List.map_toArray, List.map_cons, List.map_nil, hf.ev hx, hf.ev hy, pv]
  simp [Lib.run_unsafeString_none, sv]; rfl
 ·subst hp
  subst hn
  obtain ⟨o, ho, hrel⟩ := hst.blk _ _ _ hb
  cases o <;> simp only [GO.rel] at hrel
  rename_i c' t' fr
  obtain ⟨hcc, htt, _⟩ := hrel
  subst hcc
  subst htt
  have hsh : w.shape? b = some (t', c.length) := by simp [World.shape?, ho]
  have hlen : s.length ≤ c.length := by
   rcases Nat.lt_or_ge c.length s.length with h | h
   ·have h2 := hcs c.length s[c.length] (by simp [h])
    simp at h2
   ·exact h
  have hl0 : s.length ≠ 0 := by simpa using hne
  refine ⟨sv s, _, _, ?_, hst.freezeT hb hl0, k _ _ hk⟩
  have hr := Lib.run_unsafeString_row (P := P) w t t2 ty t' ht hc b c.length hsh s hne hlen h63 (fun j x hj => by
   have : (⟨b, 0, none⟩ : Addr).add j = ⟨b, 0 + j, none⟩ := Qhi (b, 0) j
   rw [this]
   simp [World.cell?, ho, hcs j x hj])
  simp only [execOp, resolve, invoke, builtin, List.map_toArray, List.map_cons, List.map_nil, hf.ev hx, hf.ev hy, pv, Option.map_some, adv]
  simp [hr, sv]
end
end
section
open Go
section
variable {P : Program} {C : Ctx} {Q : Exit → Act → World → Prop} {n : FN} {l : List (Nat × Value)} {H : Heap} {ops : Array Oper} {rest : List Oper} {d : Nat} {ty : TypeId} {pos : String} {after : Array Edge} {g : Option (Nat × Bool)}
/-- an array's element's place -/
def ixr (p : Nat × Nat) (n : Nat) (i : Int) (K : Prop) : Prop := 0 ≤ i ∧ i < n ∧ K
theorem OV.indexAddrA {x y : Operand} {t e : TypeId} {m : Nat} {p : Nat × Nat} {i : Int} {k0 : IntKind} {sz : Nat} (hx : opv l x = some (pv (some p))) (hy : opv l y = some (.int k0 i))
 (ht : P.underlying t = some (.array m e)) (he : (P.info? e).map (·.size) = some sz) (h0 : 0 ≤ i) (h1 : i < m) :
 OV P C n l H ⟨some d, .indexAddr t x y, ty, pos, after, g⟩ (pv (some (p.1, p.2 + i.toNat * sz))) := by
 cases hinf : P.info? e with
 | none => rw [hinf] at he; cases he
 | some inf =>
  rw [hinf] at he
  have hsz : inf.size = sz := by simpa using he
  intro ac w hf hs
  simp only [execOp, hf.ev hx, hf.ev hy, pv, Option.map_some, Instr.indexAt]
  simp [asIntOf, underlying, ht, Instr.sureAddr, h0, h1, Go.sizeOf, typeInfo, hinf, hsz, adv, Addr.add]
/-- a load of an array -/
def ldC (H : Heap) (m : Nat) (p : Nat × Nat) (K : List Value → Prop) : Prop := ∃ x : List Value, x.length = m ∧ rds H p x ∧ K x
/-- a store of an array -/
def stC (m : Nat) (p : Nat × Nat) (vs : List Value) (K : Heap → Prop) (H : Heap) : Prop := vs.length = m ∧ vs.all Value.oneCell' = true ∧ stT p vs K H
theorem Qps {t : TypeId} {p : Nat × Nat} {cs : List Value} {w : World} (ht : aggT P t = true) (hi : (P.info? t).map (·.size) = some cs.length) (hr : rds H p cs) (hs : St C w H) : (loadVar t (adv p)).run P w = .ok (.agg cs.toArray) w := by
 cases hinf : P.info? t with
 | none => rw [hinf] at hi; cases hi
 | some inf =>
  rw [hinf] at hi
  have hsz : inf.size = cs.length := by simpa using hi
  simp only [loadVar]
  simp only [bind_pure_comp, Sem.run_map, Sem.run_bind, Sem.run_pure, Result.andThen_ok, Qkd ht]
  simp [Go.sizeOf, typeInfo, hinf, hs.loads (P := P) hr hsz]
/-- what a result reads as -/
def RV (P : Program) (C : Ctx) (l : List (Nat × Value)) (H : Heap) : ResultVar → Value → Prop
 | .tmp t, v => lk l t = some v
 | .cell a t, v => ∃ p, lk l a = some (pv (some p)) ∧ ∀ w, St C w H → (loadVar t (adv p)).run P w = .ok v w
theorem RV.tmp {t : Nat} {v : Value} (h : lk l t = some v) : RV P C l H (.tmp t) v := h
theorem RV.cellT {a : Nat} {t : TypeId} {p : Nat × Nat} {cs : List Value} (h : lk l a = some (pv (some p))) (ht : aggT P t = true) (hi : (P.info? t).map (·.size) = some cs.length) (hr : rds H p cs) : RV P C l H (.cell a t) (.agg cs.toArray) := ⟨p, h, fun w hs => Qps ht hi hr hs⟩
theorem RV.run {r : ResultVar} {v : Value} {a : Act} {w : World} (h : RV P C l H r v) (hf : Fr n l a) (hs : St C w H) :
 (∃ t, r = .tmp t ∧ a.tmps[t]?.getD undef = v) ∨ (∃ x t p, r = .cell x t ∧ a.tmps[x]?.getD undef = pv (some p) ∧ (loadVar t (adv p)).run P w = .ok v w) := by
 cases r with
 | tmp t =>
  have := hf.get t v h
  exact .inl ⟨t, rfl, by rw [this]; rfl⟩
 | cell x t =>
  obtain ⟨p, h1, h2⟩ := h
  have := hf.get x _ h1
  exact .inr ⟨x, t, p, rfl, by rw [this]; rfl, h2 w hs⟩
theorem Qsb {fn : Func} {Φ : Value → Heap → Prop} {r : ResultVar} {v : Value} {a : Act} {w : World} (hr : fn.results = #[r]) (h1 : RV P C l H r v) {m : Nat} (hf : Fr ⟨m, []⟩ l a) (hw : St C w H) (h : Φ v H) : SpecPost P C fn Φ .ret a w := by
 refine QdK (v := v) ?_ hf.defers ⟨v, H, rfl, hw, h⟩
 rcases h1.run hf hw with ⟨t, rfl, e⟩ | ⟨x, t, p, rfl, e, e2⟩
 ·simp [results, hr, e]
 ·simp [results, hr, e, pv, asAddr, e2]
theorem Qpr {fn : Func} {Φ : Value → Heap → Prop} {r s : ResultVar} {x y : Value} {a : Act} {w : World} (hr : fn.results = #[r, s]) (h1 : RV P C l H r x) (h2 : RV P C l H s y) {m : Nat} (hf : Fr ⟨m, []⟩ l a) (hw : St C w H) (h : Φ (.tuple #[x, y]) H) : SpecPost P C fn Φ .ret a w := by
 refine QdK (v := .tuple #[x, y]) ?_ hf.defers ⟨_, H, rfl, hw, h⟩
 rcases h1.run hf hw with ⟨t, rfl, e⟩ | ⟨_, t, p, rfl, e, e2⟩ <;> rcases h2.run hf hw with ⟨t', rfl, e'⟩ | ⟨_, t', p', rfl, e', e2'⟩ <;>
  simp_all [results, pv, asAddr]
end
end
section
open Go
def Heap.del (H : Heap) (g : Nat) : Heap := fun x => if x = g then none else H x
theorem Heap.del_same (H : Heap) (g : Nat) : H.del g g = none := by simp [Heap.del]
theorem Heap.del_ne (H : Heap) {g x : Nat} (h : x ≠ g) : H.del g x = H x := by simp [Heap.del, h]
theorem Heap.del_le (H : Heap) (g : Nat) : (H.del g).le H := fun x e h => by
 by_cases hx : x = g
 ·subst hx; rw [Heap.del_same] at h; cases h
 ·rwa [Heap.del_ne _ hx] at h
/-- a builder's buffer: bs, in a row of its own -/
def Buf (H : Heap) (b : Nat) (e : TypeId) (s : Sl) (bs : Str) : Prop :=
 (s = Sl.nil ∧ bs = []) ∨ ∃ g k row, g ≠ b ∧ s = ⟨some (g, 0), bs.length, row.length, none⟩ ∧ H g = some (true, .trow e k row) ∧ k ≤ bs.length ∧ row.length ≠ 0 ∧ bs.length ≤ row.length ∧ ∀ (j : Nat) (c : UInt8), bs[j]? = some c → row[j]? = some (Value.int .u8 (c.toNat : Int))
/-- a builder that is open, over H0 -/
structure OpenB (H0 H : Heap) (b : Nat) (T e : TypeId) (bs : Str) (p : Option (Nat × Nat)) (s : Sl) : Prop where
 self : p = none ∨ p = some (b, 0)
 row : H b = some (true, .trow T 0 [pv p, slv s])
 buf : Buf H b e s bs
 gnot : ∀ q, s.p = some q → H0 q.1 = none
 but : ∀ x v, x ≠ b → H0 x = some v → H x = some v
theorem St.openB {C : Ctx} {w : World} {H : Heap} (h : St C w H) {b : Nat} {T e : TypeId} {bs : Str} {m : Bool} (hb : H b = some (m, .bld T e bs)) :
 ∃ p s H', St C w H' ∧ OpenB H H' b T e bs p s := by
 obtain ⟨B, hB⟩ := h.bld
 obtain ⟨hm, h2⟩ := hB.at_ b m T e bs hb
 subst hm
 have hwb := h.wri b _ hb
 cases hBb : B b with
 | none =>
  rw [hBb] at h2
  obtain ⟨p, fr, h3, h4, h5, h6⟩ := h2
  subst h6
  obtain ⟨p', hp', hpp⟩ : ∃ p' : Option (Nat × Nat), (p' = none ∨ p' = some (b, 0)) ∧ .pointer p = pv p' := by
   rcases h4 with rfl | rfl
   ·exact ⟨none, .inl rfl, rfl⟩
   ·exact ⟨some (b, 0), .inr rfl, rfl⟩
  refine ⟨p', Sl.nil, H.put b (.trow T 0 [pv p', slv Sl.nil]), ?_, hp', Heap.put_same .., .inl ⟨rfl, rfl⟩, fun q hq => (by cases hq), fun x v hx hv => by rw [Heap.put_ne _ _ _ hx]; exact hv⟩
  refine ⟨fun x m g hx => ?_, fun x g hx => ?_, h.old, h.out, h.os, B, fun x m T' e' bs' hx => ?_, fun x x' g m T e bs m' T' e' bs' hx hx' => ?_⟩
  ·by_cases hxb : x = b
   ·subst hxb; rw [Heap.put_same] at hx; injection hx with hx; injection hx with e1 e2; subst e1; subst e2
    exact ⟨_, h3, by rw [← hpp]; rfl, rfl, fun _ => h5⟩
   ·rw [Heap.put_ne _ _ _ hxb] at hx; exact h.blk x m g hx
  ·by_cases hxb : x = b
   ·subst hxb; exact hwb
   ·rw [Heap.put_ne _ _ _ hxb] at hx; exact h.wri x g hx
  ·by_cases hxb : x = b
   ·subst hxb; rw [Heap.put_same] at hx; cases hx
   ·rw [Heap.put_ne _ _ _ hxb] at hx
    obtain ⟨q1, q2⟩ := hB.at_ x m T' e' bs' hx
    obtain ⟨_, q3⟩ := q2.at_
    refine ⟨q1, q2.stays rfl fun g hg => ⟨rfl, ?_⟩⟩
    obtain ⟨r1, _⟩ := q3 g hg
    rw [Heap.put_ne _ _ _ (fun e => by subst e; rw [hb] at r1; cases r1)]; exact r1
  ·have e1 : x ≠ b := fun e => by subst e; rw [Heap.put_same] at hx; cases hx
   have e2 : x' ≠ b := fun e => by subst e; rw [Heap.put_same] at hx'; cases hx'
   rw [Heap.put_ne _ _ _ e1] at hx; rw [Heap.put_ne _ _ _ e2] at hx'
   exact hB.inj _ _ _ _ _ _ _ _ _ _ _ hx hx'
 | some g =>
  rw [hBb] at h2
  obtain ⟨p, fr, cap, row, fr', h3, h4, h5, h6, h7, h8, h9, h10, h11, h12, h13⟩ := h2
  subst h10
  have hgb : g ≠ b := fun e => by subst e; rw [hb] at h6; cases h6
  obtain ⟨p', hp', hpp⟩ : ∃ p' : Option (Nat × Nat), (p' = none ∨ p' = some (b, 0)) ∧ .pointer p = pv p' := by
   rcases h4 with rfl | rfl
   ·exact ⟨none, .inl rfl, rfl⟩
   ·exact ⟨some (b, 0), .inr rfl, rfl⟩
  refine ⟨p', ⟨some (g, 0), bs.length, row.size, none⟩, (H.put b (.trow T 0 [pv p', slv ⟨some (g, 0), bs.length, row.size, none⟩])).put g (.trow e bs.length row.toList), ?_, hp', ?_, .inr ⟨g, bs.length, row.toList, hgb, by simp, Heap.put_same .., Nat.le_refl _, by simpa using h11, by simpa using h12, by simpa using h9⟩, fun q hq => ?_, fun x v hx hv => ?_⟩
  ·refine ⟨fun x m g' hx => ?_, fun x g' hx => ?_, h.old, h.out, h.os, B, fun x m T' e' bs' hx => ?_, fun x x' g' m T e bs m' T' e' bs' hx hx' => ?_⟩
   ·by_cases hxg : x = g
    ·subst hxg; rw [Heap.put_same] at hx; injection hx with hx; injection hx with e1 e2; subst e1; subst e2
     exact ⟨_, h8, by simp, rfl, fun _ => h13⟩
    ·rw [Heap.put_ne _ _ _ hxg] at hx
     by_cases hxb : x = b
     ·subst hxb; rw [Heap.put_same] at hx; injection hx with hx; injection hx with e1 e2; subst e1; subst e2
      exact ⟨_, h3, by rw [← hpp]; rfl, rfl, fun _ => h5⟩
     ·rw [Heap.put_ne _ _ _ hxb] at hx; exact h.blk x m g' hx
   ·by_cases hxg : x = g
    ·subst hxg; exact h7
    ·rw [Heap.put_ne _ _ _ hxg] at hx
     by_cases hxb : x = b
     ·subst hxb; exact hwb
     ·rw [Heap.put_ne _ _ _ hxb] at hx; exact h.wri x g' hx
   ·have e0 : x ≠ g := fun e => by subst e; rw [Heap.put_same] at hx; cases hx
    rw [Heap.put_ne _ _ _ e0] at hx
    have e1 : x ≠ b := fun e => by subst e; rw [Heap.put_same] at hx; cases hx
    rw [Heap.put_ne _ _ _ e1] at hx
    obtain ⟨q1, q2⟩ := hB.at_ x m T' e' bs' hx
    obtain ⟨_, q3⟩ := q2.at_
    refine ⟨q1, q2.stays rfl fun g' hg => ⟨rfl, ?_⟩⟩
    obtain ⟨r1, _⟩ := q3 g' hg
    have e2 : g' ≠ g := fun e' => by subst e'; exact e1 (hB.inj x b g' _ _ _ _ _ _ _ _ hx hb hg hBb)
    rw [Heap.put_ne _ _ _ e2, Heap.put_ne _ _ _ (fun e => by subst e; rw [hb] at r1; cases r1)]; exact r1
   ·have f : ∀ {x : Nat} {m : Bool} {T2 e2 : TypeId} {bs2 : Str} {G1 G2 : GO}, G1.isBld = false → G2.isBld = false → ((H.put b G1).put g G2) x = some (m, .bld T2 e2 bs2) → H x = some (m, .bld T2 e2 bs2) := fun {x m T2 e2 bs2 G1 G2} k1 k2 hx => by
     have e0 : x ≠ g := fun e => by subst e; rw [Heap.put_same] at hx; injection hx with hx; injection hx with _ hx; rw [hx] at k2; cases k2
     rw [Heap.put_ne _ _ _ e0] at hx
     have e1 : x ≠ b := fun e => by subst e; rw [Heap.put_same] at hx; injection hx with hx; injection hx with _ hx; rw [hx] at k1; cases k1
     rwa [Heap.put_ne _ _ _ e1] at hx
    exact hB.inj _ _ _ _ _ _ _ _ _ _ _ (f rfl rfl hx) (f rfl rfl hx')
  ·rw [Heap.put_ne _ _ _ (Ne.symm hgb), Heap.put_same]
  ·injection hq with hq; subst hq; exact h6
  ·rw [Heap.put_ne _ _ _ (fun e => by subst e; rw [h6] at hv; cases hv), Heap.put_ne _ _ _ hx]; exact hv
/-- the buffer's block out of sight -/
def Heap.hide (H : Heap) (s : Sl) : Heap := fun x => match s.p with | some q => if x = q.1 then none else H x | none => H x
theorem Heap.hide_le (H : Heap) (s : Sl) : (H.hide s).le H := fun x e h => by
 unfold Heap.hide at h
 split at h
 ·split at h
  ·cases h
  ·exact h
 ·exact h
theorem St.hideB {C : Ctx} {w : World} {H : Heap} (h : St C w H) {b : Nat} {T e : TypeId} {bs : Str} {p : Option (Nat × Nat)} {s : Sl} (hb : H b = some (true, .trow T 0 [pv p, slv s])) (hp : p = none ∨ p = some (b, 0)) (hbuf : Buf H b e s bs) :
 St C w ((H.hide s).put b (.bld T e bs)) := by
 have hw := h.weaken (Heap.hide_le H s)
 obtain ⟨o, ho, hrel⟩ := h.blk _ _ _ hb
 cases o <;> simp only [GO.rel] at hrel
 rename_i c' t' fr
 obtain ⟨hc, ht, hfr⟩ := hrel
 subst ht
 subst hc
 have hfr := hfr trivial
 have hpp : pv p = .pointer none ∨ pv p = .pointer (some ⟨b, 0, none⟩) := by
  rcases hp with rfl | rfl
  ·exact .inl rfl
  ·exact .inr rfl
 have hwb := h.wri b _ hb
 obtain ⟨B, hB⟩ := h.bld
 have hxs : ∀ x m T2 e2 bs2, H.hide s x = some (m, .bld T2 e2 bs2) → H x = some (m, .bld T2 e2 bs2) := fun x m T2 e2 bs2 hx => (Heap.hide_le H s) _ _ hx
 have key : ∀ og, BufAt C w ((H.hide s).put b (.bld t' e bs)) b t' e bs og → (∀ g, og = some g → ∃ g', H g = some g') → St C w ((H.hide s).put b (.bld t' e bs)) := fun og hog hgH => by
  refine ⟨fun x m g hx => ?_, fun x g hx => ?_, hw.old, hw.out, hw.os, fun x => if x = b then og else B x, fun x m T2 e2 bs2 hx => ?_, fun x x' g m T2 e2 bs2 m' T3 e3 bs3 hx hx' hg hg' => ?_⟩
  ·by_cases hxb : x = b
   ·subst hxb; rw [Heap.put_same] at hx; injection hx with hx; injection hx with e1 e2; subst e1; subst e2
    exact ⟨_, ho, trivial⟩
   ·rw [Heap.put_ne _ _ _ hxb] at hx; exact hw.blk x m g hx
  ·by_cases hxb : x = b
   ·subst hxb; exact hwb
   ·rw [Heap.put_ne _ _ _ hxb] at hx; exact hw.wri x g hx
  ·by_cases hxb : x = b
   ·subst hxb
    rw [Heap.put_same] at hx; injection hx with hx; injection hx with e1 e2; injection e2 with e3 e4 e5; subst e1; subst e3; subst e4; subst e5
    simp only [if_true]
    exact ⟨trivial, hog⟩
   ·rw [Heap.put_ne _ _ _ hxb] at hx
    obtain ⟨q1, q2⟩ := hB.at_ x m T2 e2 bs2 (hxs _ _ _ _ _ hx)
    obtain ⟨_, q3⟩ := q2.at_
    simp only [if_neg hxb]
    refine ⟨q1, q2.stays rfl fun g' hg => ⟨rfl, ?_⟩⟩
    obtain ⟨r1, _⟩ := q3 g' hg
    rw [Heap.put_ne _ _ _ (fun e' => by subst e'; rw [hb] at r1; cases r1)]
    exact (Heap.hide_le H s).none r1
  ·by_cases hxb : x = b
   ·subst hxb
    by_cases hxb' : x' = x
    ·exact hxb'.symm
    ·rw [Heap.put_ne _ _ _ hxb'] at hx'
     simp only [if_true] at hg
     simp only [if_neg hxb'] at hg'
     obtain ⟨_, q2⟩ := hB.at_ x' m' T3 e3 bs3 (hxs _ _ _ _ _ hx')
     obtain ⟨r1, _⟩ := q2.at_.2 g hg'
     obtain ⟨g', hg2⟩ := hgH g hg
     rw [hg2] at r1; cases r1
   ·rw [Heap.put_ne _ _ _ hxb] at hx
    simp only [if_neg hxb] at hg
    by_cases hxb' : x' = b
    ·subst hxb'
     simp only [if_true] at hg'
     obtain ⟨_, q2⟩ := hB.at_ x m T2 e2 bs2 (hxs _ _ _ _ _ hx)
     obtain ⟨r1, _⟩ := q2.at_.2 g hg
     obtain ⟨g', hg2⟩ := hgH g hg'
     rw [hg2] at r1; cases r1
    ·rw [Heap.put_ne _ _ _ hxb'] at hx'
     simp only [if_neg hxb'] at hg'
     exact hB.inj _ _ _ _ _ _ _ _ _ _ _ (hxs _ _ _ _ _ hx) (hxs _ _ _ _ _ hx') hg hg'
 rcases hbuf with ⟨rfl, rfl⟩ | ⟨g, k, row, hgb, rfl, hg, hk, hr0, hrl, hcs⟩
 ·refine key none ?_ (fun g hg => by cases hg)
  rcases hp with rfl | rfl
  ·exact ⟨none, fr, ho, .inl rfl, hfr, rfl⟩
  ·exact ⟨some ⟨b, 0, none⟩, fr, ho, .inr rfl, hfr, rfl⟩
 ·refine key (some g) ?_ (fun g' hg' => by injection hg' with hg'; subst hg'; exact ⟨_, hg⟩)
  obtain ⟨o2, ho2, hrel2⟩ := h.blk _ _ _ hg
  cases o2 <;> simp only [GO.rel] at hrel2
  rename_i c2 t2 fr2
  obtain ⟨hc2, ht2, hfr2⟩ := hrel2
  subst ht2
  subst hc2
  have hfr2 := hfr2 trivial
  have hhid : ((H.hide ⟨some (g, 0), bs.length, row.length, none⟩).put b (.bld t' t2 bs)) g = none := by
   rw [Heap.put_ne _ _ _ hgb]; simp [Heap.hide]
  have hwg := h.wri g _ hg
  rcases hp with rfl | rfl
  ·exact ⟨none, fr, row.length, row.toArray, fr2, ho, .inl rfl, hfr, hhid, hwg, ho2, by simpa using hcs, by simp, hr0, hrl, by omega⟩
  ·exact ⟨some ⟨b, 0, none⟩, fr, row.length, row.toArray, fr2, ho, .inr rfl, hfr, hhid, hwg, ho2, by simpa using hcs, by simp, hr0, hrl, by omega⟩
theorem Spec.openB {P : Program} {C : Ctx} {f : FuncId} {args : List Value} {H : Heap} {Φ : Value → Heap → Prop} {b : Nat} {T e : TypeId} {bs : Str} {m : Bool} (hb : H b = some (m, .bld T e bs))
 (h : ∀ p s H', OpenB H H' b T e bs p s → Spec P C f args H' Φ) : Spec P C f args H Φ := fun w hw => by
 obtain ⟨p, s, H', h1, h2⟩ := hw.openB hb
 exact h p s H' h2 w h1
/-- behind the call: hidden again -/
theorem Gh.hideB {C : Ctx} {H0 H : Heap} {b : Nat} {T e : TypeId} {bs : Str} {p : Option (Nat × Nat)} {s : Sl} (ho : OpenB H0 H b T e bs p s) : Gh C H (H0.put b (.bld T e bs)) := fun w hw => by
 have h := hw.hideB ho.row ho.self ho.buf
 refine h.weaken fun x v hx => ?_
 by_cases hxb : x = b
 ·subst hxb; rw [Heap.put_same] at hx ⊢; exact hx
 ·rw [Heap.put_ne _ _ _ hxb] at hx ⊢
  unfold Heap.hide
  cases hs : s.p with
  | none => exact ho.but x v hxb hx
  | some q =>
   simp only
   have := ho.gnot q hs
   have hne : x ≠ q.1 := fun e' => by rw [e', this] at hx; cases hx
   rw [if_neg hne]; exact ho.but x v hxb hx
/-- what stands behind an append to the buffer -/
theorem OpenB.apd {H0 H : Heap} {b : Nat} {T e : TypeId} {bs : Str} {p : Option (Nat × Nat)} {s : Sl} (ho : OpenB H0 H b T e bs p s) (hH0 : ∃ v, H0 b = some v) {ys : Str} {K : Sl → Heap → Prop} (hl : bs.length + ys.length ≤ 140737488355328)
 (k : ∀ r H', OpenB H0 (H'.put b (.trow T 0 [pv p, slv r])) b T e (bs ++ ys) p r → H' b = some (true, .trow T 0 [pv p, slv s]) → K r H') : apdG e [.int .u8 0] 1 s (bytesV ys) ys.length K H := by
 obtain ⟨hself, hrow, hbuf, hgnot, hbut⟩ := ho
 have hlen : s.len = bs.length := by rcases hbuf with ⟨rfl, rfl⟩ | ⟨g, kk, row, _, rfl, _⟩ <;> rfl
 have hsx : s.x = none := by rcases hbuf with ⟨rfl, rfl⟩ | ⟨g, kk, row, _, rfl, _⟩ <;> rfl
 refine ⟨bytesV bs, ?_, by simp [bytesV, hlen], by simp [bytesV], by omega, by omega, fun hfit => ?_, fun hgrow b2 cap hb2 hcap => ?_⟩
 ·rcases hbuf with ⟨rfl, rfl⟩ | ⟨g, kk, row, hgb, rfl, hg, hk, hr0, hrl, hcs⟩
  ·exact .inl rfl
  ·refine .inr ⟨rfl, (g, 0), rfl, QlR fun j v hj => ?_⟩
   rw [QlC] at hj
   obtain ⟨c, hc, rfl⟩ := Option.map_eq_some_iff.1 hj
   simp [rd, hg, GO.cells?, hcs j c hc]
 ·rcases hbuf with ⟨rfl, rfl⟩ | ⟨g, kk, row, hgb, rfl, hg, hk, hr0, hrl, hcs⟩
  ·left
   have h0 : ys = [] := by
    have : ys.length = 0 := by have e1 : Sl.nil.len = 0 := rfl; have e2 : Sl.nil.cap = 0 := rfl; omega
    exact List.length_eq_zero_iff.1 this
   subst h0
   refine ⟨rfl, ?_⟩
   refine k _ H ⟨hself, Heap.put_same .., .inl ⟨rfl, rfl⟩, fun q hq => (by cases hq), fun x v hx hv => ?_⟩ hrow
   rw [Heap.put_ne _ _ _ hx]; exact hbut x v hx hv
  ·right
   simp only at hfit
   refine ⟨(g, 0), e, kk, row, rfl, rfl, hg, by simp; omega, by simp [bytesV]; omega, ?_⟩
   have hb' : b ≠ g := Ne.symm hgb
   refine k _ _ ⟨hself, Heap.put_same .., .inr ⟨g, kk, splice row (0 + bs.length * 1) (bytesV ys), hgb, ?_, ?_, by simp; omega, ?_, ?_, fun j c hj => ?_⟩, fun q hq => ?_, fun x v hx hv => ?_⟩ ?_
   ·rw [Qiy (by simp [bytesV]; omega)]; simp
   ·rw [Heap.put_ne _ _ _ hgb]; simp [Heap.put_same]
   ·rw [Qiy (by simp [bytesV]; omega)]; exact hr0
   ·rw [Qiy (by simp [bytesV]; omega)]; simp; omega
   ·simp only [splice, Nat.mul_one, Nat.zero_add]
    by_cases hjb : j < bs.length
    ·rw [List.getElem?_append_left hjb] at hj
     rw [List.getElem?_append_left (by simp; omega), List.getElem?_append_left (by simp; omega), List.getElem?_take, if_pos hjb]
     exact hcs j c hj
    ·rw [List.getElem?_append_right (by omega)] at hj
     have hj2 : j - bs.length < ys.length := (List.getElem?_eq_some_iff.1 hj).1
     rw [List.getElem?_append_left (by simp [bytesV]; omega), List.getElem?_append_right (by simp; omega)]
     have : j - (row.take bs.length).length = j - bs.length := by simp; omega
     rw [this, QlC, hj]; rfl
   ·injection hq with hq; subst hq; exact hgnot (g, 0) rfl
   ·have hxg : x ≠ g := fun e' => by subst e'; have := hgnot (x, 0) rfl; rw [this] at hv; cases hv
    rw [Heap.put_ne _ _ _ hx, Heap.put_ne _ _ _ hxg]; exact hbut x v hx hv
   ·rw [Heap.put_ne _ _ _ hb']; exact hrow
 ·have hb2b : b ≠ b2 := fun e' => by subst e'; rw [hrow] at hb2; cases hb2
  refine k _ _ ⟨hself, Heap.put_same .., .inr ⟨b2, 0, bytesV bs ++ bytesV ys ++ zeros [.int .u8 0] (cap - (s.len + ys.length)), Ne.symm hb2b, ?_, ?_, Nat.zero_le _, ?_, ?_, fun j c hj => ?_⟩, fun q hq => ?_, fun x v hx hv => ?_⟩ ?_
  ·simp only [List.length_append, QeO, Qic, hlen, List.length_singleton, Nat.mul_one]
   rw [show bs.length + ys.length + (cap - (bs.length + ys.length)) = cap by omega]
  ·rw [Heap.put_ne _ _ _ (Ne.symm hb2b), Heap.put_same]
  ·simp only [List.length_append, QeO, Qic, hlen, List.length_singleton, Nat.mul_one]; omega
  ·simp only [List.length_append, QeO, Qic, hlen, List.length_singleton, Nat.mul_one]; omega
  ·have hjl := (List.getElem?_eq_some_iff.1 hj).1
   rw [List.getElem?_append_left (by simp [bytesV] at hjl ⊢; omega), ← Qon, QlC, hj]; rfl
  ·injection hq with hq; subst hq
   dsimp only
   cases hx : H0 b2 with
   | none => rfl
   | some v => have := hbut b2 v (Ne.symm hb2b) hx; rw [hb2] at this; cases this
  ·have hxb2 : x ≠ b2 := fun e' => by subst e'; have := hbut x v hx hv; rw [hb2] at this; cases this
   rw [Heap.put_ne _ _ _ hx, Heap.put_ne _ _ _ hxb2]
   exact hbut x v hx hv
  ·rw [Heap.put_ne _ _ _ hb2b]; exact hrow
def nwB (T e : TypeId) (K : Nat → Heap → Prop) (H : Heap) : Prop := ∀ b, H b = none → K b (H.put b (.trow T 0 [pv none, slv Sl.nil]))
section
variable {P : Program} {C : Ctx} {Q Q' : Exit → Act → World → Prop} {n : FN} {l : List (Nat × Value)} {H : Heap} {ops : Array Oper} {rest : List Oper} {d : Nat} {ty : TypeId} {pos : String} {after : Array Edge} {g : Option (Nat × Bool)}
theorem GL.allocB {T e : TypeId} {z : Value} {K : Nat → Heap → Prop} (h : nwB T e K H) (hw : Wt ops l g) (hd : Nat.blt d n.n = true) (hz : (P.info? T).bind (·.zero) = some z) (hc : z.cells = #[.pointer none, .slice none 0 0])
 (k : ∀ b H', K b H' → GL P C ops Q n rest ((d, pv (some (b, 0))) :: l) H') : GL P C ops Q n (⟨some d, .alloc T, ty, pos, after, g⟩ :: rest) l H := by
 cases hinf : P.info? T with
 | none => rw [hinf] at hz; cases hz
 | some inf =>
  rw [hinf] at hz
  simp only [Option.bind_some] at hz
  refine GL.run (v := z) hw hd fun a w hf hs => ⟨pv (some (w.heap.size, 0)), _, _, ?_, hs.push (o := .cells #[.pointer none, .slice none 0 0] T) (g := .trow T 0 [pv none, slv Sl.nil]) (m := true) ⟨rfl, rfl, fun _ => .inl rfl⟩, k _ _ (h _ hs.fresh)⟩
  simp only [execOp, Instr.alloc]
  simp [zeroValue, typeInfo, hinf, hz, newVar, Go.newRow, hc, pv, adv]
end
/-- a builder: one that was never written, or a hidden one -/
def IsB (T e : TypeId) (H : Heap) (b : Nat) (bs : Str) : Prop := H b = some (true, .bld T e bs) ∨ (bs = [] ∧ H b = some (true, .trow T 0 [pv none, slv Sl.nil]))
theorem IsB.put {T e : TypeId} {H : Heap} {b : Nat} {bs : Str} : IsB T e (H.put b (.bld T e bs)) b bs := .inl (Heap.put_same ..)
theorem IsB.new {T e : TypeId} {H : Heap} {b : Nat} : IsB T e (H.put b (.trow T 0 [pv none, slv Sl.nil])) b [] := .inr ⟨rfl, Heap.put_same ..⟩
theorem IsB.le {T e : TypeId} {H H2 : Heap} {b : Nat} {bs : Str} (h : IsB T e H b bs) (hle : H.le H2) : IsB T e H2 b bs := by
 rcases h with h | ⟨h0, h⟩
 ·exact .inl (hle _ _ h)
 ·exact .inr ⟨h0, hle _ _ h⟩
theorem IsB.some {T e : TypeId} {H : Heap} {b : Nat} {bs : Str} (h : IsB T e H b bs) : ∃ g, H b = some (true, g) := by
 rcases h with h | ⟨h0, h⟩ <;> exact ⟨_, h⟩
theorem IsB.open_ {P : Program} {C : Ctx} {f : FuncId} {args : List Value} {H : Heap} {Φ : Value → Heap → Prop} {b : Nat} {T e : TypeId} {bs : Str} (hb : IsB T e H b bs)
 (h : ∀ p s H', OpenB H H' b T e bs p s → Spec P C f args H' Φ) : Spec P C f args H Φ := by
 rcases hb with hb | ⟨rfl, hb⟩
 ·exact Spec.openB hb h
 ·exact h none Sl.nil H ⟨.inl rfl, hb, .inl ⟨rfl, rfl⟩, fun q hq => (by cases hq), fun x v hx hv => hv⟩
theorem OpenB.setP {H0 H : Heap} {b : Nat} {T e : TypeId} {bs : Str} {p p2 : Option (Nat × Nat)} {s : Sl} (h : OpenB H0 H b T e bs p s) (hp : p2 = none ∨ p2 = Option.some (b, 0)) : OpenB H0 (H.put b (.trow T 0 [pv p2, slv s])) b T e bs p2 s := by
 obtain ⟨h1, h2, h3, h4, h5⟩ := h
 refine ⟨hp, Heap.put_same .., ?_, h4, fun x v hx hv => by rw [Heap.put_ne _ _ _ hx]; exact h5 x v hx hv⟩
 rcases h3 with h3 | ⟨g, k, row, hg, e1, e2, e3⟩
 ·exact .inl h3
 ·exact .inr ⟨g, k, row, hg, e1, by rw [Heap.put_ne _ _ _ hg]; exact e2, e3⟩
theorem OpenB.ne {H0 H : Heap} {b : Nat} {T e : TypeId} {bs : Str} {p : Option (Nat × Nat)} {s : Sl} (h : OpenB H0 H b T e bs p s) : ∀ q, s.p = Option.some q → q.1 ≠ b := fun q hq => by
 rcases h.buf with ⟨rfl, _⟩ | ⟨g, k, row, hg, rfl, _⟩
 ·cases hq
 ·injection hq with hq; subst hq; exact hg
theorem OpenB.slen {H0 H : Heap} {b : Nat} {T e : TypeId} {bs : Str} {p : Option (Nat × Nat)} {s : Sl} (h : OpenB H0 H b T e bs p s) : s.len = bs.length ∧ s.x = none ∧ (s.p = none ∨ s.cap ≠ 0) := by
 rcases h.buf with ⟨rfl, rfl⟩ | ⟨g, k, row, hg, rfl, _, _, h0, _⟩
 ·exact ⟨rfl, rfl, .inl rfl⟩
 ·exact ⟨rfl, rfl, .inr h0⟩
end
section
open Go
section
variable {P : Program} {C : Ctx} {Q : Exit → Act → World → Prop} {n : FN} {l : List (Nat × Value)} {H : Heap} {ops : Array Oper} {rest : List Oper} {d : Nat} {ty : TypeId} {pos : String} {after : Array Edge} {g : Option (Nat × Bool)}
end
end
section
open Go
section
variable {P : Program} {C : Ctx} {Q : Exit → Act → World → Prop} {n : FN} {l : List (Nat × Value)} {H Hs Hs0 : Heap} {ops : Array Oper} {fuel z : Nat} {listed : Array Bool} {d : Nat} {op : Op} {ty : TypeId} {pos : String} {after : Array Edge} {g : Option (Nat × Bool)}
end
end
end Sx
end
noncomputable section
set_option linter.unusedVariables false
namespace Sx
namespace Rf
open Go
section
variable {P : Program} {C : Ctx} {Q : Exit → Act → World → Prop} {ro : Option Nat} {a : Act} {w : World} {ops : Array Oper}
end
section
variable (ro : Option Nat) (P : Program) (C : Ctx)
end
section
variable {ro : Option Nat} {P : Program} {C : Ctx} {Q Q' : Exit → Act → World → Prop} {n : FN} {l : List (Nat × Value)} {H : Heap}
end
end Rf
end Sx
end

noncomputable section
set_option linter.unusedVariables false
set_option linter.unusedSimpArgs false
set_option maxRecDepth 10000
namespace Sx
section
open Go
section
variable {P : Program} {C : Ctx} {Q : Exit → Act → World → Prop} {n : FN} {l : List (Nat × Value)} {H Hs : Heap} {ops : Array Oper} {rest : List Oper} {fuel : Nat} {listed : Array Bool} {d : Nat} {op : Op} {ty : TypeId} {pos : String} {after : Array Edge} {g : Option (Nat × Bool)}
theorem Zv {op : Op} {v : Value} (hr : OV P C n l H ⟨some d, op, ty, pos, after, none⟩ v) (k : GL P C ops Q n rest ((d, v) :: l) H) (hd : Nat.blt d n.n = true := by exact rfl) :
 GL P C ops Q n (⟨some d, op, ty, pos, after, none⟩ :: rest) l H := GL.val trivial hd hr k
theorem Zm {x : Operand} {v : Value} (k : GL P C ops Q n rest ((d, v) :: l) H) (hx : opv l x = some v := by exact rfl) (hd : Nat.blt d n.n = true := by exact rfl) :
 GL P C ops Q n (⟨some d, .move x, ty, pos, after, none⟩ :: rest) l H := GL.val trivial hd (OV.move hx) k
theorem Za {x : Operand} {v : Value} (k : GL P C ops Q n rest ((d, v) :: l) H) (hx : opv l x = some v := by exact rfl) (hd : Nat.blt d n.n = true := by exact rfl) :
 GL P C ops Q n (⟨some d, .assign x, ty, pos, after, none⟩ :: rest) l H := GL.val trivial hd (OV.assign hx) k
theorem Zi {op : BinOp} {t yt : TypeId} {x y : Operand} {k0 : IntKind} {a b : Int} (v : Value) (k : GL P C ops Q n rest ((d, v) :: l) H) (hx : opv l x = some (.int k0 a) := by exact rfl) (hy : opv l y = some (.int k0 b) := by exact rfl)
 (hv : Sx.ibin op k0 a b = some v := by exact rfl) (hd : Nat.blt d n.n = true := by exact rfl) : GL P C ops Q n (⟨some d, .binOp op t x y yt, ty, pos, after, none⟩ :: rest) l H := GL.val trivial hd (OV.ibin hx hy hv) k
theorem Zf {t : TypeId} {x : Operand} {i off : Nat} {p : Nat × Nat} (k : GL P C ops Q n rest ((d, pv (some (p.1, p.2 + off))) :: l) H) (hx : opv l x = some (pv (some p)) := by exact rfl) (ho : fieldOff P t i = some off := by exact rfl) (hd : Nat.blt d n.n = true := by exact rfl) :
 GL P C ops Q n (⟨some d, .fieldAddr t x i, ty, pos, after, none⟩ :: rest) l H := GL.val trivial hd (OV.fieldAddr hx ho) k
theorem Zt {c x y : Operand} {b : Bool} {v : Value} (hb : b = true) (k : GL P C ops Q n rest ((d, v) :: l) H) (hc : opv l c = some (.bool b) := by exact rfl) (hx : opv l x = some v := by exact rfl) (hd : Nat.blt d n.n = true := by exact rfl) :
 GL P C ops Q n (⟨some d, .pick c x y, ty, pos, after, none⟩ :: rest) l H := GL.val trivial hd (OV.pickT hc hb hx) k
theorem Zn {c x y : Operand} {b : Bool} {v : Value} (hb : b = false) (k : GL P C ops Q n rest ((d, v) :: l) H) (hc : opv l c = some (.bool b) := by exact rfl) (hx : opv l y = some v := by exact rfl) (hd : Nat.blt d n.n = true := by exact rfl) :
 GL P C ops Q n (⟨some d, .pick c x y, ty, pos, after, none⟩ :: rest) l H := GL.val trivial hd (OV.pickF hc hb hx) k
theorem Zq {x : Operand} {t e : TypeId} {s : Sl} (k : GL P C ops Q n rest ((d, .int .i64 (s.len : Int)) :: l) H) (hx : opv l x = some (slv s) := by exact rfl) (ht : P.underlying t = some (.slice e) := by exact rfl) (hd : Nat.blt d n.n = true := by exact rfl) :
 GL P C ops Q n (⟨some d, .call { callee := .builtin .len, args := #[x], argTypes := #[t] }, ty, pos, after, none⟩ :: rest) l H := GL.val trivial hd (OV.lenSl hx ht) k
theorem Zr {x : Operand} {t : TypeId} {s : Str} (k : GL P C ops Q n rest ((d, .int .i64 (s.length : Int)) :: l) H) (hx : opv l x = some (sv s) := by exact rfl) (ht : P.underlying t = some .string := by exact rfl) (hd : Nat.blt d n.n = true := by exact rfl) :
 GL P C ops Q n (⟨some d, .call { callee := .builtin .len, args := #[x], argTypes := #[t] }, ty, pos, after, none⟩ :: rest) l H := GL.val trivial hd (OV.lenStr hx ht) k
/-- a guard that says yes, or no -/
theorem Zu {op : Op} {v : Value} {j d' : Nat} {want b : Bool} (hb : b = want) (hr : OV P C n l H ⟨some d, op, ty, pos, after, some (j, want)⟩ v) (k : GL P C ops Q n rest ((d, v) :: l) H)
 (h1 : (ops[j]?).bind (·.dst) = some d' := by exact rfl) (h2 : lk l d' = some (.bool b) := by exact rfl) (hd : Nat.blt d n.n = true := by exact rfl) :
 GL P C ops Q n (⟨some d, op, ty, pos, after, some (j, want)⟩ :: rest) l H := GL.val ⟨d', b, h1, h2, hb⟩ hd hr k
theorem Zk {op : Op} {j d' : Nat} {want b : Bool} (hb : b = !want) (k : GL P C ops Q n rest ((d, undef) :: l) H)
 (h1 : (ops[j]?).bind (·.dst) = some d' := by exact rfl) (h2 : lk l d' = some (.bool b) := by exact rfl) (hd : Nat.blt d n.n = true := by exact rfl) :
 GL P C ops Q n (⟨some d, op, ty, pos, after, some (j, want)⟩ :: rest) l H := GL.skip ⟨d', h1, .inl ⟨b, h2, hb⟩⟩ hd k
theorem Zc {f : FuncId} {xs : Array Operand} {ats : Array TypeId} {vs : List Value} {Φ : Value → Heap → Prop} (hc : Spec P C f vs H Φ) (hok : CallOk P f)
 (k : ∀ v H', Φ v H' → GL P C ops Q n rest ((d, v) :: l) H') (hx : opvs l xs.toList = some vs := by exact rfl) (hd : Nat.blt d n.n = true := by exact rfl) :
 GL P C ops Q n (⟨some d, .call { callee := .value (.func f), args := xs, argTypes := ats }, ty, pos, after, none⟩ :: rest) l H := GL.call hc trivial hd hok hx k
/-- a look in a region whose order is drawn -/
theorem Zp (i : Nat) {v : Value} (hi : ops[i]? = some ⟨some d, op, ty, pos, after, none⟩) (hv : OV P C n l Hs ⟨some d, op, ty, pos, after, none⟩ v) (k : GA P C ops Q n fuel (listed.setIfInBounds i true) ((d, v) :: l) H Hs) (hQ : ∀ c a w, Q (.panic c) a w → False := by exact fun _ _ _ => False.elim)
 (hs : Region.noSelect ops = true := by kernel_rfl) (hf : Region.free .any ops listed i = true := by kernel_rfl) (hr : (Region.ready .any ops listed).contains i = true := by kernel_rfl)
 (hd : Nat.blt d n.n = true := by exact rfl) : GA P C ops Q n (fuel + 1) listed l H Hs := GA.take i hi hs hf hr hQ trivial hd hv k
theorem Zg (i : Nat) {v : Value} (hi : ops[i]? = some ⟨some d, op, ty, pos, after, g⟩) (hw : Wt ops l g) (hv : OV P C n l Hs ⟨some d, op, ty, pos, after, g⟩ v) (k : GA P C ops Q n fuel (listed.setIfInBounds i true) ((d, v) :: l) H Hs) (hQ : ∀ c a w, Q (.panic c) a w → False := by exact fun _ _ _ => False.elim)
 (hs : Region.noSelect ops = true := by kernel_rfl) (hf : Region.free .any ops listed i = true := by kernel_rfl) (hr : (Region.ready .any ops listed).contains i = true := by kernel_rfl)
 (hd : Nat.blt d n.n = true := by exact rfl) : GA P C ops Q n (fuel + 1) listed l H Hs := GA.take i hi hs hf hr hQ hw hd hv k
theorem Zj (i : Nat) (hi : ops[i]? = some ⟨some d, op, ty, pos, after, g⟩) (hw : Wn ops l g) (k : GA P C ops Q n fuel (listed.setIfInBounds i true) ((d, undef) :: l) H Hs) (hQ : ∀ c a w, Q (.panic c) a w → False := by exact fun _ _ _ => False.elim)
 (hs : Region.noSelect ops = true := by kernel_rfl) (hf : Region.free .any ops listed i = true := by kernel_rfl) (hr : (Region.ready .any ops listed).contains i = true := by kernel_rfl)
 (hd : Nat.blt d n.n = true := by exact rfl) : GA P C ops Q n (fuel + 1) listed l H Hs := GA.skip i hi hs hf hr hQ hw hd k
theorem Zo {id : Nat} {ops : List Oper} {y : Code} (k : GL P C ops.toArray (Exit.then (y.wp P Q) Q) n ops l H) : GC P C Q n (.seq (.region id ops.toArray false) y) l H := GC.seq (GC.region k)
theorem Zb (b : Bool) : b = true ∨ b = false := Bool.eq_false_or_eq_true b
end
end
section
open Go
theorem I3 {α β : Type} {M : α → β → Prop} : ∀ a w, M a w → M a w := fun _ _ h => h
theorem ift.em {c : Bool} {A B : Prop} (h : ift c A B) : c = true ∧ A ∨ c = false ∧ B := by
 cases c
 ·exact .inr ⟨rfl, h.2 rfl⟩
 ·exact .inl ⟨rfl, h.1 rfl⟩
section
variable {P : Program} {C : Ctx} {Q : Exit → Act → World → Prop} {n : FN} {l : List (Nat × Value)} {H Hs : Heap} {ops : Array Oper} {rest : List Oper} {fuel : Nat} {listed : Array Bool} {d : Nat} {op : Op} {ty : TypeId} {pos : String} {after : Array Edge} {g : Option (Nat × Bool)}
theorem Yj {α : Type} {J : α → Heap → Prop} {e : α → List (Nat × Value)} (hq : ∀ a w, Meet C n J e a w → Q .normal a w) (x : α) (hj : J x H) (hs : Sub l (e x) := by (repeat refine ⟨rfl, ?_⟩); exact trivial) : GL P C ops Q n [] l H := GL.jump hq x hj hs
theorem Yk {α : Type} {J : α → Heap → Prop} {e : α → List (Nat × Value)} (hq : ∀ a w, Meet C n J e a w → Q .normal a w) (x : α) (hj : J x H) (hs : Sub l (e x) := by (repeat refine ⟨rfl, ?_⟩); exact trivial) : GC P C Q n .skip l H := GC.jump hq x hj hs
theorem Yp {α : Type} {x0 : α} {body : α → (α → Heap → Prop) → Heap → Prop} (h : lp x0 H body) (e : α → List (Nat × Value)) {c : Code}
 (round : ∀ x H' (J : α → Heap → Prop), body x J H' → GC P C (Exit.then (Meet C n J e) Q) n c (e x) H') (hs : Sub l (e x0) := by (repeat refine ⟨rfl, ?_⟩); exact trivial) : GC P C Q n (.loop c) l H := GC.loop h e hs round
theorem Y1 {fn : Func} {Φ : Value → Heap → Prop} {t m : Nat} {v : Value} (hq : ∀ a w, SpecPost P C fn Φ .ret a w → Q .ret a w) (h : Φ v H) (hr : fn.results = #[.tmp t] := by exact rfl) (hl : lk l t = some v := by exact rfl) : GC P C Q ⟨m, []⟩ .ret l H :=
 GC.ret fun a w hf hs => hq a w (Qsc hr hl hf hs h)
theorem Y2 {fn : Func} {Φ : Value → Heap → Prop} {t u m : Nat} {x y : Value} (hq : ∀ a w, SpecPost P C fn Φ .ret a w → Q .ret a w) (h : Φ (.tuple #[x, y]) H) (hr : fn.results = #[.tmp t, .tmp u] := by exact rfl) (hl : lk l t = some x := by exact rfl) (hl2 : lk l u = some y := by exact rfl) : GC P C Q ⟨m, []⟩ .ret l H :=
 GC.ret fun a w hf hs => hq a w (Qsd hr hl hl2 hf hs h)
theorem Y3 {fn : Func} {Φ : Value → Heap → Prop} {t u s m : Nat} {x y z : Value} (hq : ∀ a w, SpecPost P C fn Φ .ret a w → Q .ret a w) (h : Φ (.tuple #[x, y, z]) H) (hr : fn.results = #[.tmp t, .tmp u, .tmp s] := by exact rfl) (hl : lk l t = some x := by exact rfl) (hl2 : lk l u = some y := by exact rfl) (hl3 : lk l s = some z := by exact rfl) : GC P C Q ⟨m, []⟩ .ret l H :=
 GC.ret fun a w hf hs => hq a w (Qse hr hl hl2 hl3 hf hs h)
theorem Yd {c : Operand} {x y : Code} {b : Bool} {A B : Prop} (h : ift b A B) (h1 : b = true → A → GC P C Q n x l H) (h2 : b = false → B → GC P C Q n y l H) (hc : opv l c = some (.bool b) := by exact rfl) : GC P C Q n (.cond c x y) l H :=
 GC.cond hc (fun e => h1 e (h.1 e)) fun e => h2 e (h.2 e)
theorem Yl {t : TypeId} {x : Operand} {p : Nat × Nat} {α : Type} {f : α → Value} {K : α → Prop} (h : ∃ x, rd H p = some (f x) ∧ K x) (k : ∀ x, K x → GL P C ops Q n rest ((d, f x) :: l) H) (hx : opv l x = some (pv (some p)) := by exact rfl) (ht : aggB P t = false := by exact rfl) (hd : Nat.blt d n.n = true := by exact rfl) :
 GL P C ops Q n (⟨some d, .load t x, ty, pos, after, none⟩ :: rest) l H := by
 obtain ⟨y, hr, hk⟩ := h
 exact GL.val trivial hd (OV.load hx ht hr) (k y hk)
theorem Yx {x y : Operand} {t e : TypeId} {s : Sl} {i : Int} {k0 : IntKind} {sz : Nat} {K : Nat × Nat → Prop} (h : ixa s i K) (k : ∀ p, K p → GL P C ops Q n rest ((d, pv (some (p.1, p.2 + i.toNat * sz))) :: l) H)
 (hx : opv l x = some (slv s) := by exact rfl) (hy : opv l y = some (.int k0 i) := by exact rfl) (ht : P.underlying t = some (.slice e) := by exact rfl) (he : (P.info? e).map (·.size) = some sz := by exact rfl) (hd : Nat.blt d n.n = true := by exact rfl) :
 GL P C ops Q n (⟨some d, .indexAddr t x y, ty, pos, after, none⟩ :: rest) l H := by
 obtain ⟨p, hp, hx0, h0, h1, hk⟩ := h
 exact GL.val trivial hd (OV.indexAddr hx hy ht he hp hx0 h0 h1) (k p hk)
theorem Ys {x y : Operand} {t : TypeId} {s : Str} {i : Int} {k0 : IntKind} {K : UInt8 → Prop} (h : ixs s i K) (k : ∀ c : UInt8, K c → GL P C ops Q n rest ((d, .int .u8 (c.toNat : Int)) :: l) H)
 (hx : opv l x = some (sv s) := by exact rfl) (hy : opv l y = some (.int k0 i) := by exact rfl) (ht : P.underlying t = some .string := by exact rfl) (hd : Nat.blt d n.n = true := by exact rfl) :
 GL P C ops Q n (⟨some d, .index t x y, ty, pos, after, none⟩ :: rest) l H := by
 obtain ⟨c, h0, h1, hk⟩ := h
 exact GL.val trivial hd (OV.indexStr hx hy ht h0 h1) (k c hk)
theorem Ye {m : Nat} {f : FuncId} {fn : Func} {c : Code} {args : List Value} {Φ : Value → Heap → Prop} (hf : P.funcs[f]? = some fn) (hb : fn.body = some c) (hn : fn.ntmps = m) (l' : List (Nat × Value))
 (k : GC P C (SpecPost P C fn Φ) ⟨m, []⟩ c l' H) (ha : Nat.ble args.length m = true := by exact rfl) (hs : Sub (argFrame args) l' := by (repeat refine ⟨rfl, ?_⟩); exact trivial) : Spec P C f args H Φ := Spec.enter hf hb hn ha (GC.sub l' hs k)
theorem Ym {x : Operand} {v : Value} (hx : opv l x = some v := by exact rfl) : OV P C n l H ⟨some d, .move x, ty, pos, after, g⟩ v := OV.move hx
theorem Ya {x : Operand} {v : Value} (hx : opv l x = some v := by exact rfl) : OV P C n l H ⟨some d, .assign x, ty, pos, after, g⟩ v := OV.assign hx
theorem Yo {t : TypeId} {x : Operand} {p : Nat × Nat} {v : Value} (hr : rd H p = some v) (hx : opv l x = some (pv (some p)) := by exact rfl) (ht : aggB P t = false := by exact rfl) : OV P C n l H ⟨some d, .load t x, ty, pos, after, g⟩ v := OV.load hx ht hr
theorem Yf {t : TypeId} {x : Operand} {i off : Nat} {p : Nat × Nat} (hx : opv l x = some (pv (some p)) := by exact rfl) (ho : fieldOff P t i = some off := by exact rfl) : OV P C n l H ⟨some d, .fieldAddr t x i, ty, pos, after, g⟩ (pv (some (p.1, p.2 + off))) := OV.fieldAddr hx ho
theorem Yv {x : Operand} {i : Nat} {vs : Array Value} (v : Value) (hx : opv l x = some (.tuple vs)) (hv : vs[i]? = some v) (k : GL P C ops Q n rest ((d, v) :: l) H) (hd : Nat.blt d n.n = true := by exact rfl) : GL P C ops Q n (⟨some d, .extract x i, ty, pos, after, none⟩ :: rest) l H :=
 GL.val trivial hd (OV.extract hx hv) k
theorem Yw {j d' : Nat} {want b : Bool} (hb : b = !want) (h1 : (ops[j]?).bind (·.dst) = some d' := by exact rfl) (h2 : lk l d' = some (.bool b) := by exact rfl) : Wn ops l (some (j, want)) := ⟨d', h1, .inl ⟨b, h2, hb⟩⟩
theorem Yt {j d' : Nat} {want b : Bool} (hb : b = want) (h1 : (ops[j]?).bind (·.dst) = some d' := by exact rfl) (h2 : lk l d' = some (.bool b) := by exact rfl) : Wt ops l (some (j, want)) := ⟨d', b, h1, h2, hb⟩
end
end
section
set_option linter.unusedSectionVars false
open Go
section
variable {α : Type} {κ : Type} [DecidableEq κ] {ke : κ → Value} {enc : α → Value}
def lkL (k : κ) : List (κ × α) → Option α
 | [] => none
 | p :: l => if p.1 = k then some p.2 else lkL k l
theorem QqA {k : κ} : ∀ {l : List (κ × α)}, (∀ p ∈ l, p.1 ≠ k) → lkL k l = none
 | [], _ => rfl
 | p :: l, h => by
  simp only [lkL]
  rw [if_neg (h p (List.mem_cons_self ..))]
  exact QqA fun q hq => h q (List.mem_cons_of_mem _ hq)
theorem QrZ {k : κ} {x : α} : ∀ {l : List (κ × α)}, l.Pairwise (fun p q => p.1 ≠ q.1) → (k, x) ∈ l → lkL k l = some x
 | p :: l, h, hm => by
  have h1 := List.pairwise_cons.1 h
  simp only [lkL]
  rcases List.mem_cons.1 hm with rfl | hm
  ·rw [if_pos rfl]
  ·rw [if_neg (h1.1 _ hm)]; exact QrZ h1.2 hm
theorem QnZ {k k2 : κ} {x : α} : ∀ {l : List (κ × α)}, lkL k l = none → lkL k2 (l ++ [(k, x)]) = if k2 = k then some x else lkL k2 l
 | [], _ => by
  simp only [List.nil_append, lkL]
  by_cases h : k2 = k
  ·rw [if_pos h.symm, if_pos h]
  ·rw [if_neg (Ne.symm h), if_neg h]
 | p :: l, h => by
  simp only [lkL] at h
  split at h <;> try (cases h; done)
  rename_i hp
  simp only [List.cons_append, lkL, QnZ (k2 := k2) (x := x) h]
  by_cases h2 : p.1 = k2
  ·rw [if_pos h2, if_pos h2, if_neg (fun e => hp (h2.trans e))]
  ·rw [if_neg h2, if_neg h2]
theorem Qr0 {k k2 : κ} {x y : α} : ∀ {l : List (κ × α)} {j : Nat}, l.Pairwise (fun p q => p.1 ≠ q.1) → l[j]? = some (k, x) → lkL k2 (l.set j (k, y)) = if k2 = k then some y else lkL k2 l
 | [], j, _, h => by simp at h
 | p :: l, 0, _, h => by
  simp at h; subst h
  simp only [List.set_cons_zero, lkL]
  by_cases h2 : k = k2
  ·rw [if_pos h2, if_pos h2.symm]
  ·rw [if_neg h2, if_neg (Ne.symm h2), if_neg h2]
 | p :: l, j + 1, hp, h => by
  have h1 := List.pairwise_cons.1 hp
  have hm : l[j]? = some (k, x) := by simpa using h
  have hne := h1.1 _ (List.mem_of_getElem? hm)
  simp only [List.set_cons_succ, lkL, Qr0 (k2 := k2) (y := y) h1.2 hm]
  by_cases h2 : p.1 = k2
  ·rw [if_pos h2, if_pos h2, if_neg (fun e => hne (h2.trans e))]
  ·rw [if_neg h2, if_neg h2]
structure MapIs (ke : κ → Value) (enc : α → Value) (H : Heap) (b : Nat) (l : List (κ × α)) : Prop where
 ex : ∃ (es : Array MapEntry) (ck : Nat), H b = some (true, .obj (.map es ck)) ∧ es.toList.map (fun e => (e.key, e.val)) = l.map fun p => (ke p.1, enc p.2)
 nd : l.Pairwise fun p q => p.1 ≠ q.1
theorem MapIs.mine {H : Heap} {b : Nat} {l : List (κ × α)} (h : MapIs ke enc H b l) : ∃ g, H b = some (true, g) := by
 obtain ⟨⟨es, ck, h1, h2⟩, h3⟩ := h
 exact ⟨_, h1⟩
def mkM (K : Nat → Heap → Prop) (H : Heap) : Prop := ∀ b, H b = none → K b (H.put b (.obj (.map #[] 0)))
def Lk (ke : κ → Value) (enc : α → Value) (z : α) (q : Option Nat) (k : κ) (x : α) (b : Bool) (H : Heap) : Prop :=
 (q = none ∧ x = z ∧ b = false) ∨ ∃ r l, q = some r ∧ MapIs ke enc H r l ∧ (lkL k l = some x ∧ b = true ∨ lkL k l = none ∧ x = z ∧ b = false)
/-- a look into a map -/
def lkM (ke : κ → Value) (enc : α → Value) (z : α) (q : Option Nat) (k : κ) (K : α → Bool → Prop) (H : Heap) : Prop := ∃ x b, Lk ke enc z q k x b H ∧ K x b
theorem MapIs.lk {H : Heap} {r : Nat} {l : List (κ × α)} {z : α} {k : κ} {K : α → Bool → Prop} (h : MapIs ke enc H r l) (k1 : ∀ x, lkL k l = some x → K x true) (k2 : lkL k l = none → K z false) : lkM ke enc z (some r) k K H := by
 cases hl : lkL k l with
 | some x => exact ⟨x, true, .inr ⟨r, l, rfl, h, .inl ⟨hl, rfl⟩⟩, k1 x hl⟩
 | none => exact ⟨z, false, .inr ⟨r, l, rfl, h, .inr ⟨hl, rfl, rfl⟩⟩, k2 hl⟩
/-- what is asked of keys: they are told apart, and found -/
structure KOk (P : Program) (kt : TypeId) {κ : Type} (ke : κ → Value) : Prop where
 inj : ∀ {a b : κ}, ke a = ke b → a = b
 check : ∀ (w : World) (em : Bool) (k : κ), (Instr.checkKey em 10000 kt (ke k)).run P w = .ok () w
 find : ∀ (w : World) (k : κ) (es : List MapEntry), (∀ e ∈ es, ∃ k', e.key = ke k') →
  ((Instr.findKey kt (ke k) es).run P w = .ok none w ∧ ∀ e ∈ es, e.key ≠ ke k) ∨ ∃ j e, (Instr.findKey kt (ke k) es).run P w = .ok (some (j, e.val)) w ∧ es[j]? = some e ∧ e.key = ke k
 stays : ∀ (w : World) (k : κ), (Instr.keyThatStays (ke k) (ke k)).run P w = .ok (ke k) w
theorem QtI {a b : Str} (h : sv a = sv b) : a = b := by
 simp only [sv, Value.string.injEq, ByteArray.mk.injEq] at h
 have := congrArg Array.toList h
 simpa using this
theorem kText {P : Program} {kt : TypeId} (hd : P.underlying kt = some .string) : KOk P kt sv where
 inj := QtI
 check := fun w em k => MapKept.run_checkKey hd (k := sv k) trivial em 9999
 find := fun w k es hall => by
  rcases MapKept.findNow_spec (d := .string) (k := sv k) trivial es 0 (fun e he => by obtain ⟨k', hk'⟩ := hall e he; rw [hk']; exact trivial) with ⟨h1, h2⟩ | ⟨j, e, h1, h2, h3⟩
  ·exact .inl ⟨MapKept.run_findKey hd h1, h2⟩
  ·rw [Nat.zero_add] at h1
   exact .inr ⟨j, e, MapKept.run_findKey hd h1, h2, h3⟩
 stays := fun w k => MapKept.run_keyThatStays (d := .string) trivial
theorem Qpi {P : Program} {kt : TypeId} (hd : KOk P kt ke) {es : Array MapEntry} {l : List (κ × α)} (he : es.toList.map (fun e => (e.key, e.val)) = l.map fun p => (ke p.1, enc p.2)) (nd : l.Pairwise fun p q => p.1 ≠ q.1) (k : κ) (w : World) :
 (lkL k l = none ∧ (Instr.findKey kt (ke k) es.toList).run P w = .ok none w) ∨ ∃ j e x, lkL k l = some x ∧ (Instr.findKey kt (ke k) es.toList).run P w = .ok (some (j, enc x)) w ∧ es[j]? = some e ∧ e.key = ke k ∧ l[j]? = some (k, x) := by
 have hall : ∀ e ∈ es.toList, ∃ k', e.key = ke k' := fun e hm => by
  have : (e.key, e.val) ∈ es.toList.map fun e => (e.key, e.val) := List.mem_map.2 ⟨e, hm, rfl⟩
  rw [he] at this
  obtain ⟨p, _, hp⟩ := List.mem_map.1 this
  injection hp with hp _
  exact ⟨p.1, hp.symm⟩
 rcases hd.find w k es.toList hall with ⟨h1, h2⟩ | ⟨j, e, h1, h2, h3⟩
 ·refine .inl ⟨QqA fun p hp e => ?_, h1⟩
  have : (ke p.1, enc p.2) ∈ l.map fun p => (ke p.1, enc p.2) := List.mem_map.2 ⟨p, hp, rfl⟩
  rw [← he] at this
  obtain ⟨x, hx, hxe⟩ := List.mem_map.1 this
  injection hxe with hxe _
  exact h2 x hx (by rw [hxe, e])
 ·have hj := congrArg (fun l => l[j]?) he
  simp only [List.getElem?_map, h2, Option.map_some] at hj
  cases hp : l[j]? with
  | none => rw [hp] at hj; cases hj
  | some p =>
   rw [hp] at hj
   simp only [Option.map_some, Option.some.injEq, Prod.mk.injEq] at hj
   have hpk : p.1 = k := hd.inj (by rw [← hj.1, h3])
   have hpe : p = (k, p.2) := by rw [← hpk]
   rw [hpe] at hp
   refine .inr ⟨j, e, p.2, QrZ nd (List.mem_of_getElem? hp), ?_, by simpa using h2, h3, hp⟩
   rw [← hj.2]; exact h1
end
section
variable {P : Program} {C : Ctx} {Q : Exit → Act → World → Prop} {n : FN} {l : List (Nat × Value)} {H : Heap} {ops : Array Oper} {rest : List Oper} {d : Nat} {ty : TypeId} {pos : String} {after : Array Edge} {g : Option (Nat × Bool)} {α : Type} {κ : Type} [DecidableEq κ] {ke : κ → Value} {enc : α → Value}
theorem St.getO {w : World} {b : Nat} {ob : Obj} (hs : St C w H) (h : H b = some (true, .obj ob)) : (getObj b).run P w = .ok ob w ∧ w.heap[b]? = some ob := by
 obtain ⟨o1, ho, hrel⟩ := hs.blk _ _ _ h
 simp only [GO.rel] at hrel
 obtain ⟨h1, h2⟩ := hrel
 rw [h1] at ho
 refine ⟨?_, ho⟩
 cases ob <;> first | exact absurd rfl (h2 _ _ _) | simp [getObj, Sem.run, ho]
theorem GL.makeMap {t : TypeId} {K : Nat → Heap → Prop} (h : mkM K H) (hw : Wt ops l g) (hd : Nat.blt d n.n = true) (k : ∀ b H', K b H' → GL P C ops Q n rest ((d, mv (some b)) :: l) H') : GL P C ops Q n (⟨some d, .makeMap t none, ty, pos, after, g⟩ :: rest) l H := by
 refine GL.run (v := .bool true) hw hd fun a w hf hs => ⟨mv (some w.heap.size), _, _, ?_, hs.push (o := .map #[] 0) (g := .obj (.map #[] 0)) (m := true) ⟨rfl, fun _ _ _ h => by cases h⟩, k _ _ (h _ hs.fresh)⟩
 simp [execOp, Instr.makeMap, newObj, Sem.run, mv]
theorem OV.lookupM {t kt et : TypeId} {X Y : Operand} {c : Bool} {z x : α} {q : Option Nat} {k : κ} {b : Bool} (hL : Lk ke enc z q k x b H) (hx : opv l X = some (mv q)) (hy : opv l Y = some (ke k)) (ht : P.underlying t = some (.map kt et)) (hk : KOk P kt ke) (hz : (P.info? et).bind (·.zero) = some (enc z)) :
 OV P C n l H ⟨some d, .lookup t X Y c, ty, pos, after, g⟩ (if c then .tuple #[enc x, .bool b] else enc x) := by
 intro a w hf hs
 have hzv : (zeroValue et).run P w = .ok (enc z) w := by
  cases hinf : P.info? et with
  | none => rw [hinf] at hz; cases hz
  | some inf =>
   rw [hinf] at hz
   simp only [Option.bind_some] at hz
   simp [zeroValue, typeInfo, hinf, hz]
 have hck : ∀ em, (Instr.checkKey em 10000 kt (ke k)).run P w = .ok () w := fun em => hk.check w em k
 simp only [execOp, hf.ev hx, hf.ev hy]
 rcases hL with ⟨rfl, rfl, rfl⟩ | ⟨r, es', rfl, ⟨⟨es, ck, h1, h2⟩, nd⟩, hcase⟩
 ·have hfk : (Instr.findKey kt (ke k) []).run P w = .ok none w := by
   rcases hk.find w k [] (fun e he => by cases he) with ⟨h, _⟩ | ⟨j, e, _, h, _⟩
   ·exact h
   ·simp at h
  simp only [Instr.lookup, mv]
  cases c <;> simp [underlying, ht, hck, hfk, hzv]
 ·obtain ⟨g1, _⟩ := St.getO (P := P) hs h1
  simp only [Instr.lookup, mv]
  rcases Qpi hk h2 nd k w with ⟨q1, q2⟩ | ⟨j, e, x', q1, q2, _⟩
  ·rcases hcase with ⟨c1, rfl⟩ | ⟨c1, rfl, rfl⟩
   ·rw [q1] at c1; cases c1
   ·cases c <;> simp [underlying, ht, hck, q2, hzv, g1]
  ·rcases hcase with ⟨c1, rfl⟩ | ⟨c1, rfl, rfl⟩
   ·rw [q1] at c1; injection c1 with c1; subst c1
    cases c <;> simp [underlying, ht, hck, q2, hzv, g1]
   ·rw [q1] at c1; cases c1
theorem OV.lookup1 {t kt et : TypeId} {X Y : Operand} {z x : α} {q : Option Nat} {k : κ} {b : Bool} {v : Value} (hv : v = enc x) (hL : Lk ke enc z q k x b H) (hx : opv l X = some (mv q)) (hy : opv l Y = some (ke k)) (ht : P.underlying t = some (.map kt et)) (hk : KOk P kt ke) (hz : (P.info? et).bind (·.zero) = some (enc z)) :
 OV P C n l H ⟨some d, .lookup t X Y false, ty, pos, after, g⟩ v := by
 subst hv; exact OV.lookupM (c := false) hL hx hy ht hk hz
end
section
variable {α : Type} {κ : Type} [DecidableEq κ] {ke : κ → Value} {enc : α → Value}
/-- a map, whose entries' stamps are known -/
structure MapSt (ke : κ → Value) (enc : α → Value) (H : Heap) (b : Nat) (l : List (κ × α)) (es : Array MapEntry) (ck : Nat) : Prop where
 at_ : H b = some (true, .obj (.map es ck))
 ents : es.toList.map (fun e => (e.key, e.val)) = l.map fun p => (ke p.1, enc p.2)
 st : MapKept.Stamped es ck
theorem MapSt.keys {H : Heap} {b : Nat} {l : List (κ × α)} {es : Array MapEntry} {ck : Nat} (h : MapSt ke enc H b l es ck) : es.toList.map (fun e => e.key) = l.map fun p => ke p.1 := by
 have := congrArg (List.map fun q : Value × Value => q.1) h.ents
 simpa [List.map_map, Function.comp_def] using this
theorem MapSt.nd {H : Heap} {b : Nat} {l : List (κ × α)} {es : Array MapEntry} {ck : Nat} (h : MapSt ke enc H b l es ck) : l.Pairwise fun p q => p.1 ≠ q.1 := by
 have h3 : (es.toList.map fun e => e.key).Nodup := h.st.2.2
 rw [h.keys, List.Nodup, List.pairwise_map] at h3
 exact h3.imp fun {a b} hab e => hab (by rw [e])
theorem MapSt.is {H : Heap} {b : Nat} {l : List (κ × α)} {es : Array MapEntry} {ck : Nat} (h : MapSt ke enc H b l es ck) : MapIs ke enc H b l := ⟨⟨es, ck, h.at_, h.ents⟩, h.nd⟩
theorem MapSt.out {H : Heap} {b : Nat} {l : List (κ × α)} {es : Array MapEntry} {ck : Nat} (h : MapSt ke enc H b l es ck) {e : MapEntry} (he : e ∈ es.toList) : ∃ p ∈ l, ke p.1 = e.key ∧ enc p.2 = e.val := by
 have : (e.key, e.val) ∈ es.toList.map fun e => (e.key, e.val) := List.mem_map.2 ⟨e, he, rfl⟩
 rw [h.ents] at this
 obtain ⟨p, hp, e⟩ := List.mem_map.1 this
 injection e with e1 e2
 exact ⟨p, hp, e1, e2⟩
/-- an iterator over a map: what was told of it -/
structure It (ke : κ → Value) (enc : α → Value) (H : Heap) (it m : Nat) (l vs : List (κ × α)) : Prop where
 ex : ∃ es ck seen, MapSt ke enc H m l es ck ∧ H it = some (true, .obj (.mapIter (some m) ck seen ck)) ∧ (∀ e ∈ es.toList, (seen.contains e.born = true ↔ ∃ p ∈ vs, ke p.1 = e.key)) ∧ (∀ us p, vs = us ++ [p] → ∃ e ∈ es.toList, seen.back? = some e.born ∧ ke p.1 = e.key ∧ enc p.2 = e.val) ∧ seen.size = vs.length
 sub : ∀ p ∈ vs, p ∈ l
 nd : vs.Pairwise fun p q => p.1 ≠ q.1
 ki : ∀ {a b : κ}, ke a = ke b → a = b
end
section
variable {P : Program} {C : Ctx} {Q : Exit → Act → World → Prop} {n : FN} {l : List (Nat × Value)} {H : Heap} {ops : Array Oper} {rest : List Oper} {d : Nat} {ty : TypeId} {pos : String} {after : Array Edge} {g : Option (Nat × Bool)} {α : Type} {κ : Type} [DecidableEq κ] {ke : κ → Value} {enc : α → Value}
end
section
variable {α : Type} {κ : Type} [DecidableEq κ] {ke : κ → Value} {enc : α → Value}
/-- a map whose stamps are kept in order -/
def MapS (ke : κ → Value) (enc : α → Value) (H : Heap) (b : Nat) (l : List (κ × α)) : Prop := ∃ es ck, MapSt ke enc H b l es ck
theorem MapS.is {H : Heap} {b : Nat} {l : List (κ × α)} (h : MapS ke enc H b l) : MapIs ke enc H b l := by obtain ⟨es, ck, h⟩ := h; exact h.is
theorem MapS.le {A B : Heap} {b : Nat} {l : List (κ × α)} (h : MapS ke enc A b l) (hle : A.le B) : MapS ke enc B b l := by
 obtain ⟨es, ck, h⟩ := h
 exact ⟨es, ck, hle _ _ h.at_, h.ents, h.st⟩
theorem MapS.new {H : Heap} {b : Nat} : MapS ke enc (H.put b (.obj (.map #[] 0))) b [] := ⟨#[], 0, Heap.put_same .., rfl, MapKept.stamped_empty 0⟩
/-- an entry written -/
def upS (ke : κ → Value) (enc : α → Value) (q : Option Nat) (k : κ) (x : α) (K : Heap → Prop) (H : Heap) : Prop :=
 ∃ b l, q = some b ∧ MapS ke enc H b l ∧ ∀ g l2, MapS ke enc (H.put b g) b l2 → (∀ k2, lkL k2 l2 = if k2 = k then some x else lkL k2 l) → l2.length = (if (lkL k l).isSome then l.length else l.length + 1) → K (H.put b g)
end
section
variable {P : Program} {C : Ctx} {Q : Exit → Act → World → Prop} {n : FN} {l : List (Nat × Value)} {H : Heap} {ops : Array Oper} {rest : List Oper} {d : Nat} {ty : TypeId} {pos : String} {after : Array Edge} {g : Option (Nat × Bool)} {α : Type} {κ : Type} [DecidableEq κ] {ke : κ → Value} {enc : α → Value}
theorem GL.mapUpdateS {t kt et : TypeId} {X Y Z : Operand} {q : Option Nat} {k : κ} {x : α} {K : Heap → Prop} (h : upS ke enc q k x K H) (hw : Wt ops l g) (hx : opv l X = some (mv q)) (hy : opv l Y = some (ke k)) (hz : opv l Z = some (enc x)) (ht : P.underlying t = some (.map kt et)) (hk : KOk P kt ke)
 (kk : ∀ H', K H' → GL P C ops Q n rest l H') : GL P C ops Q n (⟨none, .mapUpdate t X Y Z, ty, pos, after, g⟩ :: rest) l H := by
 obtain ⟨b, l0, rfl, ⟨es, ck, hm⟩, h3⟩ := h
 have h1 := hm.at_
 have h2 := hm.ents
 have nd := hm.nd
 refine GL.run0 hw fun a w hf hs => ?_
 obtain ⟨g1, g2⟩ := St.getO (P := P) hs h1
 have hlt : b < w.heap.size := (Array.getElem?_eq_some_iff.1 g2).1
 have hck : ∀ em, (Instr.checkKey em 10000 kt (ke k)).run P w = .ok () w := fun em => hk.check w em k
 have hset : ∀ es' ck', (setObj b (.map es' ck')).run P w = .ok () (w.putObj b (.map es' ck')) := fun es' ck' => by simp [setObj, Sem.run, g2, World.putObj]
 have hst : ∀ es' ck', St C (w.putObj b (.map es' ck')) (H.put b (.obj (.map es' ck'))) := fun es' ck' =>
  hs.set h1 ⟨rfl, rfl, World.putObj_heap_same hlt, fun x hx => World.putObj_heap_other hx⟩ ⟨rfl, fun _ _ _ h => by cases h⟩
 simp only [execOp, hf.ev hx, hf.ev hy, hf.ev hz, Instr.mapUpdate, mv]
 rcases Qpi hk h2 nd k w with ⟨q1, q2⟩ | ⟨j, e, x', q1, q2, q3, q4, q5⟩
 ·refine ⟨_, _, ?_, hst (es.push { key := ke k, val := enc x, born := ck }) (ck + 1), kk _ (h3 _ (l0 ++ [(k, x)]) ⟨_, _, Heap.put_same .., ?_, MapKept.stamped_push hm.st fun e he hek => ?_⟩ (fun k2 => QnZ q1) ?_)⟩
  ·simp [underlying, ht, hck, q2, g1, hset]
  ·simp [h2]
  ·obtain ⟨p, hp, hpk, _⟩ := hm.out he
   have hpk2 := hk.inj (hpk.trans hek)
   have := QrZ nd (k := k) (x := p.2) (by rw [← hpk2]; exact hp)
   rw [q1] at this; cases this
  ·rw [q1]; simp
 ·have hst2 : (Instr.keyThatStays (ke k) (ke k)).run P w = .ok (ke k) w := hk.stays w k
  refine ⟨_, _, ?_, hst (es.modify j fun e => { e with key := ke k, val := enc x }) ck, kk _ (h3 _ (l0.set j (k, x)) ⟨_, _, Heap.put_same .., ?_, MapKept.stamped_modify hm.st j _ (fun _ _ => rfl) fun e' he' hj => ?_⟩ (fun k2 => Qr0 nd q5) ?_)⟩
  ·simp [underlying, ht, hck, q2, g1, hset, q3, q4, hst2]
  ·rw [Array.toList_modify]
   apply List.ext_getElem?
   intro i
   have hi := congrArg (fun l => l[i]?) h2
   simp only [List.getElem?_map] at hi ⊢
   rw [List.getElem?_modify]
   by_cases hij : j = i
   ·subst hij
    have hjl := (List.getElem?_eq_some_iff.1 q5).1
    rw [List.getElem?_set_self hjl, show es.toList[j]? = some e by simpa using q3]
    simp
   ·rw [List.getElem?_set_ne hij]
    simp only [hij, if_false]
    cases hh : es.toList[i]? with
    | none => rw [hh] at hi; simpa using hi
    | some e' => rw [hh] at hi; simpa using hi
  ·rw [q3] at hj; injection hj with hj; subst hj; exact q4.symm
  ·rw [q1, List.length_set]; simp
end
section
variable {α κ : Type} [DecidableEq κ] (ke : κ → Value) (enc : α → Value)
end
section
variable {P : Program} {C : Ctx} {Q : Exit → Act → World → Prop} {n : FN} {l : List (Nat × Value)} {H : Heap} {ops : Array Oper} {rest : List Oper} {d : Nat} {ty : TypeId} {pos : String} {after : Array Edge} {g : Option (Nat × Bool)} {α : Type} {κ : Type} [DecidableEq κ] {ke : κ → Value} {enc : α → Value}
end
end
section
open Go
/-- an operation, where its result goes, and what is known of it (kept by new memory) -/
structure UO where
 i : Nat
 d : Nat
 Ψ : Value → Heap → Prop
 m : ∀ v A B, Heap.le A B → Ψ v A → Ψ v B
def lsU (listed : Array Bool) (is : List Nat) : Array Bool := is.foldl (fun a i => a.setIfInBounds i true) listed
theorem Qr1 : ∀ (is : List Nat) (listed : Array Bool) (j : Nat), (lsU listed is)[j]? = if j ∈ is then (listed[j]?).map (fun _ => true) else listed[j]?
 | [], listed, j => by simp [lsU]
 | i :: is, listed, j => by
  have ih := Qr1 is (listed.setIfInBounds i true) j
  have e : lsU listed (i :: is) = lsU (listed.setIfInBounds i true) is := rfl
  rw [e, ih]
  by_cases hji : j = i
  ·subst hji
   rw [if_pos (List.mem_cons_self ..)]
   by_cases hlt : j < listed.size
   ·simp [hlt]
   ·have h1 : listed[j]? = none := Array.getElem?_eq_none (by omega)
    have h2 : (listed.setIfInBounds j true)[j]? = none := Array.getElem?_eq_none (by simp; omega)
    rw [h1, h2]; simp
  ·rw [Array.getElem?_setIfInBounds_ne (Ne.symm hji)]
   simp [hji]
/-- what the list must be: none of it listed yet, each result its own, each waits but for what is listed or ahead in the list, and whatever else is not listed waits for all of it -/
def unB (ops : Array Oper) (listed : Array Bool) : List (Nat × Nat) → List Nat → Bool
 | [], _ => true
 | (i, d) :: r, ahead => !listed.getD i true && !(ahead.contains i) && r.all (fun p => !(p.1 == i) && !(p.2 == d)) &&
  ((ops[i]?).map (fun o => o.after.all fun e => !Region.binds .any e || listed.getD e.on false || ahead.contains e.on)).getD false && unB ops listed r (i :: ahead)
def unR (ops : Array Oper) (listed : Array Bool) (todo : List (Nat × Nat)) : Bool :=
 (List.range ops.size).all fun j => listed.getD j true || todo.any (fun p => p.1 == j) || todo.all fun p => Region.waitsFor .any ops j p.1
def unOk (ops : Array Oper) (listed : Array Bool) (todo : List (Nat × Nat)) : Bool := decide (listed.size = ops.size) && unB ops listed todo [] && unR ops listed todo
section
variable {P : Program} {C : Ctx} {Q : Exit → Act → World → Prop} {n : FN} {l : List (Nat × Value)} {H Hs : Heap} {ops : Array Oper} {fuel : Nat} {listed : Array Bool} {todo : List UO}
theorem QsA : ∀ (todo : List UO) (ahead : List Nat), unB ops listed (todo.map fun u => (u.i, u.d)) ahead = true →
 (∀ u ∈ todo, listed.getD u.i true = false) ∧ todo.Pairwise (fun u q => q.i ≠ u.i ∧ q.d ≠ u.d) ∧
 ∀ (pre : List UO) (u : UO) (post : List UO), todo = pre ++ u :: post → ∃ o, ops[u.i]? = some o ∧ ∀ e ∈ o.after, Region.binds .any e = true → listed.getD e.on false = true ∨ e.on ∈ ahead ∨ ∃ q ∈ pre, q.i = e.on
 | [], ahead, _ => ⟨fun u hu => (by cases hu), List.Pairwise.nil, fun pre u post h => (by cases pre <;> cases h)⟩
 | u :: todo, ahead, h => by
  simp only [List.map_cons, unB, Bool.and_eq_true, Bool.not_eq_true', List.all_eq_true, List.mem_map] at h
  obtain ⟨⟨⟨⟨h1, h2⟩, h3⟩, h4⟩, h5⟩ := h
  obtain ⟨i1, i2, i3⟩ := QsA todo _ h5
  refine ⟨fun q hq => ?_, List.pairwise_cons.2 ⟨fun q hq => ?_, i2⟩, fun pre w post e => ?_⟩
  ·rcases List.mem_cons.1 hq with rfl | hq
   ·exact h1
   ·exact i1 q hq
  ·have := h3 (q.i, q.d) ⟨q, hq, rfl⟩
   exact ⟨by simpa using this.1, by simpa using this.2⟩
  ·cases pre with
   | nil =>
    injection e with e1 e2
    subst e1
    cases ho : ops[u.i]? with
    | none => rw [ho] at h4; cases h4
    | some o =>
     rw [ho] at h4
     refine ⟨o, rfl, fun e he hb => ?_⟩
     have h4 : (o.after.all fun e => !Region.binds .any e || listed.getD e.on false || ahead.contains e.on) = true := h4
     have := Array.all_eq_true'.1 h4 e he
     rw [hb] at this
     simp only [Bool.not_true, Bool.false_or, Bool.or_eq_true, List.contains_iff_mem] at this
     exact this.imp id .inl
   | cons p pre =>
    injection e with e1 e2
    subst e1
    obtain ⟨o, q1, q2⟩ := i3 pre w post e2
    refine ⟨o, q1, fun e he hb => ?_⟩
    rcases q2 e he hb with h6 | h6 | ⟨q, hq, h6⟩
    ·exact .inl h6
    ·rcases List.mem_cons.1 h6 with h6 | h6
     ·exact .inr (.inr ⟨u, List.mem_cons_self .., h6.symm⟩)
     ·exact .inr (.inl h6)
    ·exact .inr (.inr ⟨q, List.mem_cons_of_mem _ hq, h6⟩)
/-- what is so amid the region -/
structure UInv (todo : List UO) (listed : Array Bool) (l : List (Nat × Value)) (H : Heap) (done : List Nat) (listed' : Array Bool) (l' : List (Nat × Value)) (D : Heap) : Prop where
 le : H.le D
 sz : listed'.size = listed.size
 ls : ∀ j, listed'[j]? = if j ∈ done then (listed[j]?).map (fun _ => true) else listed[j]?
 sub : ∀ j ∈ done, ∃ u ∈ todo, u.i = j
 ok : ∀ u ∈ todo, u.i ∈ done → ∃ v, lk l' u.d = some v ∧ u.Ψ v D
 fr : ∀ t, (∀ u ∈ todo, u.d ≠ t) → lk l' t = lk l t
def max4 (a b c e : Int) : Int := max (max (max a b) c) e
theorem OV.max4 {d : Nat} {ty : TypeId} {pos : String} {after : Array Edge} {g : Option (Nat × Bool)} {x y z u : Operand} {ats : Array TypeId} {k0 : IntKind} {a b c e : Int} (hx : opv l x = some (.int k0 a)) (hy : opv l y = some (.int k0 b)) (hz : opv l z = some (.int k0 c)) (hu : opv l u = some (.int k0 e)) :
 OV P C n l H ⟨some d, .call { callee := .builtin .max, args := #[x, y, z, u], argTypes := ats }, ty, pos, after, g⟩ (.int k0 (Sx.max4 a b c e)) := fun ac w hf hs => by
 have h : ∀ a b : Int, (if b > a then b else a) = max a b := fun a b => by rw [Int.max_def]; split <;> split <;> omega
 simp only [execOp, resolve, invoke, builtin, List.map_toArray, List.map_cons, List.map_nil, hf.ev hx, hf.ev hy, hf.ev hz, hf.ev hu]
 simp [Builtin.max_, Builtin.max2, Sx.max4, h]
theorem Qu0 {pre l' : List (Nat × Value)} : ∀ {t : Nat}, lk (pre ++ l') t = (match lk pre t with | some v => some v | none => lk l' t) := by
 intro t
 induction pre with
 | nil => rfl
 | cons p pre ih =>
  obtain ⟨d, v⟩ := p
  simp only [List.cons_append, lk]
  cases Nat.beq t d with
  | true => rfl
  | false => exact ih
theorem QtC {pre l' : List (Nat × Value)} (hs : Sub l' pre) {t : Nat} {v : Value} : lk (pre ++ l') t = some v ↔ lk l' t = some v := by
 rw [Qu0]
 cases h : lk pre t with
 | none => exact Iff.rfl
 | some x =>
  have := hs.lk t x h
  rw [this]
theorem GL.un_end {D D2 : Heap} {Ψ : Value → Heap → Prop} {v : Value} {d : Nat} {l0 : List (Nat × Value)} (hle : D.le D2) (h : Ψ v D2) :
 GL P C ops (Exit.then (fun a w => ∃ v D', Heap.le D D' ∧ Ψ v D' ∧ Fr n ((d, v) :: l0) a ∧ St C w D') Q) n [] ((d, v) :: l0) D2 := fun a w hf hs => ⟨v, D2, hle, h, hf, hs⟩
theorem GA.un (todo : List UO) (hok : unOk ops listed (todo.map fun u => (u.i, u.d)) = true) (hle : Hs.le H)
 (hop : ∀ u ∈ todo, ∃ o, ops[u.i]? = some o ∧ ∀ D l', H.le D → (∀ q ∈ todo, Region.waitsFor .any ops u.i q.i = true → ∃ v, lk l' q.d = some v ∧ q.Ψ v D) → (∀ t, (todo.all fun q => !(q.d == t)) = true → lk l' t = lk l t) →
  ∃ pre, Sub l' pre ∧ GL P C ops (Exit.then (fun a w => ∃ v D', D.le D' ∧ u.Ψ v D' ∧ Fr n ((u.d, v) :: (pre ++ l')) a ∧ St C w D') Q) n [o] (pre ++ l') D)
 (k : ∀ D l', H.le D → (∀ q ∈ todo, ∃ v, lk l' q.d = some v ∧ q.Ψ v D) → (∀ t, (todo.all fun q => !(q.d == t)) = true → lk l' t = lk l t) → GA P C ops Q n fuel (lsU listed (todo.map fun u => u.i)) l' D Hs) :
 GA P C ops Q n (fuel + todo.length) listed l H Hs := by
 unfold unOk at hok
 rw [Bool.and_eq_true, Bool.and_eq_true, decide_eq_true_iff] at hok
 obtain ⟨⟨hsz, hB⟩, hR⟩ := hok
 obtain ⟨b1, b2, b3⟩ := QsA todo [] hB
 have uniq : ∀ u ∈ todo, ∀ q ∈ todo, (u.i = q.i ∨ u.d = q.d) → u = q := by
  have : ∀ (L : List UO), L.Pairwise (fun u q => q.i ≠ u.i ∧ q.d ≠ u.d) → ∀ u ∈ L, ∀ q ∈ L, (u.i = q.i ∨ u.d = q.d) → u = q := by
   intro L
   induction L with
   | nil => intro _ u hu; cases hu
   | cons a L ih =>
    intro hp u hu q hq he
    have hp := List.pairwise_cons.1 hp
    rcases List.mem_cons.1 hu with h1 | h1 <;> rcases List.mem_cons.1 hq with h2 | h2
    ·rw [h1, h2]
    ·have := hp.1 q h2
     rw [h1] at he
     rcases he with he | he
     ·exact absurd he.symm this.1
     ·exact absurd he.symm this.2
    ·have := hp.1 u h1
     rw [h2] at he
     rcases he with he | he
     ·exact absurd he this.1
     ·exact absurd he this.2
    ·exact ih hp.2 u h1 q h2 he
  exact this todo b2
 have hfrB : ∀ t, (todo.all fun q => !(q.d == t)) = true → ∀ u ∈ todo, u.d ≠ t := fun t h u hu => by
  have := List.all_eq_true.1 h u hu
  simpa using this
 -- the step, by how many are left
 have key : ∀ (m : Nat) (done : List Nat) (listed' : Array Bool) (l' : List (Nat × Value)) (D : Heap), (todo.filter fun u => !done.contains u.i).length = m → UInv todo listed l H done listed' l' D →
  ∀ a w, Fr n l' a → St C w D → wpAnyH P .any ops Q (fun w => St C w Hs) (fuel + m) listed' a w := by
  intro m
  induction m with
  | zero =>
   intro done listed' l' D hc inv a w hf hst
   have hall : ∀ u ∈ todo, u.i ∈ done := fun u hu => Classical.byContradiction fun hn => by
    have : u ∈ todo.filter fun u => !done.contains u.i := List.mem_filter.2 ⟨hu, by simpa using hn⟩
    rw [List.length_eq_zero_iff.1 hc] at this; cases this
   have e : listed' = lsU listed (todo.map fun u => u.i) := by
    refine Array.ext_getElem? fun j => ?_
    rw [inv.ls, Qr1]
    have : j ∈ done ↔ j ∈ todo.map fun u => u.i := ⟨fun h => by
     obtain ⟨u, h1, h2⟩ := inv.sub j h
     exact List.mem_map.2 ⟨u, h1, h2⟩, fun h => by
     obtain ⟨u, h1, h2⟩ := List.mem_map.1 h
     exact h2 ▸ hall u h1⟩
    simp only [this]
   rw [e, Nat.add_zero]
   exact k D l' inv.le (fun q hq => inv.ok q hq (hall q hq)) (fun t ht => inv.fr t (hfrB t ht)) a w hf hst (hst.weaken (hle.trans inv.le))
  | succ m ih =>
   intro done listed' l' D hc inv a w hf hst
   have hgt : ∀ j, j ∉ done → listed'.getD j true = listed.getD j true ∧ listed'.getD j false = listed.getD j false := fun j hj => by
    have := inv.ls j
    rw [if_neg hj] at this
    simp only [Array.getD_eq_getD_getElem?, this]; simp
   have hgd : ∀ j, j ∈ done → listed'.getD j false = true := fun j hj => by
    have := inv.ls j
    rw [if_pos hj] at this
    obtain ⟨u, h1, h2⟩ := inv.sub j hj
    have hb := b1 u h1
    rw [h2] at hb
    have hlt : j < listed.size := by
     rcases Nat.lt_or_ge j listed.size with h | h
     ·exact h
     ·rw [Array.getD_eq_getD_getElem?, Array.getElem?_eq_none h] at hb; cases hb
    simp only [Array.getD_eq_getD_getElem?, this, Array.getElem?_eq_getElem hlt]; rfl
   -- the first that is left may come
   have hne : Region.ready .any ops listed' ≠ [] := fun h0 => by
    have hfirst : ∃ pre u post, todo = pre ++ u :: post ∧ u.i ∉ done ∧ ∀ q ∈ pre, q.i ∈ done := by
     have : ∀ L : List UO, (L.filter fun u => !done.contains u.i) ≠ [] → ∃ pre u post, L = pre ++ u :: post ∧ u.i ∉ done ∧ ∀ q ∈ pre, q.i ∈ done := by
      intro L
      induction L with
      | nil => intro h; exact absurd rfl h
      | cons x L ih =>
       intro h
       by_cases hx : x.i ∈ done
       ·rw [List.filter_cons_of_neg (by simpa using hx)] at h
        obtain ⟨pre, u, post, e, h1, h2⟩ := ih h
        refine ⟨x :: pre, u, post, by rw [e]; rfl, h1, fun q hq => ?_⟩
        rcases List.mem_cons.1 hq with rfl | hq
        ·exact hx
        ·exact h2 q hq
       ·exact ⟨[], x, L, rfl, hx, fun q hq => by cases hq⟩
     exact this todo fun h => by rw [h] at hc; cases hc
    obtain ⟨pre, u, post, e, h1, h2⟩ := hfirst
    obtain ⟨o, h3, h4⟩ := b3 pre u post e
    have hu : u ∈ todo := by rw [e]; simp
    have : u.i ∈ Region.ready .any ops listed' := mem_ready.2 ⟨by rw [(hgt _ h1).1]; exact b1 u hu, o, h3, fun e he hb => by
     rcases h4 e he hb with h5 | h5 | ⟨q, hq, h5⟩
     ·by_cases hd : e.on ∈ done
      ·exact hgd _ hd
      ·rw [(hgt _ hd).2]; exact h5
     ·cases h5
     ·rw [← h5]; exact hgd _ (h2 q hq)⟩
    rw [h0] at this; cases this
   rw [show fuel + (m + 1) = (fuel + m) + 1 by omega]
   refine wpAnyH_all rfl hne fun j hj => ?_
   obtain ⟨hun, oj, hoj, hall⟩ := mem_ready.1 hj
   have hjd : j ∉ done := fun h => by
    have := hgd j h
    rw [getD_both hun] at this; cases this
   have hjl : listed.getD j true = false := by rw [← (hgt j hjd).1]; exact hun
   -- it is one of the list
   have hju : ∃ u ∈ todo, u.i = j := by
    have hlt : j < ops.size := (Array.getElem?_eq_some_iff.1 hoj).1
    unfold unR at hR
    have := List.all_eq_true.1 hR j (List.mem_range.2 hlt)
    rw [hjl, Bool.false_or, Bool.or_eq_true] at this
    rcases this with h | h
    ·obtain ⟨p, hp, he⟩ := List.any_eq_true.1 h
     obtain ⟨u, hu, rfl⟩ := List.mem_map.1 hp
     exact ⟨u, hu, by simpa using he⟩
    ·exfalso
     have hex : ∃ u ∈ todo, u.i ∉ done := Classical.byContradiction fun hn => by
      have : (todo.filter fun u => !done.contains u.i) = [] := List.filter_eq_nil_iff.2 fun u hu => by
       have : u.i ∈ done := Classical.byContradiction fun h => hn ⟨u, hu, h⟩
       simpa using this
      rw [this] at hc; cases hc
     obtain ⟨u, hu, hud⟩ := hex
     have hw := List.all_eq_true.1 h (u.i, u.d) (List.mem_map.2 ⟨u, hu, rfl⟩)
     obtain ⟨o', ho', e, he, hb, hon⟩ := Region.waitsFor_spec hw
     have : o' = oj := Option.some.inj (ho'.symm.trans hoj)
     subst this
     have h5 := hall e he hb
     rw [hon, (hgt _ hud).2, getD_both (b1 u hu)] at h5; cases h5
   obtain ⟨u, hu, rfl⟩ := hju
   obtain ⟨o, ho, hstep⟩ := hop u hu
   have hdeps : ∀ q ∈ todo, Region.waitsFor .any ops u.i q.i = true → ∃ v, lk l' q.d = some v ∧ q.Ψ v D := fun q hq hw => by
    obtain ⟨o', ho', e, he, hb, hon⟩ := Region.waitsFor_spec hw
    have : o' = oj := Option.some.inj (ho'.symm.trans hoj)
    subst this
    have h5 := hall e he hb
    have hqd : q.i ∈ done := Classical.byContradiction fun h => by
     rw [hon, (hgt _ h).2, getD_both (b1 q hq)] at h5; cases h5
    exact inv.ok q hq hqd
   obtain ⟨pre, hsub, hstep⟩ := hstep D l' inv.le hdeps fun t ht => inv.fr t (hfrB t ht)
   refine wpOp_mono (fun a' w' hp => ?_) (QpH ho (hstep a w ⟨hf.size, hf.defers, fun t v h => hf.get t v ((QtC hsub).1 h)⟩ hst))
   obtain ⟨v, D', hDD, hΨ, hf'', hst'⟩ := hp
   have hf' : Fr n ((u.d, v) :: l') a' := ⟨hf''.size, hf''.defers, fun t x h => hf''.get t x (by
    simp only [lk] at h ⊢
    cases hb : Nat.beq t u.d with
    | true => rw [hb] at h; exact h
    | false => rw [hb] at h; exact (QtC hsub).2 h)⟩
   refine ⟨hst'.weaken (hle.trans (inv.le.trans hDD)), ih (u.i :: done) _ ((u.d, v) :: l') D' ?_ ⟨inv.le.trans hDD, by simp [inv.sz], fun j => ?_, fun j hj => ?_, fun q hq hqd => ?_, fun t ht => ?_⟩ a' w' hf' hst'⟩
   ·
    have hlen : ∀ L : List UO, (∀ q ∈ L, q ∈ todo) → L.Pairwise (fun u q => q.i ≠ u.i ∧ q.d ≠ u.d) → (u ∉ L → (L.filter fun q => !(u.i :: done).contains q.i).length = (L.filter fun q => !done.contains q.i).length) ∧ (u ∈ L → (L.filter fun q => !(u.i :: done).contains q.i).length + 1 = (L.filter fun q => !done.contains q.i).length) := by
     intro L
     induction L with
     | nil => exact fun _ _ => ⟨fun _ => rfl, fun h => by cases h⟩
     | cons x L ihL =>
      intro hs hp
      have hp := List.pairwise_cons.1 hp
      obtain ⟨ih1, ih2⟩ := ihL (fun q hq => hs q (List.mem_cons_of_mem _ hq)) hp.2
      by_cases hx : x = u
      ·have hnot : u ∉ L := fun h => (hp.1 u h).1 (by rw [hx])
       refine ⟨fun h => absurd (by rw [hx]; exact List.mem_cons_self ..) h, fun _ => ?_⟩
       rw [List.filter_cons_of_neg (by simp [hx]), List.filter_cons_of_pos (by rw [hx]; simpa using hjd), List.length_cons, ih1 hnot]
      ·have hxi : x.i ≠ u.i := fun h => hx (uniq x (hs x (List.mem_cons_self ..)) u hu (.inl h))
       by_cases hxd : x.i ∈ done
       ·rw [List.filter_cons_of_neg (by simp [hxd]), List.filter_cons_of_neg (by simpa using hxd)]
        exact ⟨fun h => ih1 fun h2 => h (List.mem_cons_of_mem _ h2), fun h => ih2 ((List.mem_cons.1 h).resolve_left fun h => hx h.symm)⟩
       ·rw [List.filter_cons_of_pos (by simp [hxd, hxi]), List.filter_cons_of_pos (by simpa using hxd), List.length_cons, List.length_cons]
        exact ⟨fun h => by rw [ih1 fun h2 => h (List.mem_cons_of_mem _ h2)], fun h => by rw [ih2 ((List.mem_cons.1 h).resolve_left fun h => hx h.symm)]⟩
    have := (hlen todo (fun q hq => hq) b2).2 hu
    omega
   ·by_cases hji : j = u.i
    ·subst hji
     rw [if_pos (List.mem_cons_self ..)]
     have hlt : u.i < listed.size := by rw [hsz]; exact (Array.getElem?_eq_some_iff.1 ho).1
     have hlt' : u.i < listed'.size := by rw [inv.sz]; exact hlt
     simp [hlt', Array.getElem?_eq_getElem hlt]
    ·rw [Array.getElem?_setIfInBounds_ne (Ne.symm hji), inv.ls]
     simp [hji]
   ·rcases List.mem_cons.1 hj with rfl | hj
    ·exact ⟨u, hu, rfl⟩
    ·exact inv.sub j hj
   ·by_cases hqu : q = u
    ·subst hqu
     exact ⟨v, by simp [lk], hΨ⟩
    ·have hqi : q.i ≠ u.i := fun h => hqu (uniq q hq u hu (.inl h))
     have hqd2 : q.i ∈ done := (List.mem_cons.1 hqd).resolve_left hqi
     obtain ⟨x, h1, h2⟩ := inv.ok q hq hqd2
     have hdd : q.d ≠ u.d := fun h => hqu (uniq q hq u hu (.inr h))
     refine ⟨x, ?_, q.m x D D' hDD h2⟩
     simp only [lk]
     rw [show Nat.beq q.d u.d = false from Bool.eq_false_iff.2 fun h => hdd (Nat.eq_of_beq_eq_true h)]
     exact h1
   ·have hne2 : t ≠ u.d := fun h => ht u hu h.symm
    simp only [lk]
    rw [show Nat.beq t u.d = false from Bool.eq_false_iff.2 fun h => hne2 (Nat.eq_of_beq_eq_true h)]
    exact inv.fr t ht
 intro a w hf hst hss
 have hc : (todo.filter fun u => !([] : List Nat).contains u.i).length = todo.length := by
  rw [List.filter_eq_self.2]; intro u _; rfl
 exact key todo.length [] listed l H hc ⟨Heap.le.refl _, rfl, fun j => (by simp), fun j hj => (by cases hj), fun u _ h => (by cases h), fun t _ => rfl⟩ a w hf hst
end
section
variable {κ α : Type} [DecidableEq κ] {ke : κ → Value} {enc : α → Value} {P : Program} {C : Ctx} {Q : Exit → Act → World → Prop} {n : FN} {l : List (Nat × Value)} {H : Heap} {ops : Array Oper} {rest : List Oper} {ty : TypeId} {pos : String} {after : Array Edge} {g : Option (Nat × Bool)}
theorem GL.boxB {T e : TypeId} {d : Nat} {x : Operand} {v : Value} {K : Nat → Heap → Prop} (h : nwB T e K H) (hw : Wt ops l g) (hd : Nat.blt d n.n = true) (hx : opv l x = some v) (hc : v.cells = #[.pointer none, .slice none 0 0])
 (k : ∀ b H', K b H' → GL P C ops Q n rest ((d, pv (some (b, 0))) :: l) H') : GL P C ops Q n (⟨some d, .box T x, ty, pos, after, g⟩ :: rest) l H := by
 refine GL.run (v := v) hw hd fun a w hf hs => ⟨pv (some (w.heap.size, 0)), _, _, ?_, hs.push (o := .cells #[.pointer none, .slice none 0 0] T) (g := .trow T 0 [pv none, slv Sl.nil]) (m := true) ⟨rfl, rfl, fun _ => .inl rfl⟩, k _ _ (h _ hs.fresh)⟩
 simp only [execOp, hf.ev hx, Instr.box]
 simp [newVar, Go.newRow, hc, pv, adv]
theorem GL.insertS {t kt et : TypeId} {X Y Z : Operand} {q : Option Nat} {k : κ} {x : α} {K : Heap → Prop} (h : upS ke enc q k x K H) (hw : Wt ops l g) (hx : opv l X = some (mv q)) (hy : opv l Y = some (ke k)) (hz : opv l Z = some (enc x)) (ht : P.underlying t = some (.map kt et)) (hk : KOk P kt ke)
 (kk : ∀ H', K H' → GL P C ops Q n rest l H') : GL P C ops Q n (⟨none, .insert t X Y Z, ty, pos, after, g⟩ :: rest) l H := by
 have h0 := GL.mapUpdateS (ty := ty) (pos := pos) (after := after) h hw hx hy hz ht hk kk
 intro a w hf hs
 exact h0 a w hf hs
/-- a pointer of no type, as one to a builder that lies first in whatever block -/
def cvT (P : Program) (u : TypeId) (len : Nat) (p : Nat × Nat) (K : Prop) (H : Heap) : Prop := (∃ T m k c, H p.1 = some (m, .trow T k c) ∧ c.length = len ∧ p.2 = 0 ∧ liesAt P P.depth T (len / P.cellsOf T) 0 u 1 = true) ∧ K
theorem OV.cvT {x : Operand} {src dst u : TypeId} {d : Nat} {len : Nat} {p : Nat × Nat} (h : ∃ T m k c, H p.1 = some (m, .trow T k c) ∧ c.length = len ∧ p.2 = 0 ∧ liesAt P P.depth T (len / P.cellsOf T) 0 u 1 = true) (hx : opv l x = some (pv (some p))) (hs : P.underlying src = some .unsafePointer) (hd : P.underlying dst = some (.pointer u)) (ht : ∃ j, P.info? u = some j) :
 OV P C n l H ⟨some d, .convert src dst x, ty, pos, after, g⟩ (pv (some p)) := by
 obtain ⟨T, m, k, c, h1, h2, h3, h4⟩ := h
 exact OV.cvP ⟨m, k, c, h1, h2, h3⟩ hx hs hd ht h4
end
end
section
open Go
end
section
open Go
end
section
open Go
/-- the cells of a datum of numbers, texts, truth values -/
def lcells {H : Type} : Nat → DataW H → List Value
 | 0, _ => []
 | n + 1, .lit (.int k x) => [.int k x]
 | n + 1, .lit (.bool b) => [.bool b]
 | n + 1, .lit (.string s) => [.string ⟨s.toArray⟩]
 | n + 1, .agg ds => ds.flatMap (lcells n)
 | n + 1, _ => []
/-- the settled world, in which these blocks hold these data -/
noncomputable def laidW (P : Program) (os : Os) (l : List (Nat × List Value)) : World :=
 { World.holding P os ⟨#[], #[], []⟩ with heap := l.foldl (fun h x => h.modify x.1 (fun o => match o with | .cells _ t frozen => .cells x.2.toArray t frozen | o => o)) (World.holding P os ⟨#[], #[], []⟩).heap }
theorem QkB {H : Type} {P : Program} {e : TypeId} : ∀ {l : List (DataW H)} {d : DataW H} {w : Nat}, d ∈ l → w ∈ d.weights P e → w ∈ DataW.weightsAll P e l
 | y :: l, d, w, h, hw => by
  simp only [DataW.weightsAll, List.mem_append]
  rcases List.mem_cons.1 h with rfl | h
  ·exact .inl hw
  ·exact .inr (QkB h hw)
theorem QgJ {H : Type} {P : Program} : ∀ {ts : List TypeId} {l : List (DataW H)} {i : Nat} {t : TypeId} {d : DataW H} {w : Nat}, ts[i]? = some t → l[i]? = some d → w ∈ d.weights P t → w ∈ DataW.weightsEach P ts l
 | [], l, i, t, d, w, h, _, _ => by simp at h
 | t' :: ts, [], i, t, d, w, _, h, _ => by simp at h
 | t' :: ts, y :: l, 0, t, d, w, h, h2, hw => by
  simp at h h2; subst h; subst h2
  simp only [DataW.weightsEach, List.mem_append]; exact .inl hw
 | t' :: ts, y :: l, i + 1, t, d, w, h, h2, hw => by
  simp only [DataW.weightsEach, List.mem_append]; exact .inr (QgJ (i := i) (by simpa using h) (by simpa using h2) hw)
section
variable {H : Type} {enc : TypeId × Value → H} {P : Program}
/-- what a value that came in, of sizes within reach, says of the memory there -/
def TrW (P : Program) (W : World) (n : Nat) (t : TypeId) (cs : List Value) : Prop :=
 ∃ (H : Type) (enc : TypeId × Value → H) (x : DataW H × List MemPlace), DataW.trod enc P W 0 (fun _ => true) true n t cs = some x ∧ ∀ w ∈ x.1.weights P t, w ≤ reachBytes
theorem TrW.of {W : World} {t : TypeId} {v : Value} {d : DataW H} {p : List MemPlace} (h : DataW.Trod enc P W 0 (fun _ => true) true t v d p) (hw : ∀ w ∈ d.weights P t, w ≤ reachBytes) : ∃ n, TrW P W n t v.cells.toList := by
 obtain ⟨n, hn⟩ := h
 exact ⟨n, H, enc, _, hn, hw⟩
theorem TrW.tr {W : World} {n : Nat} {t : TypeId} {cs : List Value} (h : TrW P W n t cs) : ∃ B, Tr P W B n t cs := by
 obtain ⟨H, enc, x, h, _⟩ := h
 exact ⟨_, H, enc, x, h, Nat.le_refl _⟩
theorem TrW.int {W : World} {n : Nat} {t : TypeId} {cs : List Value} {k : IntKind} (h : TrW P W n t cs) (ht : P.underlying t = some (.int k)) : ∃ x, cs = [.int k x] ∧ (Lit.int k x).wf = true := by
 obtain ⟨B, h⟩ := h.tr
 exact h.int ht
theorem TrW.bool {W : World} {n : Nat} {t : TypeId} {cs : List Value} (h : TrW P W n t cs) (ht : P.underlying t = some .bool) : ∃ x, cs = [.bool x] := by
 obtain ⟨B, h⟩ := h.tr
 exact h.bool ht
theorem TrW.str {W : World} {n : Nat} {t : TypeId} {cs : List Value} (h : TrW P W n t cs) (ht : P.underlying t = some .string) : ∃ s : Str, cs = [sv s] ∧ s.length ≤ maxLen ∧ s.length ≤ reachBytes := by
 obtain ⟨H, enc, x, h, hB⟩ := h
 obtain ⟨s, h1, hx, h2⟩ := DataW.trod_string ht h
 refine ⟨s.data.toList, ?_, by rw [Array.length_toList]; exact h2, ?_⟩
 ·rw [h1]; simp [sv]
 ·rw [hx] at hB; simp only [DataW.weights] at hB; simpa using hB _ (List.mem_singleton.2 rfl)
/-- a slice that came in: its elements' cells -/
theorem TrW.slice {W : World} {n : Nat} {t e : TypeId} {cs : List Value} {z : Nat} (h : TrW P W n t cs) (ht : P.underlying t = some (.slice e)) (hz : P.cellsOf e = z) (hz0 : 0 < z) :
 ∃ (s : Sl) (css : List (List Value)) (m : Nat), m < n ∧ cs = [slv s] ∧ s.len ≤ s.cap ∧ s.cap ≤ maxLen ∧ s.len * P.bytesOf e ≤ reachBytes ∧ css.length = s.len ∧ rdsl (heapOf W) s css.flatten ∧ ∀ c ∈ css, c.length = z ∧ TrW P W m e c := by
 obtain ⟨H, enc, x, h, hB⟩ := h
 rcases DataW.trod_slice ht h with ⟨h0, _⟩ | ⟨a, len, cap, elems, rest, m, rfl, hcs, hx, hb, hl, hm, hlen, hel, hsp, hns⟩
 ·have : 0 < n := by cases n with
   | zero => simp [DataW.trod] at h
   | succ n => omega
  exact ⟨Sl.nil, [], 0, this, h0, Nat.le_refl _, by simp [Sl.nil], by simp [Sl.nil], rfl, .inl rfl, fun c hc => by cases hc⟩
 ·subst hz
  rw [hx] at hB
  simp only [DataW.weights, ht, List.mem_cons, List.mem_append] at hB
  have hBl := hB _ (.inl rfl)
  rw [List.length_map, Nat.add_mul] at hBl
  have hall : ∀ i, i < len → ∃ c, W.cells? 0 (a.add (i * P.cellsOf e)) (P.cellsOf e) = some c ∧ TrW P W m e c := by
   intro i hi
   have h1 := hel i hi
   have h2 : i < elems.length := by omega
   rw [List.getElem?_eq_getElem h2] at h1
   rw [Option.bind_eq_some_iff] at h1
   obtain ⟨c, hc, ht⟩ := h1
   exact ⟨c, hc, H, enc, _, ht, fun w hw => hB w (.inr (.inl (QkB (List.mem_map_of_mem (f := (·.1)) (List.getElem_mem h2)) hw)))⟩
  obtain ⟨css, hcl, hcss⟩ := listOf hall
  obtain ⟨b, o, sp⟩ := a
  refine ⟨⟨some (b, o), len, cap, sp⟩, css, m, Nat.lt_succ_self _, by rw [hcs]; rfl, hl, hm, by dsimp only; rw [← hlen]; omega, hcl, ?_, fun c hc => ?_⟩
  ·rcases Nat.eq_zero_or_pos len with h0 | h0
   ·left
    have : css = [] := List.length_eq_zero_iff.1 (by omega)
    simp [this]
   ·obtain ⟨c0, hc0, _⟩ := hall 0 h0
    obtain ⟨_, hl0, hcell0⟩ := World.cells?_some hc0
    have hsp0 : sp = none := by
     have h1 := hcell0 0 hz0
     rw [List.getElem?_eq_getElem (by omega)] at h1
     have := QpU h1
     simpa [Addr.add] using this
    subst hsp0
    right
    refine ⟨rfl, (b, o), rfl, QqI (z := P.cellsOf e) (fun c hc => ?_) fun i c hc => ?_⟩
    ·obtain ⟨i, hi, rfl⟩ := List.getElem_of_mem hc
     obtain ⟨h1, _⟩ := hcss i _ (List.getElem?_eq_getElem hi)
     exact (World.cells?_some h1).2.1
    ·obtain ⟨h1, _⟩ := hcss i c hc
     obtain ⟨_, hcl1, hcell⟩ := World.cells?_some h1
     refine QlR fun j v hj => Qsl ?_
     have hjl : j < P.cellsOf e := by rw [← hcl1]; exact (List.getElem?_eq_some_iff.1 hj).1
     have h2 := hcell j hjl
     rw [hj] at h2
     rw [← h2]
     have e1 : (⟨b, o, none⟩ : Addr) = adv (b, o) := rfl
     rw [e1, Qhi, Qhi]
  ·obtain ⟨i, hi, rfl⟩ := List.getElem_of_mem hc
   obtain ⟨h1, h2⟩ := hcss i _ (List.getElem?_eq_getElem hi)
   exact ⟨(World.cells?_some h1).2.1, h2⟩
/-- a struct's fields -/
theorem TrW.struct {W : World} {n : Nat} {t : TypeId} {fs : Array Field} {cs : List Value} (h : TrW P W n t cs) (ht : P.underlying t = some (.struct fs)) :
 cs.length = P.cellsOf t ∧ ∃ m, n = m + 1 ∧ ∀ (i : Nat) (f : Field), fs[i]? = some f → TrW P W m f.type ((cs.drop f.offset).take (P.cellsOf f.type)) := by
 obtain ⟨H, enc, x, h, hB⟩ := h
 obtain ⟨xs, m, rfl, hx, hl, hxl, hf⟩ := DataW.trod_struct ht h
 refine ⟨hl, m, rfl, fun i f hi => ?_⟩
 have h1 := hf i f hi
 have h2 : i < fs.size := (Array.getElem?_eq_some_iff.1 hi).1
 rw [List.getElem?_eq_getElem (by omega)] at h1
 refine ⟨H, enc, _, h1, fun w hw => hB w ?_⟩
 rw [hx]
 simp only [DataW.weights, ht]
 exact QgJ (i := i) (by simp [hi]) (by rw [List.getElem?_map, List.getElem?_eq_getElem (by omega)]; rfl) hw
theorem wat {ts : List TypeId} {ds : List (DataW H)} (h : (DataW.weightsEach P ts ds).all (· ≤ reachBytes) = true) {i : Nat} {t : TypeId} {d : DataW H} (ht : ts[i]? = some t) (hd : ds[i]? = some d) : ∀ w ∈ d.weights P t, w ≤ reachBytes := fun w hw => by
 have := List.all_eq_true.1 h w (QgJ ht hd hw)
 simpa using this
end
end
end Sx
end
