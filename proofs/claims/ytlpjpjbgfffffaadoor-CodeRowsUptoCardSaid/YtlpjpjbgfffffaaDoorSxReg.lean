/-
  Regions whose order is drawn; pieces of a list of operations; narrower frames.
-/
import Derived.Test.YtlpjpjbgfffffaaDoorSxApp
set_option linter.unusedVariables false
namespace Sx
open Go

section
variable {P : Program} {C : Ctx} {Q : Exit → Act → World → Prop} {n : Nat} {l : List (Nat × Value)} {H : Heap} {ops : Array Oper} {rest tl : List Oper} {d : Nat} {ty : TypeId} {pos : String} {after : Array Edge} {g : Option (Nat × Bool)}

theorem GC.sub {c : Code} (l' : List (Nat × Value)) (hs : Sub l l') (k : GC P C Q n c l' H) : GC P C Q n c l H := fun a w hf hw => k a w (hf.sub hs) hw
theorem GL.sub (l' : List (Nat × Value)) (hs : Sub l l') (k : GL P C ops Q n rest l' H) : GL P C ops Q n rest l H := fun a w hf hw => k a w (hf.sub hs) hw
theorem GC.weaken {c : Code} {H' : Heap} (hle : H.le H') (k : GC P C Q n c l H) : GC P C Q n c l H' := fun a w hf hs => k a w hf (hs.weaken hle)

/-- a piece of the list, then the rest -/
theorem wpList_piece {K : Act → World → Prop} : ∀ (x : List Oper) {y : List Oper} {a : Act} {w : World}, wpList P ops (Exit.then K Q) x a w → (∀ a w, K a w → wpList P ops Q y a w) → wpList P ops Q (x ++ y) a w
  | [], y, a, w, h, hk => hk a w h
  | o :: x, y, a, w, h, hk => by
    simp only [List.cons_append, wpList] at h ⊢
    split
    · rename_i hw
      rw [if_pos hw] at h
      rcases h with h | ⟨h1, a0, w0, h2⟩
      · refine .inl ?_
        have hm : ∀ a w, wpList P ops (Exit.then K Q) x a w → wpList P ops Q (x ++ y) a w := fun a w h => wpList_piece x h hk
        unfold Oper.wp at h ⊢
        generalize (execOp a.eval o).run P w = r at *
        cases r with
        | ok nx w' =>
          cases nx <;> simp only [Oper.upon] at h ⊢ <;>
            first
              | exact hm _ _ h
              | exact Calls.mono h (fun e w'' he => by
                  cases e with
                  | returned v => exact hm _ _ he
                  | panicked c => exact he
                  | outgrown => obtain ⟨a0, w0, h3⟩ := he; exact ⟨a0, w0, h3⟩)
              | exact Rows.mono h (fun _ _ he => hm _ _ he)
        | halt hh w' => cases hh <;> simp only [Oper.upon] at h ⊢ <;> exact h
      · exact .inr ⟨h1, a0, w0, h2⟩
    · rename_i hw
      rw [if_neg hw] at h
      exact wpList_piece x h hk

theorem GL.split {α : Type} (x : List Oper) {y : List Oper} (J : α → Heap → Prop) (e : α → List (Nat × Value)) (h1 : GL P C ops (Exit.then (Meet C n J e) Q) n x l H) (h2 : ∀ v H', J v H' → GL P C ops Q n y (e v) H') :
    GL P C ops Q n (x ++ y) l H :=
  fun a w hf hs => wpList_piece x (h1 a w hf hs) fun a' w' ⟨v, H', hj, hf', hs'⟩ => h2 v H' hj a' w' hf' hs'

/-- the first k of a list -/
theorem GL.cut {α : Type} (k : Nat) {r : List Oper} (J : α → Heap → Prop) (e : α → List (Nat × Value)) (h1 : GL P C ops (Exit.then (Meet C n J e) Q) n (r.take k) l H) (h2 : ∀ v H', J v H' → GL P C ops Q n (r.drop k) (e v) H') :
    GL P C ops Q n r l H := by
  have := GL.split (r.take k) J e h1 h2
  rwa [List.take_append_drop] at this

theorem GL.cut0 (k : Nat) {r : List Oper} (l' : List (Nat × Value)) (h1 : GL P C ops (Exit.then (Meet C n (fun (_ : Unit) H2 => H2 = H) (fun _ => l')) Q) n (r.take k) l H) (h2 : GL P C ops Q n (r.drop k) l' H) :
    GL P C ops Q n r l H := GL.cut k _ _ h1 fun _ _ e => by subst e; exact h2

/-- ways meet behind a piece of code -/
theorem GC.meet {α : Type} {c : Code} (J : α → Heap → Prop) (e : α → List (Nat × Value)) (h1 : GC P C (Exit.then (Meet C n J e) Q) n c l H) (h2 : ∀ x H', J x H' → GL P C #[] Q n [] (e x) H') : GC P C Q n c l H :=
  fun a w hf hs => wp_mono (h1 a w hf hs) fun ex a' w' hq => by
    cases ex with
    | normal => obtain ⟨x, H', hj, hf', hs'⟩ := hq; exact h2 x H' hj a' w' hf' hs'
    | _ => exact hq

/-! a region that asks in which order, and only looks -/
def GQ (P : Program) (C : Ctx) (ops : Array Oper) (Q : Exit → Act → World → Prop) (n : Nat) (rest : List Oper) (l : List (Nat × Value)) (H : Heap) : Prop :=
  ∀ a w, Fr n l a → St C w H → wpQuiet P ops (fun w => St C w H) (fun a' => ∀ w', St C w' H → Q .normal a' w') rest a

theorem GC.draw {id : Nat} {ops : List Oper} (hm : P.follows .mixedOrders = true) (hB : Region.lexB .any ops.toArray = true) (k : GQ P C ops.toArray Q n ops l H) : GC P C Q n (.region id ops.toArray true) l H :=
  fun a w hf hs => wp_region_quiet (C := fun w => St C w H) hm hB hs.drew (by simpa using k a w hf hs)

theorem GQ.val {op : Op} {v : Value} (hw : Wt ops l g) (hd : Nat.blt d n = true) (hr : OV P C n l H ⟨some d, op, ty, pos, after, g⟩ v) (k : GQ P C ops Q n rest ((d, v) :: l) H) :
    GQ P C ops Q n (⟨some d, op, ty, pos, after, g⟩ :: rest) l H := by
  intro a w0 hf hs0
  have hx := hw.wanted (o := ⟨some d, op, ty, pos, after, g⟩) rfl hf
  simp only [wpQuiet, hx, if_true]
  refine ⟨v, fun w hs => ?_, k _ w0 (hf.put hd) hs0⟩
  unfold Oper.quietAt
  rw [hr a w hf hs]
  exact ⟨rfl, rfl⟩

theorem GQ.skip {op : Op} (hw : Wn ops l g) (hd : Nat.blt d n = true) (k : GQ P C ops Q n rest ((d, undef) :: l) H) : GQ P C ops Q n (⟨some d, op, ty, pos, after, g⟩ :: rest) l H := by
  intro a w0 hf hs0
  have hx := hw.wanted (o := ⟨some d, op, ty, pos, after, g⟩) rfl hf
  simp only [wpQuiet, hx]
  exact k _ w0 (hf.put hd) hs0

theorem GQ.nil (k : GL P C ops Q n [] l H) : GQ P C ops Q n [] l H := fun a _ hf _ w hs => k a w hf hs

theorem GQ.sub (l' : List (Nat × Value)) (hs : Sub l l') (k : GQ P C ops Q n rest l' H) : GQ P C ops Q n rest l H := fun a w hf hw => k a w (hf.sub hs) hw

/-- a call that only looks: its value is given -/
theorem GQ.callWp {o : Oper} {f : FuncId} {vs : List Value} {v : Value} (hc : Spec P C f vs H (fun u H' => u = v ∧ H.le H')) (hdo : o.dst = some d) (hw : Wt ops l g) (hg : o.guard = g) (hd : Nat.blt d n = true)
    (hrun : ∀ a w, Fr n l a → (execOp a.eval o).run P w = .ok (.enter f vs.toArray) w) (k : GQ P C ops Q n rest ((d, v) :: l) H) : GQ P C ops Q n (o :: rest) l H := by
  intro a w0 hf hs0
  have hx := hw.wanted (o := o) hg hf
  simp only [wpQuiet, hx, if_true]
  refine ⟨v, fun w hs => ?_, by rw [hdo]; exact k _ w0 (hf.put hd) hs0⟩
  unfold Oper.quietAt
  rw [hrun a w hf]
  refine ⟨rfl, (hc w hs).mono fun e w' he => ?_⟩
  obtain ⟨u, H', rfl, h2, rfl, hle⟩ := he
  exact ⟨rfl, h2.weaken hle⟩

theorem GQ.call {f : FuncId} {xs : Array Operand} {ats : Array TypeId} {vs : List Value} {v : Value} (hc : Spec P C f vs H (fun u H' => u = v ∧ H.le H')) (hw : Wt ops l g) (hd : Nat.blt d n = true) (hok : CallOk P f) (hx : opvs l xs.toList = some vs)
    (k : GQ P C ops Q n rest ((d, v) :: l) H) : GQ P C ops Q n (⟨some d, .call { callee := .value (.func f), args := xs, argTypes := ats }, ty, pos, after, g⟩ :: rest) l H :=
  GQ.callWp hc rfl hw rfl hd (fun a w hf => by
    have h1 : xs.map a.eval = vs.toArray := by apply Array.ext'; simp [hf.evs hx]
    simp [execOp, resolve, invoke, Deferred.ofValue, Act.eval, h1, run_callFunc hok]) k

/-! a region that asks in which order, and looks, and ends in a tail that is forced -/
def GS (P : Program) (C : Ctx) (ops : Array Oper) (Q : Exit → Act → World → Prop) (n : Nat) (tl rest : List Oper) (l : List (Nat × Value)) (H : Heap) : Prop :=
  ∀ a w, Fr n l a → St C w H → wpStill P ops w (fun a' => wpList P ops Q tl a' w) rest a

theorem GC.drawTail {id : Nat} {ops : List Oper} (m : Nat) (hm : P.follows .mixedOrders = true) (hB : Region.lexTailB .any ops.toArray m = true) (k : GS P C ops.toArray Q n (ops.drop m) (ops.take m) l H) :
    GC P C Q n (.region id ops.toArray true) l H :=
  fun a w hf hs => wp_region_still_tail m hm hB (k a _ hf hs.drew)

theorem GS.val {op : Op} {v : Value} (hw : Wt ops l g) (hd : Nat.blt d n = true) (hr : OV P C n l H ⟨some d, op, ty, pos, after, g⟩ v) (k : GS P C ops Q n tl rest ((d, v) :: l) H) :
    GS P C ops Q n tl (⟨some d, op, ty, pos, after, g⟩ :: rest) l H := by
  intro a w hf hs
  have hx := hw.wanted (o := ⟨some d, op, ty, pos, after, g⟩) rfl hf
  simp only [wpStill, hx, if_true]
  unfold Oper.still
  rw [hr a w hf hs]
  exact ⟨rfl, k _ w (hf.put hd) hs⟩

theorem GS.skip {op : Op} (hw : Wn ops l g) (hd : Nat.blt d n = true) (k : GS P C ops Q n tl rest ((d, undef) :: l) H) : GS P C ops Q n tl (⟨some d, op, ty, pos, after, g⟩ :: rest) l H := by
  intro a w hf hs
  have hx := hw.wanted (o := ⟨some d, op, ty, pos, after, g⟩) rfl hf
  simp only [wpStill, hx]
  exact k _ w (hf.put hd) hs

theorem GS.nil (k : GL P C ops Q n tl l H) : GS P C ops Q n tl [] l H := fun a w hf hs => k a w hf hs
end
end Sx
