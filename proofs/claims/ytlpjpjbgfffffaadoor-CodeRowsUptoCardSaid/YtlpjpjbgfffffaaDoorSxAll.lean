/-
  The rest of the shallow forms, and of the steps that the generated proofs name.
-/
import Derived.Test.YtlpjpjbgfffffaaDoorSxReg
set_option linter.unusedVariables false
namespace Sx
open Go

def nck (q : Option (Nat × Nat)) (K : Nat × Nat → Prop) : Prop := ∃ p, q = some p ∧ K p
def qc {α : Type} (A : α → Prop) (K : α → Prop) : Prop := ∃ r, A r ∧ K r
def catOk (a b : Str) : Prop := a.length + b.length < 9223372036854775807
def mkS (zc : List Value) (bytes : Nat) (len cap : Int) (K : Nat → Heap → Prop) (H : Heap) : Prop :=
  0 ≤ len ∧ len ≤ cap ∧ (bytes : Int) * cap ≤ 281474976710656 ∧ cap ≤ 9223372036854775807 ∧ ∀ b, H b = none → K b (H.put b (.row (zeros zc cap.toNat)))

section
variable {P : Program} {C : Ctx} {Q Q' : Exit → Act → World → Prop} {n : Nat} {l : List (Nat × Value)} {H : Heap} {ops : Array Oper} {rest tl : List Oper} {d : Nat} {ty : TypeId} {pos : String} {after : Array Edge} {g : Option (Nat × Bool)}

theorem GC.exit_to {id : Nat} {y : Code} (hq : ∀ a w, y.wp P Q' a w → Q (.exit id) a w) (k : GC P C Q' n y l H) : GC P C Q n (.exit id) l H := fun a w hf hs => wp_exit (hq a w (k a w hf hs))
theorem GC.exit_ends {id : Nat} (h : ∀ a w, Fr n l a → St C w H → Q (.exit id) a w) : GC P C Q n (.exit id) l H := fun a w hf hs => wp_exit (h a w hf hs)
theorem GC.skip_to {y : Code} (hq : ∀ a w, y.wp P Q' a w → Q .normal a w) (k : GC P C Q' n y l H) : GC P C Q n .skip l H := fun a w hf hs => wp_skip (hq a w (k a w hf hs))
theorem GL.nil_to {y : Code} (hq : ∀ a w, y.wp P Q' a w → Q .normal a w) (k : GC P C Q' n y l H) : GL P C ops Q n [] l H := fun a w hf hs => hq a w (k a w hf hs)

theorem GL.jump0 {α : Type} {J : α → Heap → Prop} {e : α → List (Nat × Value)} (hq : ∀ a w, Meet C n J e a w → Q .normal a w) (x : α) (hj : J x H) (hs : Sub l (e x)) : GL P C ops Q n [] l H := GL.jump hq x hj hs
theorem GQ.jump0 {α : Type} {J : α → Heap → Prop} {e : α → List (Nat × Value)} (hq : ∀ a w, Meet C n J e a w → Q .normal a w) (x : α) (hj : J x H) (hs : Sub l (e x)) : GQ P C ops Q n [] l H :=
  GQ.nil (GL.jump hq x hj hs)
theorem GS.jump0 {α : Type} {J : α → Heap → Prop} {e : α → List (Nat × Value)} (hq : ∀ a w, Meet C n J e a w → Q .normal a w) (x : α) (hj : J x H) (hs : Sub l (e x)) : GS P C ops Q n [] [] l H :=
  GS.nil (GL.jump hq x hj hs)

theorem wpQuiet_piece {Cl : World → Prop} {Qa : Act → Prop} : ∀ (x : List Oper) {y : List Oper} {a : Act}, wpQuiet P ops Cl (fun a' => wpQuiet P ops Cl Qa y a') x a → wpQuiet P ops Cl Qa (x ++ y) a
  | [], y, a, h => h
  | o :: x, y, a, h => by
    simp only [List.cons_append, wpQuiet] at h ⊢
    split
    · rename_i hw
      rw [if_pos hw] at h
      obtain ⟨v, h1, h2⟩ := h
      exact ⟨v, h1, wpQuiet_piece x h2⟩
    · rename_i hw
      rw [if_neg hw] at h
      exact wpQuiet_piece x h

theorem wpQuiet_mono {Cl : World → Prop} {Qa Qb : Act → Prop} (hq : ∀ a, Qa a → Qb a) : ∀ (x : List Oper) {a : Act}, wpQuiet P ops Cl Qa x a → wpQuiet P ops Cl Qb x a
  | [], a, h => hq a h
  | o :: x, a, h => by
    simp only [wpQuiet] at h ⊢
    split
    · rename_i hw
      rw [if_pos hw] at h
      obtain ⟨v, h1, h2⟩ := h
      exact ⟨v, h1, wpQuiet_mono hq x h2⟩
    · rename_i hw
      rw [if_neg hw] at h
      exact wpQuiet_mono hq x h

theorem GQ.cut (k : Nat) {r : List Oper} (e : Unit → List (Nat × Value)) (h1 : GQ P C ops (Exit.then (Meet C n (fun (_ : Unit) H2 => H2 = H) e) Q) n (r.take k) l H) (h2 : ∀ (v : Unit) H', H' = H → GQ P C ops Q n (r.drop k) (e v) H') :
    GQ P C ops Q n r l H := by
  intro a w hf hs
  have h3 := h1 a w hf hs
  have h4 : wpQuiet P ops (fun w => St C w H) (fun a' => wpQuiet P ops (fun w => St C w H) (fun a' => ∀ w', St C w' H → Q .normal a' w') (r.drop k) a') (r.take k) a :=
    wpQuiet_mono (fun a' h => by
      obtain ⟨x, H', rfl, hf', _⟩ := h w hs
      exact h2 () H' rfl a' w hf' hs) _ h3
  have := wpQuiet_piece _ h4
  rwa [List.take_append_drop] at this

theorem GQ.cut0 (k : Nat) {r : List Oper} (l' : List (Nat × Value)) (h1 : GQ P C ops (Exit.then (Meet C n (fun (_ : Unit) H2 => H2 = H) (fun _ => l')) Q) n (r.take k) l H) (h2 : GQ P C ops Q n (r.drop k) l' H) :
    GQ P C ops Q n r l H := GQ.cut k _ h1 fun _ _ e => by subst e; exact h2

theorem wpStill_piece {w : World} {Qa : Act → Prop} : ∀ (x : List Oper) {y : List Oper} {a : Act}, wpStill P ops w (fun a' => wpStill P ops w Qa y a') x a → wpStill P ops w Qa (x ++ y) a
  | [], y, a, h => h
  | o :: x, y, a, h => by
    simp only [List.cons_append, wpStill] at h ⊢
    split
    · rename_i hw
      rw [if_pos hw] at h
      exact Oper.still_mono (fun a' h' => wpStill_piece x h') h
    · rename_i hw
      rw [if_neg hw] at h
      exact wpStill_piece x h

theorem wpStill_mono {w : World} {Qa Qb : Act → Prop} (hq : ∀ a, Qa a → Qb a) : ∀ (x : List Oper) {a : Act}, wpStill P ops w Qa x a → wpStill P ops w Qb x a
  | [], a, h => hq a h
  | o :: x, a, h => by
    simp only [wpStill] at h ⊢
    split
    · rename_i hw
      rw [if_pos hw] at h
      exact Oper.still_mono (fun a' h' => wpStill_mono hq x h') h
    · rename_i hw
      rw [if_neg hw] at h
      exact wpStill_mono hq x h

theorem GS.cut (k : Nat) {r : List Oper} (e : Unit → List (Nat × Value)) (h1 : GS P C ops (Exit.then (Meet C n (fun (_ : Unit) H2 => H2 = H) e) Q) n [] (r.take k) l H) (h2 : ∀ (v : Unit) H', H' = H → GS P C ops Q n tl (r.drop k) (e v) H') :
    GS P C ops Q n tl r l H := by
  intro a w hf hs
  have h3 := h1 a w hf hs
  have h4 : wpStill P ops w (fun a' => wpStill P ops w (fun a' => wpList P ops Q tl a' w) (r.drop k) a') (r.take k) a :=
    wpStill_mono (fun a' h => by
      obtain ⟨x, H', rfl, hf', _⟩ := h
      exact h2 () H' rfl a' w hf' hs) _ h3
  have := wpStill_piece _ h4
  rwa [List.take_append_drop] at this

theorem OV.convStr {s dt : TypeId} {x : Operand} {s' : Str} (hx : opv l x = some (sv s')) (hs : (P.underlying s) = some .string) (ht : P.underlying dt = some .string) :
    OV P C n l H ⟨some d, .convert s dt x, ty, pos, after, g⟩ (sv s') := fun ac w hf hst => by
  simp only [execOp, hf.ev hx, convert, bind_pure_comp, Sem.run_map, Sem.run_bind, underlying, run_program, Result.andThen_ok, hs, ht, Sem.run_pure, sv]

theorem OV.maxI {x y : Operand} {ats : Array TypeId} {k0 : IntKind} {a b : Int} (hx : opv l x = some (.int k0 a)) (hy : opv l y = some (.int k0 b)) :
    OV P C n l H ⟨some d, .call { callee := .builtin .max, args := #[x, y], argTypes := ats }, ty, pos, after, g⟩ (.int k0 (if b > a then b else a)) := fun ac w hf hs => by
  simp only [execOp, resolve, invoke, builtin, List.map_toArray, List.map_cons, List.map_nil, hf.ev hx, hf.ev hy]
  simp [Builtin.max_, Builtin.max2]
theorem OV.minI {x y : Operand} {ats : Array TypeId} {k0 : IntKind} {a b : Int} (hx : opv l x = some (.int k0 a)) (hy : opv l y = some (.int k0 b)) :
    OV P C n l H ⟨some d, .call { callee := .builtin .min, args := #[x, y], argTypes := ats }, ty, pos, after, g⟩ (.int k0 (if b < a then b else a)) := fun ac w hf hs => by
  simp only [execOp, resolve, invoke, builtin, List.map_toArray, List.map_cons, List.map_nil, hf.ev hx, hf.ev hy]
  simp [Builtin.min_, Builtin.min2]

theorem madeCells_eq (zc : List Value) (k : Nat) : madeCells zc.toArray (k * zc.length) = (zeros zc k).toArray := by
  rw [← zeroCells_eq]
  simp [madeCells, Builtin.zeroCells]

theorem GL.makeSlice {t : TypeId} {x y : Operand} {kl kc : IntKind} {a b : Int} {zc : List Value} {bytes : Nat} {K : Nat → Heap → Prop} (h : mkS zc bytes a b K H) (hw : Wt ops l g) (hd : Nat.blt d n = true)
    (hx : opv l x = some (.int kl a)) (hy : opv l y = some (.int kc b)) (he : Elem P t zc bytes)
    (k : ∀ b' H', K b' H' → GL P C ops Q n rest ((d, slv (Sl.of (some (b', 0)) a.toNat b.toNat)) :: l) H') : GL P C ops Q n (⟨some d, .makeSlice t x y, ty, pos, after, g⟩ :: rest) l H := by
  obtain ⟨e, i, z, hu, hi, hsz, hby, hz, hzc⟩ := he.ok
  obtain ⟨h0, h1, h2, h3, hk⟩ := h
  refine GL.run (v := undef) hw hd fun ac w hf hst => ?_
  have hr := run_make (P := P) w t e i z hu hi hz kl kc a b h0 h1 (by rw [hby]; exact h2) h3
  refine ⟨slv (Sl.of (some (w.heap.size, 0)) a.toNat b.toNat), w.alloc (.cells (madeCells z.cells (b.toNat * i.size)) e), _, ?_, ?_, k _ _ (hk w.heap.size hst.fresh)⟩
  · simp only [execOp, hf.ev hx, hf.ev hy]
    simp [hr, slv, Sl.ad]
  · rw [hzc, hsz, madeCells_eq]
    exact hst.push ⟨rfl, fun _ => .inl rfl⟩
end
end Sx
