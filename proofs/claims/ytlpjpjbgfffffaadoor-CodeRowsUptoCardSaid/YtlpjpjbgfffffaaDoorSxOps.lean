/-
  The operations of a function over the ghost heap, one law a kind; the shallow forms of those that ask something.
-/
import Derived.Test.YtlpjpjbgfffffaaDoorSxBase
import Derived.WalkKit
set_option linter.unusedVariables false
namespace Sx
open Go

abbrev Str := List UInt8
def sv (s : Str) : Value := .string ⟨s.toArray⟩
structure Sl where
  p : Option (Nat × Nat)
  len : Nat
  cap : Nat
  x : Option Nat
abbrev Sl.of (p : Option (Nat × Nat)) (len cap : Nat) : Sl := ⟨p, len, cap, none⟩
def adv (p : Nat × Nat) : Addr := ⟨p.1, p.2, none⟩
def pv (p : Option (Nat × Nat)) : Value := .pointer (p.map adv)
def Sl.ad (s : Sl) : Option Addr := s.p.map fun p => ⟨p.1, p.2, s.x⟩
def slv (s : Sl) : Value := .slice s.ad s.len s.cap
def mv (m : Option Nat) : Value := .map m
def Sl.nil : Sl := ⟨none, 0, 0, none⟩

def rd (H : Heap) (p : Nat × Nat) : Option Value :=
  match H p.1 with
  | some (_, g) => match g.cells? with
    | some c => c[p.2]?
    | none => none
  | none => none

def rds (H : Heap) (p : Nat × Nat) : List Value → Prop
  | [] => True
  | v :: r => rd H p = some v ∧ rds H (p.1, p.2 + 1) r

theorem St.cell {C : Ctx} {w : World} {H : Heap} (h : St C w H) {p : Nat × Nat} {v : Value} (hr : rd H p = some v) : w.cell? (adv p) = some v := by
  unfold rd at hr
  split at hr
  · rename_i m g hb
    obtain ⟨o, ho, hrel⟩ := h.blk _ _ _ hb
    split at hr
    · rename_i c hc
      cases g <;> simp only [GO.cells?, Option.some.injEq, reduceCtorEq] at hc <;> subst hc <;> cases o <;> simp only [GO.rel] at hrel <;> simp [World.cell?, adv, ho, hrel.1, hr]
    · cases hr
  · cases hr

theorem adv_add (p : Nat × Nat) (k : Nat) : (adv p).add k = adv (p.1, p.2 + k) := by
  unfold Addr.add adv
  by_cases h : k = 0
  · simp [h]
  · simp [h]

section
variable {P : Program} {C : Ctx} {Q : Exit → Act → World → Prop} {n : Nat} {l : List (Nat × Value)} {H : Heap} {ops : Array Oper} {rest : List Oper} {d : Nat} {ty : TypeId} {pos : String} {after : Array Edge}

/-- the guard says yes -/
def Wt (ops : Array Oper) (l : List (Nat × Value)) : Option (Nat × Bool) → Prop
  | none => True
  | some (j, want) => ∃ d b, (ops[j]?).bind (·.dst) = some d ∧ lk l d = some (.bool b) ∧ b = want
/-- the guard says no -/
def Wn (ops : Array Oper) (l : List (Nat × Value)) : Option (Nat × Bool) → Prop
  | none => False
  | some (j, want) => ∃ d, (ops[j]?).bind (·.dst) = some d ∧ ((∃ b, lk l d = some (.bool b) ∧ b = !want) ∨ lk l d = some undef)

theorem Wt.wanted {g} (h : Wt ops l g) {o : Oper} (ho : o.guard = g) {a : Act} (hf : Fr n l a) : Region.wanted o (yielded ops a.tmps) = true := by
  cases g with
  | none => simp [Region.wanted, ho]
  | some x =>
    obtain ⟨j, want⟩ := x
    obtain ⟨d, b, h1, h2, h3⟩ := h
    have := hf.get d _ h2
    simp [Region.wanted, ho, yielded, h1, this, h3]

theorem Wn.wanted {g} (h : Wn ops l g) {o : Oper} (ho : o.guard = g) {a : Act} (hf : Fr n l a) : Region.wanted o (yielded ops a.tmps) = false := by
  cases g with
  | none => exact h.elim
  | some x =>
    obtain ⟨j, want⟩ := x
    obtain ⟨d, h1, ⟨b, h2, h3⟩ | h2⟩ := h
    · have := hf.get d _ h2
      simp [Region.wanted, ho, yielded, h1, this, h3]
    · have := hf.get d _ h2
      simp [Region.wanted, ho, yielded, h1, this, undef]

variable {g : Option (Nat × Bool)}

theorem GL.skip {op : Op} (hw : Wn ops l g) (hd : Nat.blt d n = true) (k : GL P C ops Q n rest ((d, undef) :: l) H) : GL P C ops Q n (⟨some d, op, ty, pos, after, g⟩ :: rest) l H := by
  intro a w hf hs
  have hx := hw.wanted (o := ⟨some d, op, ty, pos, after, g⟩) rfl hf
  simp only [wpList, hx]
  exact k _ w (hf.put hd) hs

theorem GL.skip0 {op : Op} (hw : Wn ops l g) (k : GL P C ops Q n rest l H) : GL P C ops Q n (⟨none, op, ty, pos, after, g⟩ :: rest) l H := by
  intro a w hf hs
  have hx := hw.wanted (o := ⟨none, op, ty, pos, after, g⟩) rfl hf
  simp only [wpList, hx]
  exact k _ w hf hs

/-- an operation that yields a value and a world -/
theorem GL.run {op : Op} {v : Value} (hw : Wt ops l g) (hd : Nat.blt d n = true)
    (hr : ∀ a w, Fr n l a → St C w H → ∃ v w' H', (execOp a.eval ⟨some d, op, ty, pos, after, g⟩).run P w = .ok (.value v) w' ∧ St C w' H' ∧ GL P C ops Q n rest ((d, v) :: l) H') :
    GL P C ops Q n (⟨some d, op, ty, pos, after, g⟩ :: rest) l H := by
  intro a w hf hs
  have hx := hw.wanted (o := ⟨some d, op, ty, pos, after, g⟩) rfl hf
  obtain ⟨v, w', H', h1, h2, h3⟩ := hr a w hf hs
  simp only [wpList, hx, if_true]
  refine .inl ?_
  unfold Oper.wp
  rw [h1]
  exact h3 _ _ (hf.put hd) h2

/-- an operation that yields a value and leaves the world -/
def OV (P : Program) (C : Ctx) (n : Nat) (l : List (Nat × Value)) (H : Heap) (o : Oper) (v : Value) : Prop :=
  ∀ a w, Fr n l a → St C w H → (execOp a.eval o).run P w = .ok (.value v) w

theorem GL.val {op : Op} {v : Value} (hw : Wt ops l g) (hd : Nat.blt d n = true) (hr : OV P C n l H ⟨some d, op, ty, pos, after, g⟩ v) (k : GL P C ops Q n rest ((d, v) :: l) H) :
    GL P C ops Q n (⟨some d, op, ty, pos, after, g⟩ :: rest) l H := by
  intro a w hf hs
  have hx := hw.wanted (o := ⟨some d, op, ty, pos, after, g⟩) rfl hf
  simp only [wpList, hx, if_true]
  refine .inl ?_
  unfold Oper.wp
  rw [hr a w hf hs]
  exact k _ _ (hf.put hd) hs

theorem OV.move {x : Operand} {v : Value} (hx : opv l x = some v) : OV P C n l H ⟨some d, .move x, ty, pos, after, g⟩ v :=
  (fun a w hf hs => by simp [execOp, hf.ev hx])

theorem OV.assign {x : Operand} {v : Value} (hx : opv l x = some v) : OV P C n l H ⟨some d, .assign x, ty, pos, after, g⟩ v :=
  (fun a w hf hs => by simp [execOp, hf.ev hx])

theorem OV.pickT {c x y : Operand} {b : Bool} {v : Value} (hc : opv l c = some (.bool b)) (hb : b = true) (hx : opv l x = some v) : OV P C n l H ⟨some d, .pick c x y, ty, pos, after, g⟩ (v) :=
  (fun a w hf hs => by subst hb; simp [execOp, hf.ev hc, hf.ev hx, asBool])

theorem OV.pickF {c x y : Operand} {b : Bool} {v : Value} (hc : opv l c = some (.bool b)) (hb : b = false) (hx : opv l y = some v) : OV P C n l H ⟨some d, .pick c x y, ty, pos, after, g⟩ (v) :=
  (fun a w hf hs => by subst hb; simp [execOp, hf.ev hc, hf.ev hx, asBool])

theorem OV.pickB {c x y : Operand} {b p q : Bool} (hc : opv l c = some (.bool b)) (hx : opv l x = some (.bool p)) (hy : opv l y = some (.bool q)) : OV P C n l H ⟨some d, .pick c x y, ty, pos, after, g⟩ (.bool (cond b p q)) :=
  (fun a w hf hs => by cases b <;> simp [execOp, hf.ev hc, hf.ev hx, hf.ev hy, asBool])

/-! integers -/
def w (k : IntKind) (x : Int) : Int := k.wrap x
def bAnd (k : IntKind) (x y : Int) : Int := k.wrap ((BitVec.ofInt k.bits x &&& BitVec.ofInt k.bits y).toNat)
def bOr (k : IntKind) (x y : Int) : Int := k.wrap ((BitVec.ofInt k.bits x ||| BitVec.ofInt k.bits y).toNat)
def bXor (k : IntKind) (x y : Int) : Int := k.wrap ((BitVec.ofInt k.bits x ^^^ BitVec.ofInt k.bits y).toNat)
def bAndNot (k : IntKind) (x y : Int) : Int := k.wrap ((BitVec.ofInt k.bits x &&& ~~~ BitVec.ofInt k.bits y).toNat)
def sShl (k : IntKind) (x y : Int) : Int := k.wrap (x * 2 ^ (min y.toNat k.bits))
def sShr (k : IntKind) (x y : Int) : Int := x.fdiv (2 ^ (min y.toNat k.bits))

def ibin (op : BinOp) (k : IntKind) (x y : Int) : Option Value :=
  match op with
  | .add => some (.int k (w k (x + y)))
  | .sub => some (.int k (w k (x - y)))
  | .mul => some (.int k (w k (x * y)))
  | .and => some (.int k (bAnd k x y))
  | .or => some (.int k (bOr k x y))
  | .xor => some (.int k (bXor k x y))
  | .andNot => some (.int k (bAndNot k x y))
  | .eql => some (.bool (x == y))
  | .neq => some (.bool (x != y))
  | .lss => some (.bool (decide (x < y)))
  | .leq => some (.bool (decide (x ≤ y)))
  | .gtr => some (.bool (decide (x > y)))
  | .geq => some (.bool (decide (x ≥ y)))
  | _ => none

theorem run_eqGuard_int (P : Program) (op : BinOp) (t : TypeId) (x y : Operand) (k k' : IntKind) (a b : Int) (w : World) : (eqGuard op t x y (.int k a) (.int k' b)).run P w = .ok () w := by
  unfold eqGuard; cases op <;> rfl

theorem OV.ibin {op : BinOp} {t yt : TypeId} {x y : Operand} {k0 : IntKind} {a b : Int} {v : Value} (hx : opv l x = some (.int k0 a)) (hy : opv l y = some (.int k0 b))
    (hv : Sx.ibin op k0 a b = some v) : OV P C n l H ⟨some d, .binOp op t x y yt, ty, pos, after, g⟩ (v) :=
  (fun ac w hf hs => by
    simp only [execOp, hf.ev hx, hf.ev hy]
    simp only [bind_pure_comp, Sem.run_map, Sem.run_bind, run_eqGuard_int, Result.andThen_ok]
    cases op <;> simp only [Sx.ibin, Option.some.injEq, reduceCtorEq] at hv <;> subst hv <;> simp [Go.binOp, Op.intArith, Op.intBits, Op.intCmp, Sx.w, bAnd, bOr, bXor, bAndNot])

theorem OV.shl {t yt : TypeId} {x y : Operand} {k0 k1 : IntKind} {a b : Int} (hx : opv l x = some (.int k0 a)) (hy : opv l y = some (.int k1 b)) (hb : 0 ≤ b) : OV P C n l H ⟨some d, .binOp .shl t x y yt, ty, pos, after, g⟩ (.int k0 (sShl k0 a b)) :=
  (fun ac w hf hs => by
    have : ¬ b < 0 := by omega
    simp only [execOp, hf.ev hx, hf.ev hy, bind_pure_comp, Sem.run_map, Sem.run_bind, run_eqGuard_int, Result.andThen_ok]
    simp [Go.binOp, Op.shift, this, sShl])

theorem OV.shr {t yt : TypeId} {x y : Operand} {k0 k1 : IntKind} {a b : Int} (hx : opv l x = some (.int k0 a)) (hy : opv l y = some (.int k1 b)) (hb : 0 ≤ b) : OV P C n l H ⟨some d, .binOp .shr t x y yt, ty, pos, after, g⟩ (.int k0 (sShr k0 a b)) :=
  (fun ac w hf hs => by
    have : ¬ b < 0 := by omega
    simp only [execOp, hf.ev hx, hf.ev hy, bind_pure_comp, Sem.run_map, Sem.run_bind, run_eqGuard_int, Result.andThen_ok]
    simp [Go.binOp, Op.shift, this, sShr])

theorem OV.quo {t yt : TypeId} {x y : Operand} {k0 : IntKind} {a b : Int} (hx : opv l x = some (.int k0 a)) (hy : opv l y = some (.int k0 b)) (hb : b ≠ 0) : OV P C n l H ⟨some d, .binOp .quo t x y yt, ty, pos, after, g⟩ (.int k0 (Sx.w k0 (a.tdiv b))) :=
  (fun ac w hf hs => by
    simp only [execOp, hf.ev hx, hf.ev hy, bind_pure_comp, Sem.run_map, Sem.run_bind, run_eqGuard_int, Result.andThen_ok]
    simp [Go.binOp, Op.intDiv, hb, Sx.w])

theorem OV.rem {t yt : TypeId} {x y : Operand} {k0 : IntKind} {a b : Int} (hx : opv l x = some (.int k0 a)) (hy : opv l y = some (.int k0 b)) (hb : b ≠ 0) : OV P C n l H ⟨some d, .binOp .rem t x y yt, ty, pos, after, g⟩ (.int k0 (a.tmod b)) :=
  (fun ac w hf hs => by
    simp only [execOp, hf.ev hx, hf.ev hy, bind_pure_comp, Sem.run_map, Sem.run_bind, run_eqGuard_int, Result.andThen_ok]
    simp [Go.binOp, Op.intDiv, hb])

def iun (op : UnOp) (k : IntKind) (x : Int) : Option Value :=
  match op with
  | .neg => some (.int k (w k (0 - x)))
  | .xor => some (.int k (bXor k (if k.signed then -1 else k.max) x))
  | _ => none

theorem OV.iun {op : UnOp} {t : TypeId} {x : Operand} {k0 : IntKind} {a : Int} {v : Value} (hx : opv l x = some (.int k0 a)) (hv : Sx.iun op k0 a = some v) : OV P C n l H ⟨some d, .unOp op t x, ty, pos, after, g⟩ (v) :=
  (fun ac w hf hs => by
    simp only [execOp, hf.ev hx]
    cases op <;> simp only [Sx.iun, Option.some.injEq, reduceCtorEq] at hv <;> subst hv <;> simp [Op.unary, Op.intArith, Op.intBits, Sx.w, bXor])

theorem OV.not {t : TypeId} {x : Operand} {b : Bool} (hx : opv l x = some (.bool b)) : OV P C n l H ⟨some d, .unOp .not t x, ty, pos, after, g⟩ (.bool (!b)) :=
  (fun ac w hf hs => by simp [execOp, hf.ev hx, Op.unary])

theorem OV.convInt {s dt : TypeId} {x : Operand} {k0 k1 : IntKind} {a : Int} (hx : opv l x = some (.int k0 a)) (hs : (P.underlying s).isSome = true) (ht : P.underlying dt = some (.int k1)) : OV P C n l H ⟨some d, .convert s dt x, ty, pos, after, g⟩ (.int k1 (Sx.w k1 a)) :=
  (fun ac w hf hst => by
    obtain ⟨ds, hds⟩ := Option.isSome_iff_exists.1 hs
    simp only [execOp, hf.ev hx, convert, bind_pure_comp, Sem.run_map, Sem.run_bind, underlying, run_program, Result.andThen_ok, hds, ht, Sem.run_pure]
    cases ds <;> simp [Conv.intToInt, Sx.w])

/-! strings -/
def slt (s t : Str) : Bool := Op.bytesLess s t
def sbin (op : BinOp) (s t : Str) : Option Value :=
  match op with
  | .eql => some (.bool (s == t))
  | .neq => some (.bool (!(s == t)))
  | .lss => some (.bool (slt s t))
  | .leq => some (.bool (slt s t || (s == t)))
  | .gtr => some (.bool (!(slt s t || (s == t))))
  | .geq => some (.bool (!(slt s t)))
  | _ => none

theorem sv_toList (s : Str) : (⟨s.toArray⟩ : ByteArray).toList = s := ByteArray.toList_mk s

theorem run_eqGuard_string (P : Program) (op : BinOp) (t : TypeId) (x y : Operand) (a b : ByteArray) (w : World) : (eqGuard op t x y (.string a) (.string b)).run P w = .ok () w := by
  unfold eqGuard; cases op <;> rfl

theorem OV.sbin {op : BinOp} {t yt : TypeId} {x y : Operand} {a b : Str} {v : Value} (hx : opv l x = some (sv a)) (hy : opv l y = some (sv b))
    (hv : Sx.sbin op a b = some v) : OV P C n l H ⟨some d, .binOp op t x y yt, ty, pos, after, g⟩ (v) :=
  (fun ac w hf hs => by
    simp only [execOp, hf.ev hx, hf.ev hy, sv]
    simp only [bind_pure_comp, Sem.run_map, Sem.run_bind, run_eqGuard_string, Result.andThen_ok]
    cases op <;> simp only [Sx.sbin, Option.some.injEq, reduceCtorEq] at hv <;> subst hv <;> simp [Go.binOp, Op.stringOp, slt])

theorem OV.cat {t yt : TypeId} {x y : Operand} {a b : Str} (hx : opv l x = some (sv a)) (hy : opv l y = some (sv b)) (hl : a.length + b.length < 9223372036854775807) : OV P C n l H ⟨some d, .binOp .add t x y yt, ty, pos, after, g⟩ (sv (a ++ b)) :=
  (fun ac w hf hs => by
    simp only [execOp, hf.ev hx, hf.ev hy, sv]
    simp only [bind_pure_comp, Sem.run_map, Sem.run_bind, run_eqGuard_string, Result.andThen_ok]
    have h1 : ¬ (((⟨a.toArray⟩ : ByteArray).size + (⟨b.toArray⟩ : ByteArray).size : Nat) : Int) > IntKind.i64.max := by
      simp [ByteArray.size, IntKind.max, IntKind.bits, IntKind.signed]; omega
    have h2 : (⟨a.toArray⟩ : ByteArray) ++ ⟨b.toArray⟩ = ⟨(a ++ b).toArray⟩ := by
      apply ByteArray.ext; simp
    simp only [Go.binOp, Op.stringOp, h1, if_false, Sem.run_pure, Result.andThen_ok, h2])

/-! nothing is asked of these: the result is written out -/
theorem OV.extract {x : Operand} {i : Nat} {vs : Array Value} {v : Value} (hx : opv l x = some (.tuple vs)) (hv : vs[i]? = some v) : OV P C n l H ⟨some d, .extract x i, ty, pos, after, g⟩ (v) :=
  (fun ac w hf hs => by simp [execOp, hf.ev hx, Instr.extract, hv])

theorem OV.nilCheck {x : Operand} {p : Nat × Nat} {q : Option (Nat × Nat)} (hx : opv l x = some (pv q)) (hq : q = some p) : OV P C n l H ⟨some d, .nilCheck x, ty, pos, after, g⟩ (pv (some p)) :=
  (fun ac w hf hs => by subst hq; simp [execOp, hf.ev hx, pv])

theorem OV.nilCheckF {x : Operand} {f : Nat} {fs cs : Array Value} (hx : opv l x = some (.func (.func f) fs cs)) : OV P C n l H ⟨some d, .nilCheck x, ty, pos, after, g⟩ (.func (.func f) fs cs) :=
  (fun ac w hf hs => by simp [execOp, hf.ev hx])

def fieldOff (P : Program) (t : TypeId) (i : Nat) : Option Nat :=
  match P.underlying t with
  | some (.struct fs) => match fs[i]? with
    | some f => match P.info? f.type with
      | some inf => if inf.size = 0 then none else some f.offset
      | none => none
    | none => none
  | _ => none

theorem run_fieldAt {t : TypeId} {i off : Nat} {p : Nat × Nat} (w : World) (h : fieldOff P t i = some off) : (Instr.fieldAt t (pv (some p)) i).run P w = .ok (pv (some (p.1, p.2 + off))) w := by
  unfold fieldOff at h
  split at h
  · rename_i fs hfs
    split at h
    · rename_i f hf
      split at h
      · rename_i inf hinf
        split at h
        · cases h
        · rename_i hz
          injection h with h
          subst h
          simp [Instr.fieldAt, underlying, hfs, hf, Instr.sureAddr, pv, fieldPlace, Go.sizeOf, typeInfo, hinf, hz, adv_add]
      · cases h
    · cases h
  · cases h

theorem OV.fieldAddr {t : TypeId} {x : Operand} {i off : Nat} {p : Nat × Nat} (hx : opv l x = some (pv (some p))) (ho : fieldOff P t i = some off) : OV P C n l H ⟨some d, .fieldAddr t x i, ty, pos, after, g⟩ (pv (some (p.1, p.2 + off))) :=
  (fun ac w hf hs => by simp [execOp, hf.ev hx, run_fieldAt w ho])

theorem OV.makeFunc {fn : Fn} {fs cs : Array Operand} {vs us : List Value} (hx : opvs l fs.toList = some vs) (hy : opvs l cs.toList = some us) : OV P C n l H ⟨some d, .makeFunc fn fs cs, ty, pos, after, g⟩ (.func fn vs.toArray us.toArray) :=
  (fun ac w hf hs => by
    have h1 : fs.map ac.eval = vs.toArray := by apply Array.ext'; simp [hf.evs hx]
    have h2 : cs.map ac.eval = us.toArray := by apply Array.ext'; simp [hf.evs hy]
    simp [execOp, Instr.makeFunc, h1, h2])

/-- an operation on values alone, its run given -/
theorem OV.field {t : TypeId} {x : Operand} {i : Nat} {u v : Value} (hx : opv l x = some u) (hr : ∀ w, (Instr.field t u i).run P w = .ok v w) : OV P C n l H ⟨some d, .field t x i, ty, pos, after, g⟩ (v) :=
  (fun ac w hf hs => by simp [execOp, hf.ev hx, hr])

def partVals (l : List (Nat × Value)) : List (Nat × Operand) → Option (List (Nat × Value))
  | [] => some []
  | (i, x) :: xs => match opv l x, partVals l xs with
    | some v, some vs => some ((i, v) :: vs)
    | _, _ => none

theorem Fr.parts {a : Act} (h : Fr n l a) : ∀ {xs : List (Nat × Operand)} {vs : List (Nat × Value)}, partVals l xs = some vs → xs.map (fun p => (p.1, a.eval p.2)) = vs
  | [], vs, hx => by simpa [partVals] using hx
  | (i, x) :: xs, vs, hx => by
    simp only [partVals] at hx
    split at hx
    · rename_i v us h1 h2
      injection hx with hx
      subst hx
      simp [h.ev h1, h.parts h2]
    · cases hx

theorem OV.build {t : TypeId} {ps : Array (Nat × Operand)} {vs : List (Nat × Value)} {v : Value} (hx : partVals l ps.toList = some vs)
    (hr : ∀ w, (Instr.build t vs.toArray).run P w = .ok v w) : OV P C n l H ⟨some d, .build t ps, ty, pos, after, g⟩ (v) :=
  (fun ac w hf hs => by
    have h1 : ps.map (fun p => (p.1, ac.eval p.2)) = vs.toArray := by apply Array.ext'; simp [hf.parts hx]
    simp only [execOp]
    rw [show (ps.map fun x => match x with | (i, x) => (i, ac.eval x)) = ps.map (fun p => (p.1, ac.eval p.2)) from rfl, h1]
    simp [hr])

/-! comparing with nil; truth values -/
theorem run_eqGuard_pointer (P : Program) (op : BinOp) (t : TypeId) (x y : Operand) (a b : Option Addr) (w : World) : (eqGuard op t x y (.pointer a) (.pointer b)).run P w = .ok () w := by
  unfold eqGuard; cases op <;> rfl

theorem OV.eqlNil {t yt e : TypeId} {x y : Operand} {p : Option (Nat × Nat)} (hx : opv l x = some (pv p)) (hy : opv l y = some (.pointer none)) (ht : P.underlying t = some (.pointer e)) : OV P C n l H ⟨some d, .binOp .eql t x y yt, ty, pos, after, g⟩ (.bool p.isNone) :=
  (fun ac w hf hs => by
    simp only [execOp, hf.ev hx, hf.ev hy, pv]
    simp only [bind_pure_comp, Sem.run_map, Sem.run_bind, run_eqGuard_pointer, Result.andThen_ok]
    have he : P.pointee t = e := by simp [Program.pointee, ht]
    have := run_eql_pointer_nil (P := P) w t (p.map adv) (by rw [he]; exact ht)
    rw [this]; simp)

theorem OV.neqNil {t yt e : TypeId} {x y : Operand} {p : Option (Nat × Nat)} (hx : opv l x = some (pv p)) (hy : opv l y = some (.pointer none)) (ht : P.underlying t = some (.pointer e)) : OV P C n l H ⟨some d, .binOp .neq t x y yt, ty, pos, after, g⟩ (.bool (!p.isNone)) :=
  (fun ac w hf hs => by
    simp only [execOp, hf.ev hx, hf.ev hy, pv]
    simp only [bind_pure_comp, Sem.run_map, Sem.run_bind, run_eqGuard_pointer, Result.andThen_ok]
    have he : P.pointee t = e := by simp [Program.pointee, ht]
    have := run_neq_pointer_nil (P := P) w t (p.map adv) (by rw [he]; exact ht)
    rw [this]; simp)

theorem run_eqGuard_bool (P : Program) (op : BinOp) (t : TypeId) (x y : Operand) (a b : Bool) (w : World) : (eqGuard op t x y (.bool a) (.bool b)).run P w = .ok () w := by
  unfold eqGuard; cases op <;> rfl

theorem OV.eqlBool {t yt : TypeId} {x y : Operand} {a b : Bool} (hx : opv l x = some (.bool a)) (hy : opv l y = some (.bool b)) (ht : P.underlying t = some .bool) : OV P C n l H ⟨some d, .binOp .eql t x y yt, ty, pos, after, g⟩ (.bool (a == b)) :=
  (fun ac w hf hs => by
    simp only [execOp, hf.ev hx, hf.ev hy]
    simp only [bind_pure_comp, Sem.run_map, Sem.run_bind, run_eqGuard_bool, Result.andThen_ok]
    rw [run_eql_bool (P := P) w t a b ht]; rfl)

theorem OV.neqBool {t yt : TypeId} {x y : Operand} {a b : Bool} (hx : opv l x = some (.bool a)) (hy : opv l y = some (.bool b)) (ht : P.underlying t = some .bool) : OV P C n l H ⟨some d, .binOp .neq t x y yt, ty, pos, after, g⟩ (.bool (!(a == b))) :=
  (fun ac w hf hs => by
    simp only [execOp, hf.ev hx, hf.ev hy]
    simp only [bind_pure_comp, Sem.run_map, Sem.run_bind, run_eqGuard_bool, Result.andThen_ok]
    rw [run_neq_bool (P := P) w t a b ht]; rfl)

end
end Sx
