/-
  More operations over the ghost heap: nil slices and maps, cap, calls of unknown functions, copy, externs, typed rows.
-/
import Derived.Test.YtlpjpjbgfffffaaDoorSxUser
import Derived.Lib.Builder
import Derived.Lib.UnsafeStr
import Derived.Lib.MakeNoZero
import Derived.Lib.Bytealg
import Derived.WalkSpells
import Derived.Lib.LazyBuf
set_option linter.unusedVariables false
namespace Sx
open Go

section
variable {P : Program} {C : Ctx} {Q Q' : Exit → Act → World → Prop} {n : Nat} {l : List (Nat × Value)} {H : Heap} {ops : Array Oper} {rest : List Oper} {d : Nat} {ty : TypeId} {pos : String} {after : Array Edge} {g : Option (Nat × Bool)}

theorem run_eqGuard_slice (P : Program) (op : BinOp) (t : TypeId) (x y : Operand) (a b : Option Addr) (n c n' c' : Nat) (w : World) : (eqGuard op t x y (.slice a n c) (.slice b n' c')).run P w = .ok () w := by
  unfold eqGuard; cases op <;> rfl
theorem run_eqGuard_map (P : Program) (op : BinOp) (t : TypeId) (x y : Operand) (a b : Option Nat) (w : World) : (eqGuard op t x y (.map a) (.map b)).run P w = .ok () w := by
  unfold eqGuard; cases op <;> rfl

def Sl.isNil (s : Sl) : Bool := s.p.isNone
theorem Sl.ad_isNone (s : Sl) : s.ad.isNone = s.isNil := by unfold Sl.ad Sl.isNil; cases s.p <;> rfl

theorem OV.eqlSl {t yt e : TypeId} {x y : Operand} {s : Sl} (hx : opv l x = some (slv s)) (hy : opv l y = some (slv Sl.nil)) (ht : P.underlying t = some (.slice e)) : OV P C n l H ⟨some d, .binOp .eql t x y yt, ty, pos, after, g⟩ (.bool s.isNil) :=
  (fun ac w hf hs => by
    simp only [execOp, hf.ev hx, hf.ev hy]
    have h0 : slv Sl.nil = .slice none 0 0 := rfl
    rw [h0]
    simp only [slv, bind_pure_comp, Sem.run_map, Sem.run_bind, run_eqGuard_slice, Result.andThen_ok]
    rw [Lib.run_eql_slice_nil (P := P) w t e s.ad s.len s.cap 0 0 ht, Sl.ad_isNone]; rfl)

theorem OV.neqSl {t yt e : TypeId} {x y : Operand} {s : Sl} (hx : opv l x = some (slv s)) (hy : opv l y = some (slv Sl.nil)) (ht : P.underlying t = some (.slice e)) : OV P C n l H ⟨some d, .binOp .neq t x y yt, ty, pos, after, g⟩ (.bool (!s.isNil)) :=
  (fun ac w hf hs => by
    simp only [execOp, hf.ev hx, hf.ev hy]
    have h0 : slv Sl.nil = .slice none 0 0 := rfl
    rw [h0]
    simp only [slv, bind_pure_comp, Sem.run_map, Sem.run_bind, run_eqGuard_slice, Result.andThen_ok]
    rw [run_neq_slice_nil_any (P := P) w t e s.ad s.len s.cap 0 0 ht, Sl.ad_isNone]; rfl)

theorem OV.cap {x : Operand} {ats : Array TypeId} {t e : TypeId} {s : Sl} (hx : opv l x = some (slv s)) (ha : ats[0]? = some t) (ht : P.underlying t = some (.slice e)) :
    OV P C n l H ⟨some d, .call { callee := .builtin .cap, args := #[x], argTypes := ats }, ty, pos, after, g⟩ (.int .i64 (s.cap : Int)) := fun ac w hf hs => by
  simp only [execOp, resolve, invoke, builtin, List.map_toArray, List.map_cons, List.map_nil, hf.ev hx, slv]
  simp [Builtin.cap_, ha, underlying, ht, goInt]

/-! a call of a function value that is not known ahead -/
def callU (P : Program) (C : Ctx) (x : Value) (vs : List Value) (H : Heap) (Φ : Value → Heap → Prop) : Prop :=
  ∃ f fs cs, x = .func (.func f) (List.toArray fs) (List.toArray cs) ∧ CallOk P f ∧ Spec P C f (fs ++ vs ++ cs) H Φ

theorem callU.mono {x : Value} {vs : List Value} {Φ Ψ : Value → Heap → Prop} (h : callU P C x vs H Φ) (hh : ∀ v H', Φ v H' → Ψ v H') : callU P C x vs H Ψ := by
  obtain ⟨f, fs, cs, h1, h2, h3⟩ := h
  exact ⟨f, fs, cs, h1, h2, h3.mono hh⟩

theorem GL.callU {x : Operand} {xv : Value} {xs : Array Operand} {ats : Array TypeId} {vs : List Value} {Φ : Value → Heap → Prop} (hc : Sx.callU P C xv vs H Φ) (hw : Wt ops l g) (hd : Nat.blt d n = true)
    (hfx : opv l x = some xv) (hx : opvs l xs.toList = some vs)
    (k : ∀ v H', Φ v H' → GL P C ops Q n rest ((d, v) :: l) H') : GL P C ops Q n (⟨some d, .call { callee := .value x, args := xs, argTypes := ats }, ty, pos, after, g⟩ :: rest) l H := by
  obtain ⟨f, fs, cs, h1, h2, h3⟩ := hc
  exact GL.callV h3 hw hd h2 (by rw [hfx, h1]) hx k

theorem OV.nilCheckU {x : Operand} {xv : Value} {f : Nat} {fs cs : Array Value} (hx : opv l x = some xv) (h : xv = .func (.func f) fs cs) : OV P C n l H ⟨some d, .nilCheck x, ty, pos, after, g⟩ xv :=
  (fun ac w hf hs => by subst h; simp [execOp, hf.ev hx])

/-! functions without a body -/
structure ExtOk (P : Program) (f : FuncId) (e : Array Value → Sem Value) : Prop where
  ok : ∃ fn, P.funcs[f]? = some fn ∧ (fn.name == "runtime.NumGoroutine") = false ∧ fn.body.isNone = true ∧ Extern.findNext fn = none ∧ Extern.find fn = some e

theorem run_ext {f : FuncId} {e : Array Value → Sem Value} (h : ExtOk P f e) (args : Array Value) (w : World) : (callFunc f args).run P w = ((e args).run P w).andThen fun v w' => .ok (.value v) w' := by
  obtain ⟨fn, h1, h2, h3, h4, h5⟩ := h.ok
  exact run_callFunc_extern h1 h2 h3 h4 h5 args w

/-- one that only reckons -/
theorem OV.ext {f : FuncId} {e : Array Value → Sem Value} {xs : Array Operand} {ats : Array TypeId} {vs : List Value} {v : Value} (hok : ExtOk P f e) (hx : opvs l xs.toList = some vs) (hr : ∀ w, (e vs.toArray).run P w = .ok v w) :
    OV P C n l H ⟨some d, .call { callee := .value (.func f), args := xs, argTypes := ats }, ty, pos, after, g⟩ v := fun a w hf hs => by
  have h1 : xs.map a.eval = vs.toArray := by apply Array.ext'; simp [hf.evs hx]
  simp [execOp, resolve, invoke, Deferred.ofValue, Act.eval, h1, run_ext hok, hr]

def idxB (s : Str) (c : Int) : Int := Lib.indexByte s c.toNat.toUInt8
def cntB (s : Str) (c : Int) : Nat := s.count c.toNat.toUInt8
theorem run_idxB (s : Str) (c : Int) (w : World) : (Extern.BytealgIndexByte.indexByte #[sv s, .int .u8 c]).run P w = .ok (.int .i64 (idxB s c)) w := Lib.run_indexByteString _ _ _
theorem run_cntB (s : Str) (c : Int) (w : World) : (Extern.BytealgCount.count #[sv s, .int .u8 c]).run P w = .ok (.int .i64 (cntB s c : Int)) w := by
  have := Lib.run_countString (P := P) ⟨s.toArray⟩ c w
  simpa [cntB, Lib.countByte, sv] using this
theorem run_same (x : Value) (w : World) : (Extern.AbiNoEscape.same #[x]).run P w = .ok x w := rfl

/-! copy -/
def cpy (z : Nat) (s t : Sl) (K : Int → Heap → Prop) (H : Heap) : Prop :=
  ∃ ys, rdsl H t ys ∧ ys.length = (Nat.min t.len s.len) * z ∧ (∀ u ∈ ys, u.oneCell' = true) ∧
    ((ys = [] ∧ K (Nat.min t.len s.len : Nat) H) ∨ (∃ p c, s.p = some p ∧ s.x = none ∧ H p.1 = some (true, .row c) ∧ p.2 + ys.length ≤ c.length ∧ K (Nat.min t.len s.len : Nat) (H.put p.1 (.row (splice c p.2 ys)))))

theorem firstCells_sl {C : Ctx} {w : World} {H : Heap} (hs : St C w H) {t : Sl} {ys : List Value} {m z : Nat} (hr : rdsl H t ys) (hl : ys.length = m * z) : (Builtin.firstCells z m (slv t)).run P w = .ok ys.toArray w := by
  simp only [Builtin.firstCells, slv]
  cases ha : t.ad with
  | none =>
    rcases hr with rfl | ⟨hx, p, hp, hr⟩
    · rfl
    · rw [Sl.ad_some hx hp] at ha; cases ha
  | some a => exact hs.loadsl hr hl.symm ha

theorem GL.copy {x y : Operand} {t t2 e : TypeId} {s s2 : Sl} {z : Nat} {K : Int → Heap → Prop} (h : cpy z s s2 K H) (hw : Wt ops l g) (hd : Nat.blt d n = true)
    (hx : opv l x = some (slv s)) (hy : opv l y = some (slv s2)) (ht : P.underlying t = some (.slice e)) (hz : (P.info? e).map (·.size) = some z)
    (k : ∀ (r : Int) H', K r H' → GL P C ops Q n rest ((d, .int .i64 r) :: l) H') : GL P C ops Q n (⟨some d, .call { callee := .builtin .copy, args := #[x, y], argTypes := #[t, t2] }, ty, pos, after, g⟩ :: rest) l H := by
  obtain ⟨ys, h1, h2, h3, h4⟩ := h
  cases hinf : P.info? e with
  | none => rw [hinf] at hz; cases hz
  | some inf =>
    rw [hinf] at hz
    have hsz : inf.size = z := by simpa using hz
    refine GL.run (v := undef) hw hd fun a w hf hst => ?_
    have hc := firstCells_sl (P := P) hst h1 h2
    have hlen : (Builtin.lenOf (slv s2)).run P w = .ok s2.len w := by simp [Builtin.lenOf, slv]
    rcases h4 with ⟨h0, hk⟩ | ⟨p, c, hp, hx0, hb, hl, hk⟩
    · refine ⟨_, w, H, ?_, hst, k _ _ hk⟩
      subst h0
      have e1 : slv s = .slice s.ad s.len s.cap := rfl
      simp only [execOp, resolve, invoke, builtin, List.map_toArray, List.map_cons, List.map_nil, hf.ev hx, hf.ev hy]
      rw [e1]
      cases had : s.ad with
      | none => simp [Builtin.copy_, underlying, ht, hlen, Go.sizeOf, typeInfo, hinf, hsz, hc, goInt]
      | some a => simp [Builtin.copy_, underlying, ht, hlen, Go.sizeOf, typeInfo, hinf, hsz, hc, storeCells, goInt]
    · obtain ⟨w', hr, hs'⟩ := St.stores (P := P) (C := C) (b := p.1) (o := p.2) ys 0 w H c hst hb (by simpa using hl) h3
      refine ⟨_, w', _, ?_, by simpa using hs', k _ _ hk⟩
      have e1 : slv s = .slice (some ⟨p.1, p.2, none⟩) s.len s.cap := by unfold slv; rw [Sl.ad_some hx0 hp]; rfl
      simp only [execOp, resolve, invoke, builtin, List.map_toArray, List.map_cons, List.map_nil, hf.ev hx, hf.ev hy]
      rw [e1]
      simp [Builtin.copy_, underlying, ht, hlen, Go.sizeOf, typeInfo, hinf, hsz, hc, hr, goInt]

/-! what is not reached -/
theorem GL.never {r : List Oper} (h : False) : GL P C ops Q n r l H := h.elim
theorem GC.never {c : Code} (h : False) : GC P C Q n c l H := h.elim

/-! two pointers that are the same -/
theorem OV.neqSame {t yt te : TypeId} {x y : Operand} {p q : Option (Nat × Nat)} {a : Nat × Nat} (hx : opv l x = some (pv p)) (hy : opv l y = some (pv q)) (hp : p = some a) (hq : q = some a) (ht : P.underlying t = some (.pointer te)) (hi : (P.info? te).isSome = true) :
    OV P C n l H ⟨some d, .binOp .neq t x y yt, ty, pos, after, g⟩ (.bool false) :=
  (fun ac w hf hs => by
    subst hp; subst hq
    obtain ⟨j, hj⟩ := Option.isSome_iff_exists.1 hi
    simp only [execOp, hf.ev hx, hf.ev hy, pv]
    simp only [bind_pure_comp, Sem.run_map, Sem.run_bind, run_eqGuard_pointer, Result.andThen_ok]
    have := Lib.run_neq_ptr_same (P := P) w (adv a) ht hj
    rw [Option.map_some, this]; rfl)

/-! typed rows -/
def sttG (p : Nat × Nat) (v : Value) (K : Heap → Prop) (H : Heap) : Prop := ∃ t k c, H p.1 = some (true, .trow t k c) ∧ k ≤ p.2 ∧ p.2 < c.length ∧ K (H.put p.1 (.trow t k (c.set p.2 v)))
theorem GL.storeG {t : TypeId} {x y : Operand} {p : Nat × Nat} {v : Value} {K : Heap → Prop} (h : sttG p v K H) (hw : Wt ops l g) (hx : opv l x = some (pv (some p))) (hy : opv l y = some v) (h1 : v.oneCell' = true)
    (hi : (P.info? t).map (·.size) = some 1) (k : ∀ H', K H' → GL P C ops Q n rest l H') : GL P C ops Q n (⟨none, .store t x y, ty, pos, after, g⟩ :: rest) l H := by
  obtain ⟨tt, kk, c, hb, hkk, hl, hk⟩ := h
  refine GL.run0 hw fun a w hf hs => ?_
  have hv : v.cells = [v].toArray := by cases v <;> simp_all [Value.cells, Value.oneCell']
  cases hinf : P.info? t with
  | none => rw [hinf] at hi; cases hi
  | some inf =>
    rw [hinf] at hi
    have hsz : inf.size = 1 := by simpa using hi
    obtain ⟨w', h2, h3⟩ := St.storesT (P := P) (b := p.1) (o := p.2) [v] 0 w H c hs hb (by simpa using hkk) (by simp; omega) (by simpa using h1)
    rw [Nat.add_zero, splice_one hl] at h3
    refine ⟨w', _, ?_, h3, k _ hk⟩
    simp only [execOp, hf.ev hx, hf.ev hy, pv, Option.map_some, Instr.storeAt, Instr.sureAddr]
    have h2' : (storeCells (adv p) [v]).run P w = .ok () w' := h2
    simp [storeVar, hv, Go.sizeOf, typeInfo, hinf, hsz, h2']

/-- append to a slice of a typed row -/
def apdG (e : TypeId) (zc : List Value) (bytes : Nat) (s : Sl) (ys : List Value) (m : Nat) (K : Sl → Heap → Prop) (H : Heap) : Prop :=
  ∃ xs, rdsl H s xs ∧ xs.length = s.len * zc.length ∧ ys.length = m * zc.length ∧ (s.len + m) * bytes ≤ 140737488355328 ∧ s.len + m ≤ 9223372036854775807 ∧
    (s.len + m ≤ s.cap → (ys = [] ∧ K ⟨s.p, s.len + m, s.cap, s.x⟩ H) ∨
      (∃ p t k c, s.p = some p ∧ s.x = none ∧ H p.1 = some (true, .trow t k c) ∧ k ≤ p.2 + s.len * zc.length ∧ p.2 + s.len * zc.length + ys.length ≤ c.length ∧ K ⟨s.p, s.len + m, s.cap, s.x⟩ (H.put p.1 (.trow t k (splice c (p.2 + s.len * zc.length) ys))))) ∧
    (s.cap < s.len + m → ∀ b cap, H b = none → s.len + m ≤ cap → K (Sl.of (some (b, 0)) (s.len + m) cap) (H.put b (.trow e 0 (xs ++ ys ++ zeros zc (cap - (s.len + m))))))

structure ElemG (P : Program) (t e : TypeId) (zc : List Value) (bytes : Nat) : Prop where
  ok : ∃ i z, P.underlying t = some (.slice e) ∧ P.info? e = some i ∧ i.size = zc.length ∧ i.bytes = bytes ∧ i.zero = some z ∧ z.cells = zc.toArray

theorem run_appendG {t t2 e : TypeId} {s : Sl} {x : Value} {ys : List Value} {m : Nat} {zc : List Value} {bytes : Nat} {K : Sl → Heap → Prop} {w : World}
    (h : apdG e zc bytes s ys m K H) (hs : St C w H) (he : ElemG P t e zc bytes) (h2 : ∃ u, P.underlying t2 = some u ∧ ∀ k, u ≠ .int k) (hx : Src P C H x zc.length ys m) (h1 : ∀ u ∈ ys, u.oneCell' = true) :
    ∃ r w' H', (Builtin.append_ #[t, t2] ty #[slv s, x]).run P w = .ok (slv r) w' ∧ St C w' H' ∧ K r H' := by
  obtain ⟨i, z, hu, hi, hsz, hby, hz, hzc⟩ := he.ok
  obtain ⟨u2, hu2, hne⟩ := h2
  obtain ⟨xs, hxr, hxl, hyl, hb, h63, hfit, hgrow⟩ := h
  by_cases hle : s.len + m ≤ s.cap
  · rcases hfit hle with ⟨hy0, hk⟩ | ⟨p, tt, kk, c, hp, hx0, hc, hkk, hlen, hk⟩
    · subst hy0
      refine ⟨_, w, H, ?_, hs, hk⟩
      have hc0 := hx.cells w hs
      have hs2 : slv ⟨s.p, s.len + m, s.cap, s.x⟩ = .slice s.ad (s.len + m) s.cap := rfl
      rw [hs2]
      cases hp : s.ad with
      | none =>
        simp [Builtin.append_, underlying, hu, hu2, Go.sizeOf, typeInfo, hi, slv, hp, hx.len w, hle, hsz, hc0]
      | some p =>
        simp [Builtin.append_, underlying, hu, hu2, Go.sizeOf, typeInfo, hi, slv, hp, hx.len w, hle, hsz, hc0, storeCells]
    · have hc0 := hx.cells w hs
      obtain ⟨w', hst, hs'⟩ := St.storesT (P := P) (C := C) (b := p.1) (o := p.2 + s.len * zc.length) ys 0 w H c hs hc (by omega) (by omega) h1
      refine ⟨_, w', _, ?_, hs', hk⟩
      have ha : (adv p).add (s.len * zc.length) = ⟨p.1, p.2 + s.len * zc.length, none⟩ := adv_add p _
      have hs2 : slv ⟨s.p, s.len + m, s.cap, s.x⟩ = .slice s.ad (s.len + m) s.cap := rfl
      rw [hs2]
      simp [Builtin.append_, underlying, hu, hu2, Go.sizeOf, typeInfo, hi, slv, Sl.ad_some hx0 hp, hx.len w, hle, hsz, hc0, ha, hst]
  · have hgt : s.cap < s.len + m := by omega
    have hd : St C w.drew H := hs.drew
    have hc0 := hx.cells w.drew hd
    have h63' : ¬ (9223372036854775807 < ((s.len : Int) + (m : Int))) := by omega
    have h48' : ¬ (281474976710656 < Builtin.nextslicecap (s.len + m) s.cap * bytes) := by have := growslice_fits (bytes := bytes) hgt hb; omega
    have hold : (Builtin.firstCells zc.length s.len (slv s)).run P w.drew = .ok xs.toArray w.drew := (Src.slice (P := P) (C := C) hxr hxl).cells w.drew hd
    have hcap := grownCap_ge w (s.len + m) s.cap e
    have hrow : xs.toArray ++ ys.toArray ++ Builtin.zeroCells z.cells (grownCap w (s.len + m) s.cap e - (s.len + m)) = (xs ++ ys ++ zeros zc (grownCap w (s.len + m) s.cap e - (s.len + m))).toArray := by
      rw [hzc, zeroCells_eq]; simp
    refine ⟨Sl.of (some (w.heap.size, 0)) (s.len + m) (grownCap w (s.len + m) s.cap e), w.drew.alloc (.cells (xs ++ ys ++ zeros zc (grownCap w (s.len + m) s.cap e - (s.len + m))).toArray e), _, ?_, ?_, hgrow hgt w.heap.size (grownCap w (s.len + m) s.cap e) hs.fresh hcap⟩
    · rw [← hrow]
      have hs2 : slv s = .slice s.ad s.len s.cap := rfl
      have hs3 : ∀ a c : Nat, slv (Sl.of (some (w.heap.size, 0)) a c) = .slice (some ⟨w.heap.size, 0, none⟩) a c := fun _ _ => rfl
      rw [hs3]
      rw [hs2] at hold ⊢
      simp [Builtin.append_, underlying, hu, hu2, Go.sizeOf, typeInfo, zeroValue, hi, hz, hby, hsz, hx.len w, hle, h63', h48', Question.forced, hc0, hold, Go.newRow, grownCap]
      refine congrArg (fun a : Array Value => w.drew.alloc (.cells a e)) ?_
      apply Array.ext'
      simp
    · exact hd.push ⟨rfl, rfl, fun _ => .inl rfl⟩

theorem GL.appendG {x y : Operand} {t t2 e : TypeId} {s : Sl} {yv : Value} {ys : List Value} {m : Nat} {zc : List Value} {bytes : Nat} {K : Sl → Heap → Prop} (h : apdG e zc bytes s ys m K H) (hw : Wt ops l g) (hd : Nat.blt d n = true)
    (hx : opv l x = some (slv s)) (hy : opv l y = some yv) (he : ElemG P t e zc bytes) (h2 : ∃ u, P.underlying t2 = some u ∧ ∀ k, u ≠ .int k) (hsrc : Src P C H yv zc.length ys m) (h1 : ∀ u ∈ ys, u.oneCell' = true)
    (k : ∀ r H', K r H' → GL P C ops Q n rest ((d, slv r) :: l) H') : GL P C ops Q n (⟨some d, .call { callee := .builtin .append, args := #[x, y], argTypes := #[t, t2] }, ty, pos, after, g⟩ :: rest) l H := by
  refine GL.run (v := undef) hw hd fun a w hf hst => ?_
  obtain ⟨r, w', H', hr, hs', hk⟩ := run_appendG (P := P) (ty := ty) h hst he h2 hsrc h1
  refine ⟨slv r, w', H', ?_, hs', k _ _ hk⟩
  simp only [execOp, resolve, invoke, builtin, List.map_toArray, List.map_cons, List.map_nil, hf.ev hx, hf.ev hy]
  simp [hr]

theorem apdG.frame {e : TypeId} {zc : List Value} {bytes : Nat} {s : Sl} {ys : List Value} {m : Nat} {K : Sl → Heap → Prop} {H' : Heap} (h : apdG e zc bytes s ys m K H) (hle : H.le H') :
    apdG e zc bytes s ys m (fun r H2 => ∃ H0, K r H0 ∧ H0.le H2) H' := by
  obtain ⟨xs, h1, h2, h3, h4, h5, h6, h7⟩ := h
  refine ⟨xs, rdsl_le hle h1, h2, h3, h4, h5, fun hc => ?_, fun hc b cap hb hcap => ⟨_, h7 hc b cap (hle.none hb) hcap, hle.puts _ _ _⟩⟩
  rcases h6 hc with ⟨e, hk⟩ | ⟨p, t, kk, c, e1, e0, e2, e4, e3, hk⟩
  · exact .inl ⟨e, _, hk, hle⟩
  · exact .inr ⟨p, t, kk, c, e1, e0, hle _ _ e2, e4, e3, _, hk, hle.puts _ _ _⟩

theorem GL.appendGStr {x y : Operand} {t t2 e : TypeId} {s : Sl} {u : Str} {bytes : Nat} {K : Sl → Heap → Prop} (h : apdG e [.int .u8 0] bytes s (bytesV u) u.length K H) (hw : Wt ops l g) (hd : Nat.blt d n = true)
    (hx : opv l x = some (slv s)) (hy : opv l y = some (sv u)) (he : ElemG P t e [.int .u8 0] bytes) (h2 : P.underlying t2 = some .string)
    (k : ∀ r H', K r H' → GL P C ops Q n rest ((d, slv r) :: l) H') : GL P C ops Q n (⟨some d, .call { callee := .builtin .append, args := #[x, y], argTypes := #[t, t2] }, ty, pos, after, g⟩ :: rest) l H :=
  GL.appendG h hw hd hx hy he ⟨_, h2, fun _ h => by cases h⟩ Src.str (by simp [bytesV, Value.oneCell']) k

theorem GL.appendGLit {x y : Operand} {t t2 e e2 t3 ty2 : TypeId} {d2 m : Nat} {s : Sl} {ps : Array (Nat × Operand)} {vs : List (Nat × Value)} {ys : List Value} {zc : List Value} {bytes : Nat} {K : Sl → Heap → Prop} {pos2 : String} {after2 : Array Edge} {g2 : Option (Nat × Bool)}
    (h : apdG e zc bytes s ys m K H) (hw : Wt ops l g) (hd : Nat.blt d n = true) (hw2 : ∀ v, Wt ops ((d, v) :: l) g2) (hd2 : Nat.blt d2 n = true)
    (hx : ∀ v, opv ((d, v) :: l) x = some (slv s)) (hy : ∀ v, opv ((d, v) :: l) y = some v) (hp : partVals l ps.toList = some vs) (hr : litRun P t3 m vs ys) (he : ElemG P t e zc bytes) (h2 : P.underlying t2 = some (.slice e2)) (h1 : ys.all Value.oneCell' = true)
    (k : ∀ v r H', K r H' → GL P C ops Q n rest ((d2, slv r) :: (d, v) :: l) H') :
    GL P C ops Q n (⟨some d, .buildSlice t3 m ps, ty, pos, after, g⟩ :: ⟨some d2, .call { callee := .builtin .append, args := #[x, y], argTypes := #[t, t2] }, ty2, pos2, after2, g2⟩ :: rest) l H := by
  refine GL.buildSlice (K := fun b H' => H' = H.put b (.row ys) ∧ H b = none) (fun b hb => ⟨rfl, hb⟩) hw hd hp hr ?_
  rintro b H' ⟨rfl, hb⟩
  have hl := h
  obtain ⟨_, _, _, hyl, _⟩ := hl
  refine GL.appendG (yv := slv (Sl.of (some (b, 0)) m m)) (h.frame ((Heap.le.refl H).put _ _ hb)) (hw2 _) hd2 (hx _) (hy _) he ⟨_, h2, fun _ h => by cases h⟩ (Src.slice (.inr ⟨rfl, _, rfl, rds_put_new⟩) hyl) (by simpa using h1) ?_
  rintro r H2 ⟨H0, hk, hle⟩
  exact GL.weaken hle (k _ r H0 hk)

/-! the builder's own operations -/
/-- its pointer, as one of no type -/
def cvU (p : Nat × Nat) (K : Prop) (H : Heap) : Prop := (∃ m t k c, H p.1 = some (m, .trow t k c) ∧ p.2 < c.length) ∧ K
theorem OV.cvU {x : Operand} {src dst t : TypeId} {q : Option (Nat × Nat)} {p : Nat × Nat} (hq : q = some p) (h : ∃ m t k c, H p.1 = some (m, .trow t k c) ∧ p.2 < c.length) (hx : opv l x = some (pv q)) (hs : P.underlying src = some (.pointer t)) (hd : P.underlying dst = some .unsafePointer) (ht : ∃ j, P.info? t = some j ∧ j.size ≠ 0) :
    OV P C n l H ⟨some d, .convert src dst x, ty, pos, after, g⟩ (pv (some p)) := fun ac w hf hst => by
  subst hq
  obtain ⟨m, tt, k, c, hb, hlt⟩ := h
  obtain ⟨j, hj, hj0⟩ := ht
  obtain ⟨o, ho, hrel⟩ := hst.blk _ _ _ hb
  cases o <;> simp only [GO.rel] at hrel
  rename_i c' t' fr
  obtain ⟨hc, _⟩ := hrel
  subst hc
  have hsh : w.shape? (adv p).block = some (t', c.length) := by simp [World.shape?, adv, ho]
  simp only [execOp, hf.ev hx, pv, Option.map_some, bind_pure_comp, Sem.run_map]
  rw [Lib.run_to_unsafe (P := P) w (adv p) hs hd hj hj0 hsh hlt]; rfl
/-- .. and back -/
def cvP (T : TypeId) (len : Nat) (p : Nat × Nat) (K : Prop) (H : Heap) : Prop := (∃ m k c, H p.1 = some (m, .trow T k c) ∧ c.length = len ∧ p.2 = 0) ∧ K
theorem OV.cvP {x : Operand} {src dst u T : TypeId} {len : Nat} {p : Nat × Nat} (h : ∃ m k c, H p.1 = some (m, .trow T k c) ∧ c.length = len ∧ p.2 = 0) (hx : opv l x = some (pv (some p))) (hs : P.underlying src = some .unsafePointer) (hd : P.underlying dst = some (.pointer u)) (ht : ∃ j, P.info? u = some j)
    (hl : liesAt P P.depth T (len / P.cellsOf T) 0 u 1 = true) : OV P C n l H ⟨some d, .convert src dst x, ty, pos, after, g⟩ (pv (some p)) := fun ac w hf hst => by
  obtain ⟨m, k, c, hb, hlen, h0⟩ := h
  obtain ⟨j, hj⟩ := ht
  obtain ⟨o, ho, hrel⟩ := hst.blk _ _ _ hb
  cases o <;> simp only [GO.rel] at hrel
  rename_i c' t' fr
  obtain ⟨hc, ht, _⟩ := hrel
  subst hc
  subst ht
  have hsh : w.shape? (adv p).block = some (t', c.length) := by simp [World.shape?, adv, ho]
  simp only [execOp, hf.ev hx, pv, Option.map_some, bind_pure_comp, Sem.run_map]
  rw [Lib.run_from_unsafe (P := P) w (adv p) hs hd hj hsh (by rw [hlen, show (adv p).off = 0 from h0]; exact hl)]; rfl

/-- where a slice begins -/
theorem OV.usd {x : Operand} {ats : Array TypeId} {s : Sl} (h : s.p = none ∨ s.cap ≠ 0) (hx0 : s.x = none) (hx : opv l x = some (slv s)) :
    OV P C n l H ⟨some d, .call { callee := .builtin .unsafeSliceData, args := #[x], argTypes := ats }, ty, pos, after, g⟩ (pv s.p) := fun ac w hf hst => by
  simp only [execOp, resolve, invoke, builtin, List.map_toArray, List.map_cons, List.map_nil, hf.ev hx]
  have e1 : slv s = .slice (s.p.map adv) s.len s.cap := by unfold slv Sl.ad; rw [hx0]; rfl
  rw [e1]
  cases hp : s.p with
  | none => simp [Lib.run_unsafeSliceData_nil, pv]
  | some p =>
    rcases h with h | h
    · rw [hp] at h; cases h
    · simp [Lib.run_unsafeSliceData_row (P := P) w ats ty (adv p) s.len s.cap h, pv]

theorem St.freezeT {w : World} {H : Heap} (h : St C w H) {b : Nat} {t : TypeId} {k m : Nat} {c : List Value} (hb : H b = some (true, .trow t k c)) (hm : m ≠ 0) : St C (w.freeze ⟨b, 0, none⟩ m) (H.put b (.trow t (max k m) c)) := by
  obtain ⟨ob, hob, hrel⟩ := h.blk _ _ _ hb
  cases ob <;> simp only [GO.rel] at hrel
  rename_i c' t' fr
  obtain ⟨hc, ht, hfr⟩ := hrel
  subst hc
  subst ht
  obtain ⟨lo, hi⟩ := fr
  refine h.set hb (o' := .cells c.toArray t' (if lo == hi then (0, m) else (min lo 0, max hi m))) ⟨?_, ?_, ?_, ?_⟩ ⟨rfl, rfl, fun _ => ?_⟩
  · simp [World.freeze, hm]
  · simp [World.freeze, hm]
  · simp [World.freeze, hm, Array.getElem?_modify, hob]
  · intro x hx
    simp [World.freeze, hm, Array.getElem?_modify, Ne.symm hx]
  · have := hfr trivial
    simp only [] at this
    by_cases h1 : lo = hi
    · simp [h1]; omega
    · simp [h1]; omega

/-- a text over the head of a row of bytes, without a copy -/
def ust (e : TypeId) (p : Option (Nat × Nat)) (n : Int) (K : Str → Heap → Prop) (H : Heap) : Prop :=
  (n = 0 ∧ K [] H) ∨ ∃ (b k : Nat) (c : List Value) (s : Str), p = some (b, 0) ∧ H b = some (true, .trow e k c) ∧ n = s.length ∧ s ≠ [] ∧ s.length ≤ 9223372036854775807 ∧ (∀ (j : Nat) (x : UInt8), s[j]? = some x → c[j]? = some (Value.int .u8 (x.toNat : Int))) ∧ K s (H.put b (.trow e (max k s.length) c))
theorem GL.ust {x y : Operand} {t t2 e : TypeId} {p : Option (Nat × Nat)} {m : Int} {K : Str → Heap → Prop} (h : Sx.ust e p m K H) (hw : Wt ops l g) (hd : Nat.blt d n = true) (hx : opv l x = some (pv p)) (hy : opv l y = some (.int .i64 m))
    (ht : P.underlying t = some (.pointer e)) (hc : P.cellsOf e = 1) (k : ∀ s H', K s H' → GL P C ops Q n rest ((d, sv s) :: l) H') : GL P C ops Q n (⟨some d, .call { callee := .builtin .unsafeString, args := #[x, y], argTypes := #[t, t2] }, ty, pos, after, g⟩ :: rest) l H := by
  refine GL.run (v := undef) hw hd fun a w hf hst => ?_
  rcases h with ⟨h0, hk⟩ | ⟨b, kk, c, s, hp, hb, hn, hne, h63, hcs, hk⟩
  · subst h0
    refine ⟨sv [], w, H, ?_, hst, k _ _ hk⟩
    simp only [execOp, resolve, invoke, builtin, List.map_toArray, List.map_cons, List.map_nil, hf.ev hx, hf.ev hy, pv]
    simp [Lib.run_unsafeString_none, sv]; rfl
  · subst hp
    subst hn
    obtain ⟨o, ho, hrel⟩ := hst.blk _ _ _ hb
    cases o <;> simp only [GO.rel] at hrel
    rename_i c' t' fr
    obtain ⟨hcc, htt, _⟩ := hrel
    subst hcc
    subst htt
    have hsh : w.shape? b = some (t', c.length) := by simp [World.shape?, ho]
    have hlen : s.length ≤ c.length := by
      rcases Nat.lt_or_ge c.length s.length with h | h
      · have h2 := hcs c.length s[c.length] (by simp [h])
        simp at h2
      · exact h
    have hl0 : s.length ≠ 0 := by simpa using hne
    refine ⟨sv s, _, _, ?_, hst.freezeT hb hl0, k _ _ hk⟩
    have hr := Lib.run_unsafeString_row (P := P) w t t2 ty t' ht hc b c.length hsh s hne hlen h63 (fun j x hj => by
      have : (⟨b, 0, none⟩ : Addr).add j = ⟨b, 0 + j, none⟩ := adv_add (b, 0) j
      rw [this]
      simp [World.cell?, ho, hcs j x hj])
    simp only [execOp, resolve, invoke, builtin, List.map_toArray, List.map_cons, List.map_nil, hf.ev hx, hf.ev hy, pv, Option.map_some, adv]
    simp [hr, sv]

/-- bytealg.MakeNoZero -/
def mnz (e : TypeId) (m : Int) (K : Sl → Heap → Prop) (H : Heap) : Prop :=
  0 ≤ m ∧ m ≤ 281474976710656 ∧ ∀ b (c : List Value), H b = none → m.toNat ≤ c.length → K (Sl.of (some (b, 0)) m.toNat c.length) (H.put b (.trow e 0 c))
theorem GL.mnz {f : FuncId} {x : Operand} {ps : Array TypeId} {ats : Array TypeId} {t e : TypeId} {m : Int} {K : Sl → Heap → Prop} (h : Sx.mnz e m K H) (hw : Wt ops l g) (hd : Nat.blt d n = true) (hok : ExtOk P f (Extern.BytealgMakeNoZero.makeNoZero ps #[t])) (hx : opv l x = some (.int .i64 m)) (ht : P.underlying t = some (.slice e))
    (k : ∀ r H', K r H' → GL P C ops Q n rest ((d, slv r) :: l) H') : GL P C ops Q n (⟨some d, .call { callee := .value (.func f), args := #[x], argTypes := ats }, ty, pos, after, g⟩ :: rest) l H := by
  obtain ⟨h0, h1, hk⟩ := h
  obtain ⟨m, rfl⟩ := Int.eq_ofNat_of_zero_le h0
  refine GL.run (v := undef) hw hd fun a w hf hst => ?_
  obtain ⟨cs, hr, hle, hmax⟩ := Lib.run_makeNoZero (P := P) w ps t e ht m (by omega)
  have hkk := hk w.heap.size cs.toList hst.fresh (by simpa using hle)
  rw [Int.toNat_natCast, Array.length_toList] at hkk
  refine ⟨slv (Sl.of (some (w.heap.size, 0)) m cs.size), w.drew.drew.alloc (.cells cs e), _, ?_, ?_, k _ _ hkk⟩
  · have h1 : (#[x] : Array Operand).map a.eval = #[.int .i64 m] := by simp [hf.ev hx]
    simp [execOp, resolve, invoke, Deferred.ofValue, Act.eval, h1, run_ext hok, hr, slv, Sl.ad]
  · have h2 : St C w.drew.drew H := hst.drew.drew
    exact h2.push ⟨by simp, rfl, fun _ => .inl rfl⟩

/-- copy into a typed row -/
def cpyG (z : Nat) (s t : Sl) (K : Int → Heap → Prop) (H : Heap) : Prop :=
  ∃ ys, rdsl H t ys ∧ ys.length = (Nat.min t.len s.len) * z ∧ (∀ u ∈ ys, u.oneCell' = true) ∧
    ((ys = [] ∧ K (Nat.min t.len s.len : Nat) H) ∨ (∃ p tt k c, s.p = some p ∧ s.x = none ∧ H p.1 = some (true, .trow tt k c) ∧ k ≤ p.2 ∧ p.2 + ys.length ≤ c.length ∧ K (Nat.min t.len s.len : Nat) (H.put p.1 (.trow tt k (splice c p.2 ys)))))
theorem GL.copyG {x y : Operand} {t t2 e : TypeId} {s s2 : Sl} {z : Nat} {K : Int → Heap → Prop} (h : cpyG z s s2 K H) (hw : Wt ops l g) (hd : Nat.blt d n = true)
    (hx : opv l x = some (slv s)) (hy : opv l y = some (slv s2)) (ht : P.underlying t = some (.slice e)) (hz : (P.info? e).map (·.size) = some z)
    (k : ∀ (r : Int) H', K r H' → GL P C ops Q n rest ((d, .int .i64 r) :: l) H') : GL P C ops Q n (⟨some d, .call { callee := .builtin .copy, args := #[x, y], argTypes := #[t, t2] }, ty, pos, after, g⟩ :: rest) l H := by
  obtain ⟨ys, h1, h2, h3, h4⟩ := h
  cases hinf : P.info? e with
  | none => rw [hinf] at hz; cases hz
  | some inf =>
    rw [hinf] at hz
    have hsz : inf.size = z := by simpa using hz
    refine GL.run (v := undef) hw hd fun a w hf hst => ?_
    have hc := firstCells_sl (P := P) hst h1 h2
    have hlen : (Builtin.lenOf (slv s2)).run P w = .ok s2.len w := by simp [Builtin.lenOf, slv]
    rcases h4 with ⟨h0, hk⟩ | ⟨p, tt, kk, c, hp, hx0, hb, hkk, hl, hk⟩
    · refine ⟨_, w, H, ?_, hst, k _ _ hk⟩
      subst h0
      have e1 : slv s = .slice s.ad s.len s.cap := rfl
      simp only [execOp, resolve, invoke, builtin, List.map_toArray, List.map_cons, List.map_nil, hf.ev hx, hf.ev hy]
      rw [e1]
      cases had : s.ad with
      | none => simp [Builtin.copy_, underlying, ht, hlen, Go.sizeOf, typeInfo, hinf, hsz, hc, goInt]
      | some a => simp [Builtin.copy_, underlying, ht, hlen, Go.sizeOf, typeInfo, hinf, hsz, hc, storeCells, goInt]
    · obtain ⟨w', hr, hs'⟩ := St.storesT (P := P) (C := C) (b := p.1) (o := p.2) ys 0 w H c hst hb (by omega) (by simpa using hl) h3
      refine ⟨_, w', _, ?_, by simpa using hs', k _ _ hk⟩
      have e1 : slv s = .slice (some ⟨p.1, p.2, none⟩) s.len s.cap := by unfold slv; rw [Sl.ad_some hx0 hp]; rfl
      simp only [execOp, resolve, invoke, builtin, List.map_toArray, List.map_cons, List.map_nil, hf.ev hx, hf.ev hy]
      rw [e1]
      simp [Builtin.copy_, underlying, ht, hlen, Go.sizeOf, typeInfo, hinf, hsz, hc, hr, goInt]
end
end Sx
