/-
  Arrays; results that lie in cells.
-/
import Derived.Test.YtlpjpjbgfffffaaDoorSxMore
set_option linter.unusedVariables false
set_option linter.unusedSimpArgs false
namespace Sx
open Go

section
variable {P : Program} {C : Ctx} {Q : Exit → Act → World → Prop} {n : Nat} {l : List (Nat × Value)} {H : Heap} {ops : Array Oper} {rest : List Oper} {d : Nat} {ty : TypeId} {pos : String} {after : Array Edge} {g : Option (Nat × Bool)}

/-- an array's element's place -/
def ixr (p : Nat × Nat) (n : Nat) (i : Int) (K : Prop) : Prop := 0 ≤ i ∧ i < n ∧ K
theorem OV.indexAddrA {x y : Operand} {t e : TypeId} {m : Nat} {p : Nat × Nat} {i : Int} {k0 : IntKind} {sz : Nat} (hx : opv l x = some (pv (some p))) (hy : opv l y = some (.int k0 i))
    (ht : P.underlying t = some (.array m e)) (he : (P.info? e).map (·.size) = some sz) (h0 : 0 ≤ i) (h1 : i < m) :
    OV P C n l H ⟨some d, .indexAddr t x y, ty, pos, after, g⟩ (pv (some (p.1, p.2 + i.toNat * sz))) := by
  cases hinf : P.info? e with
  | none => rw [hinf] at he; cases he
  | some inf =>
    rw [hinf] at he
    have hsz : inf.size = sz := by simpa using he
    intro ac w hf hs
    simp only [execOp, hf.ev hx, hf.ev hy, pv, Option.map_some, Instr.indexAt]
    simp [asIntOf, underlying, ht, Instr.sureAddr, h0, h1, Go.sizeOf, typeInfo, hinf, hsz, adv, Addr.add]

/-- a load of an array -/
def ldC (H : Heap) (m : Nat) (p : Nat × Nat) (K : List Value → Prop) : Prop := ∃ x : List Value, x.length = m ∧ rds H p x ∧ K x
/-- a store of an array -/
def stC (m : Nat) (p : Nat × Nat) (vs : List Value) (K : Heap → Prop) (H : Heap) : Prop := vs.length = m ∧ vs.all Value.oneCell' = true ∧ stT p vs K H

/-! results -/
theorem run_loadVar {t : TypeId} {p : Nat × Nat} {v : Value} {w : World} (ht : aggB P t = false) (hr : rd H p = some v) (hs : St C w H) : (loadVar t (adv p)).run P w = .ok v w := by
  have := hs.cell hr
  simp only [loadVar]
  simp only [bind_pure_comp, Sem.run_map, Sem.run_bind, Sem.run_pure, Result.andThen_ok, run_isAgg_false ht]
  simp [this]
theorem run_loadVarT {t : TypeId} {p : Nat × Nat} {cs : List Value} {w : World} (ht : aggT P t = true) (hi : (P.info? t).map (·.size) = some cs.length) (hr : rds H p cs) (hs : St C w H) : (loadVar t (adv p)).run P w = .ok (.agg cs.toArray) w := by
  cases hinf : P.info? t with
  | none => rw [hinf] at hi; cases hi
  | some inf =>
    rw [hinf] at hi
    have hsz : inf.size = cs.length := by simpa using hi
    simp only [loadVar]
    simp only [bind_pure_comp, Sem.run_map, Sem.run_bind, Sem.run_pure, Result.andThen_ok, run_isAgg_true ht]
    simp [Go.sizeOf, typeInfo, hinf, hs.loads (P := P) hr hsz]

/-- what a result reads as -/
def RV (P : Program) (C : Ctx) (l : List (Nat × Value)) (H : Heap) : ResultVar → Value → Prop
  | .tmp t, v => lk l t = some v
  | .cell a t, v => ∃ p, lk l a = some (pv (some p)) ∧ ∀ w, St C w H → (loadVar t (adv p)).run P w = .ok v w
theorem RV.tmp {t : Nat} {v : Value} (h : lk l t = some v) : RV P C l H (.tmp t) v := h
theorem RV.cell {a : Nat} {t : TypeId} {p : Nat × Nat} {v : Value} (h : lk l a = some (pv (some p))) (ht : aggB P t = false) (hr : rd H p = some v) : RV P C l H (.cell a t) v := ⟨p, h, fun w hs => run_loadVar ht hr hs⟩
theorem RV.cellT {a : Nat} {t : TypeId} {p : Nat × Nat} {cs : List Value} (h : lk l a = some (pv (some p))) (ht : aggT P t = true) (hi : (P.info? t).map (·.size) = some cs.length) (hr : rds H p cs) : RV P C l H (.cell a t) (.agg cs.toArray) := ⟨p, h, fun w hs => run_loadVarT ht hi hr hs⟩

theorem RV.run {r : ResultVar} {v : Value} {a : Act} {w : World} (h : RV P C l H r v) (hf : Fr n l a) (hs : St C w H) :
    (∃ t, r = .tmp t ∧ a.tmps[t]?.getD undef = v) ∨ (∃ x t p, r = .cell x t ∧ a.tmps[x]?.getD undef = pv (some p) ∧ (loadVar t (adv p)).run P w = .ok v w) := by
  cases r with
  | tmp t =>
    have := hf.get t v h
    exact .inl ⟨t, rfl, by rw [this]; rfl⟩
  | cell x t =>
    obtain ⟨p, h1, h2⟩ := h
    have := hf.get x _ h1
    exact .inr ⟨x, t, p, rfl, by rw [this]; rfl, h2 w hs⟩

theorem post_res1 {fn : Func} {Φ : Value → Heap → Prop} {r : ResultVar} {v : Value} {a : Act} {w : World} (hr : fn.results = #[r]) (h1 : RV P C l H r v) (hf : Fr n l a) (hw : St C w H) (h : Φ v H) : SpecPost P C fn Φ .ret a w := by
  refine bodyPost_ret (v := v) ?_ hf.defers ⟨v, H, rfl, hw, h⟩
  rcases h1.run hf hw with ⟨t, rfl, e⟩ | ⟨x, t, p, rfl, e, e2⟩
  · simp [results, hr, e]
  · simp [results, hr, e, pv, asAddr, e2]
theorem post_res2 {fn : Func} {Φ : Value → Heap → Prop} {r s : ResultVar} {x y : Value} {a : Act} {w : World} (hr : fn.results = #[r, s]) (h1 : RV P C l H r x) (h2 : RV P C l H s y) (hf : Fr n l a) (hw : St C w H) (h : Φ (.tuple #[x, y]) H) : SpecPost P C fn Φ .ret a w := by
  refine bodyPost_ret (v := .tuple #[x, y]) ?_ hf.defers ⟨_, H, rfl, hw, h⟩
  rcases h1.run hf hw with ⟨t, rfl, e⟩ | ⟨_, t, p, rfl, e, e2⟩ <;> rcases h2.run hf hw with ⟨t', rfl, e'⟩ | ⟨_, t', p', rfl, e', e2'⟩ <;>
    simp_all [results, pv, asAddr]
end
end Sx
