/-
  Operations that read or write memory, over the ghost heap; calls.
-/
import Derived.Test.YtlpjpjbgfffffaaDoorSxOps
set_option linter.unusedVariables false
namespace Sx
open Go

def splice (c : List Value) (o : Nat) (vs : List Value) : List Value := c.take o ++ vs ++ c.drop (o + vs.length)

theorem splice_nil (c : List Value) (o : Nat) : splice c o [] = c := by simp [splice]
theorem splice_length {c : List Value} {o : Nat} {vs : List Value} (h : o + vs.length ≤ c.length) : (splice c o vs).length = c.length := by simp [splice]; omega
theorem splice_cons {c : List Value} {o : Nat} {v : Value} {vs : List Value} (h : o + (vs.length + 1) ≤ c.length) : splice (c.set o v) (o + 1) vs = splice c o (v :: vs) := by
  unfold splice
  have h1 : (c.set o v).take (o + 1) = c.take o ++ [v] := by
    rw [List.take_succ_eq_append_getElem (by simp; omega)]
    simp [List.take_set_of_le]
  have h2 : (c.set o v).drop (o + 1 + vs.length) = c.drop (o + (vs.length + 1)) := by
    rw [List.drop_set_of_lt (by omega)]
    congr 1; omega
  rw [h1, h2]
  simp

def one (v : Value) : Bool := v.oneCell'

theorem St.setCellT {C : Ctx} {w : World} {H : Heap} (h : St C w H) {b o : Nat} {t : TypeId} {k : Nat} {c : List Value} {v : Value} (hb : H b = some (true, .trow t k c)) (ho : o < c.length) (hk : k ≤ o) :
    (∃ u, w.cell? ⟨b, o, none⟩ = some u) ∧ w.frozen? ⟨b, o, none⟩ = false ∧ St C (w.setCell ⟨b, o, none⟩ v) (H.put b (.trow t k (c.set o v))) := by
  obtain ⟨ob, hob, hrel⟩ := h.blk _ _ _ hb
  cases ob <;> simp only [GO.rel] at hrel
  rename_i c' t' fr
  obtain ⟨hc, ht, hfr⟩ := hrel
  subst hc
  subst ht
  refine ⟨⟨c[o], ?_⟩, ?_, ?_⟩
  · simp [World.cell?, hob, ho]
  · have := hfr trivial
    obtain ⟨lo, hi⟩ := fr
    simp only [World.frozen?, hob]
    simp only [] at this
    simp; omega
  · refine h.set hb (o' := .cells (c.set o v).toArray t' fr) ⟨rfl, rfl, ?_, ?_⟩ ⟨rfl, rfl, fun _ => by simpa using hfr trivial⟩
    · have : b < w.heap.size := (Array.getElem?_eq_some_iff.1 hob).1
      simp [World.setCell, Array.getElem?_modify, hob]
    · intro x hx
      simp [World.setCell, Array.getElem?_modify, Ne.symm hx]

theorem St.setCell {C : Ctx} {w : World} {H : Heap} (h : St C w H) {b o : Nat} {c : List Value} {v : Value} (hb : H b = some (true, .row c)) (ho : o < c.length) :
    (∃ u, w.cell? ⟨b, o, none⟩ = some u) ∧ w.frozen? ⟨b, o, none⟩ = false ∧ St C (w.setCell ⟨b, o, none⟩ v) (H.put b (.row (c.set o v))) := by
  obtain ⟨ob, hob, hrel⟩ := h.blk _ _ _ hb
  cases ob <;> simp only [GO.rel] at hrel
  rename_i c' t fr
  obtain ⟨hc, hfr⟩ := hrel
  subst hc
  refine ⟨⟨c[o], ?_⟩, ?_, ?_⟩
  · simp [World.cell?, hob, ho]
  · have := hfr trivial
    obtain ⟨lo, hi⟩ := fr
    simp only [World.frozen?, hob]
    simp only [] at this
    simp; omega
  · refine h.set hb (o' := .cells (c.set o v).toArray t fr) ⟨rfl, rfl, ?_, ?_⟩ ⟨rfl, fun _ => by simpa using hfr trivial⟩
    · have : b < w.heap.size := (Array.getElem?_eq_some_iff.1 hob).1
      simp [World.setCell, Array.getElem?_modify, hob]
    · intro x hx
      simp [World.setCell, Array.getElem?_modify, Ne.symm hx]

theorem St.stores {P : Program} {C : Ctx} {b o : Nat} : ∀ (vs : List Value) (i : Nat) (w : World) (H : Heap) (c : List Value), St C w H → H b = some (true, .row c) → o + i + vs.length ≤ c.length → (∀ v ∈ vs, v.oneCell' = true) →
    ∃ w', (storeCells ⟨b, o, none⟩ vs i).run P w = .ok () w' ∧ St C w' (H.put b (.row (splice c (o + i) vs)))
  | [], i, w, H, c, h, hb, hl, h1 => by
    refine ⟨w, rfl, ?_⟩
    rw [splice_nil]
    have : H.put b (.row c) = H := by
      funext x; by_cases hx : x = b
      · subst hx; rw [Heap.put_same, hb]
      · rw [Heap.put_ne _ _ _ hx]
    rw [this]; exact h
  | v :: vs, i, w, H, c, h, hb, hl, h1 => by
    simp only [List.length_cons] at hl
    obtain ⟨⟨u, hu⟩, hf, hst⟩ := h.setCell (v := v) hb (o := o + i) (by omega)
    have hadd : (⟨b, o, none⟩ : Addr).add i = ⟨b, o + i, none⟩ := adv_add (b, o) i
    obtain ⟨w', hr, hs'⟩ := St.stores (P := P) vs (i + 1) _ _ (c.set (o + i) v) hst (Heap.put_same ..) (show o + (i + 1) + vs.length ≤ (c.set (o + i) v).length by rw [List.length_set]; omega) (fun v' hv' => h1 v' (List.mem_cons_of_mem _ hv'))
    refine ⟨w', ?_, ?_⟩
    · simp only [storeCells, Sem.run_bind, hadd]
      rw [run_store P w _ v _ (h1 v (List.mem_cons_self ..))]
      simp only [hu, hf, Bool.false_eq_true, if_false, Result.andThen_ok]
      exact hr
    · have : (Heap.put (Heap.put H b (.row (c.set (o + i) v))) b (.row (splice (c.set (o + i) v) (o + (i + 1)) vs))) = H.put b (.row (splice c (o + i) (v :: vs))) := by
        funext x; by_cases hx : x = b
        · subst hx; rw [Heap.put_same, Heap.put_same, ← splice_cons (by omega)]; rfl
        · rw [Heap.put_ne _ _ _ hx, Heap.put_ne _ _ _ hx, Heap.put_ne _ _ _ hx]
      rw [← this]; exact hs'

theorem St.storesT {P : Program} {C : Ctx} {b o : Nat} {t : TypeId} {k : Nat} : ∀ (vs : List Value) (i : Nat) (w : World) (H : Heap) (c : List Value), St C w H → H b = some (true, .trow t k c) → k ≤ o + i → o + i + vs.length ≤ c.length → (∀ v ∈ vs, v.oneCell' = true) →
    ∃ w', (storeCells ⟨b, o, none⟩ vs i).run P w = .ok () w' ∧ St C w' (H.put b (.trow t k (splice c (o + i) vs)))
  | [], i, w, H, c, h, hb, hk, hl, h1 => by
    refine ⟨w, rfl, ?_⟩
    rw [splice_nil]
    have : H.put b (.trow t k c) = H := by
      funext x; by_cases hx : x = b
      · subst hx; rw [Heap.put_same, hb]
      · rw [Heap.put_ne _ _ _ hx]
    rw [this]; exact h
  | v :: vs, i, w, H, c, h, hb, hk, hl, h1 => by
    simp only [List.length_cons] at hl
    obtain ⟨⟨u, hu⟩, hf, hst⟩ := h.setCellT (v := v) hb (o := o + i) (by omega) hk
    have hadd : (⟨b, o, none⟩ : Addr).add i = ⟨b, o + i, none⟩ := adv_add (b, o) i
    obtain ⟨w', hr, hs'⟩ := St.storesT (P := P) vs (i + 1) _ _ (c.set (o + i) v) hst (Heap.put_same ..) (by omega) (show o + (i + 1) + vs.length ≤ (c.set (o + i) v).length by rw [List.length_set]; omega) (fun v' hv' => h1 v' (List.mem_cons_of_mem _ hv'))
    refine ⟨w', ?_, ?_⟩
    · simp only [storeCells, Sem.run_bind, hadd]
      rw [run_store P w _ v _ (h1 v (List.mem_cons_self ..))]
      simp only [hu, hf, Bool.false_eq_true, if_false, Result.andThen_ok]
      exact hr
    · have : (Heap.put (Heap.put H b (.trow t k (c.set (o + i) v))) b (.trow t k (splice (c.set (o + i) v) (o + (i + 1)) vs))) = H.put b (.trow t k (splice c (o + i) (v :: vs))) := by
        funext x; by_cases hx : x = b
        · subst hx; rw [Heap.put_same, Heap.put_same, ← splice_cons (by omega)]; rfl
        · rw [Heap.put_ne _ _ _ hx, Heap.put_ne _ _ _ hx, Heap.put_ne _ _ _ hx]
      rw [← this]; exact hs'

theorem rds_get {H : Heap} : ∀ {cs : List Value} {p : Nat × Nat}, rds H p cs → ∀ j v, cs[j]? = some v → rd H (p.1, p.2 + j) = some v
  | [], p, _, j, v, h => by simp at h
  | c :: cs, p, hr, 0, v, h => by simp at h; subst h; exact hr.1
  | c :: cs, p, hr, j + 1, v, h => by
    have := rds_get hr.2 j v (by simpa using h)
    rw [show p.2 + (j + 1) = p.2 + 1 + j by omega]; exact this

theorem rds_of {H : Heap} : ∀ {cs : List Value} {p : Nat × Nat}, (∀ j v, cs[j]? = some v → rd H (p.1, p.2 + j) = some v) → rds H p cs
  | [], p, _ => trivial
  | c :: cs, p, h => ⟨by simpa using h 0 c (by simp), rds_of (p := (p.1, p.2 + 1)) fun j v hj => by
      have := h (j + 1) v (by simpa using hj)
      rw [show p.2 + 1 + j = p.2 + (j + 1) by omega]; exact this⟩

theorem St.loads {P : Program} {C : Ctx} {w : World} {H : Heap} (h : St C w H) {p : Nat × Nat} {cs : List Value} (hr : rds H p cs) {n : Nat} (hn : n = cs.length) : (loadCells (adv p) n).run P w = .ok cs.toArray w := by
  subst hn
  refine run_loadCells_list w (adv p) cs fun j v hj => ?_
  rw [adv_add]; exact h.cell (rds_get hr j v hj)

/-- the first cells of a slice -/
def rdsl (H : Heap) (s : Sl) (cs : List Value) : Prop := cs = [] ∨ (s.x = none ∧ ∃ p, s.p = some p ∧ rds H p cs)

theorem Sl.ad_some {s : Sl} {p : Nat × Nat} (hx : s.x = none) (hp : s.p = some p) : s.ad = some (adv p) := by simp [Sl.ad, hp, hx, adv]

theorem St.loadsl {P : Program} {C : Ctx} {w : World} {H : Heap} (h : St C w H) {s : Sl} {cs : List Value} (hr : rdsl H s cs) {n : Nat} (hn : n = cs.length) {a : Addr} (ha : s.ad = some a) : (loadCells a n).run P w = .ok cs.toArray w := by
  rcases hr with rfl | ⟨hx, p, hp, hr⟩
  · subst hn; rfl
  · rw [Sl.ad_some hx hp] at ha
    injection ha with ha; subst ha
    exact h.loads hr hn

theorem rd_le {H H' : Heap} (h : H.le H') {p : Nat × Nat} {v : Value} (hr : rd H p = some v) : rd H' p = some v := by
  unfold rd at *
  split at hr
  · rename_i m c hb; rw [h _ _ hb]; exact hr
  · cases hr
theorem rds_le {H H' : Heap} (h : H.le H') : ∀ {cs : List Value} {p : Nat × Nat}, rds H p cs → rds H' p cs
  | [], _, _ => trivial
  | _ :: _, _, hr => ⟨rd_le h hr.1, rds_le h hr.2⟩
theorem rdsl_le {H H' : Heap} (h : H.le H') {s : Sl} {cs : List Value} (hr : rdsl H s cs) : rdsl H' s cs := by
  rcases hr with rfl | ⟨hx, p, hp, hr⟩
  · exact .inl rfl
  · exact .inr ⟨hx, p, hp, rds_le h hr⟩

section
variable {P : Program} {C : Ctx} {Q : Exit → Act → World → Prop} {n : Nat} {l : List (Nat × Value)} {H : Heap} {ops : Array Oper} {rest : List Oper} {d : Nat} {ty : TypeId} {pos : String} {after : Array Edge} {g : Option (Nat × Bool)}

def aggB (P : Program) (t : TypeId) : Bool :=
  match P.underlying t with
  | some (.struct _) | some (.array _ _) | none => true
  | some _ => false

theorem run_isAgg_false {t : TypeId} (h : aggB P t = false) (w : World) : (isAgg t).run P w = .ok false w := by
  unfold aggB at h
  split at h
  · cases h
  · cases h
  · cases h
  · rename_i d h1 h2 h3
    cases d <;> simp_all [isAgg, underlying]

def aggT (P : Program) (t : TypeId) : Bool :=
  match P.underlying t with
  | some (.struct _) | some (.array _ _) => true
  | _ => false

theorem run_isAgg_true {t : TypeId} (h : aggT P t = true) (w : World) : (isAgg t).run P w = .ok true w := by
  unfold aggT at h
  split at h
  · rename_i h1; simp [isAgg, underlying, h1]
  · rename_i h1; simp [isAgg, underlying, h1]
  · cases h

theorem OV.load {t : TypeId} {x : Operand} {p : Nat × Nat} {v : Value} (hx : opv l x = some (pv (some p))) (ht : aggB P t = false) (hr : rd H p = some v) : OV P C n l H ⟨some d, .load t x, ty, pos, after, g⟩ (v) :=
  (fun ac w hf hs => by
    have := hs.cell hr
    simp only [execOp, hf.ev hx, pv, Option.map_some, Instr.loadAt, Instr.sureAddr, loadVar]
    simp only [bind_pure_comp, Sem.run_map, Sem.run_bind, Sem.run_pure, Result.andThen_ok, run_isAgg_false ht]
    simp [this])

theorem OV.loadT {t : TypeId} {x : Operand} {p : Nat × Nat} {cs : List Value} (hx : opv l x = some (pv (some p))) (ht : aggT P t = true) (hi : (P.info? t).map (·.size) = some cs.length) (hr : rds H p cs) : OV P C n l H ⟨some d, .load t x, ty, pos, after, g⟩ (.agg cs.toArray) :=
  (fun ac w hf hs => by
    cases hinf : P.info? t with
    | none => rw [hinf] at hi; cases hi
    | some inf =>
      rw [hinf] at hi
      have hsz : inf.size = cs.length := by simpa using hi
      simp only [execOp, hf.ev hx, pv, Option.map_some, Instr.loadAt, Instr.sureAddr, loadVar]
      simp only [bind_pure_comp, Sem.run_map, Sem.run_bind, Sem.run_pure, Result.andThen_ok, run_isAgg_true ht]
      simp [Go.sizeOf, typeInfo, hinf, hs.loads (P := P) hr hsz])

/-! loads, by the kind of what is loaded -/
def ldI (H : Heap) (k : IntKind) (p : Nat × Nat) (K : Int → Prop) : Prop := ∃ x, rd H p = some (.int k x) ∧ K x
def ldB (H : Heap) (p : Nat × Nat) (K : Bool → Prop) : Prop := ∃ x, rd H p = some (.bool x) ∧ K x
def ldS (H : Heap) (p : Nat × Nat) (K : Str → Prop) : Prop := ∃ x, rd H p = some (sv x) ∧ K x
def ldP (H : Heap) (p : Nat × Nat) (K : Option (Nat × Nat) → Prop) : Prop := ∃ x, rd H p = some (pv x) ∧ K x
def ldL (H : Heap) (p : Nat × Nat) (K : Sl → Prop) : Prop := ∃ x, rd H p = some (slv x) ∧ K x
def ldM (H : Heap) (p : Nat × Nat) (K : Option Nat → Prop) : Prop := ∃ x, rd H p = some (mv x) ∧ K x
def ldV (H : Heap) (p : Nat × Nat) (K : Value → Prop) : Prop := ∃ x, rd H p = some x ∧ K x
def ldT {α : Type} (H : Heap) (c : α → List Value) (p : Nat × Nat) (K : α → Prop) : Prop := ∃ x, rds H p (c x) ∧ K x

/-- a store of one cell -/
def st (p : Nat × Nat) (v : Value) (K : Heap → Prop) (H : Heap) : Prop := ∃ c, H p.1 = some (true, .row c) ∧ p.2 < c.length ∧ K (H.put p.1 (.row (c.set p.2 v)))
/-- a store of several -/
def stT (p : Nat × Nat) (vs : List Value) (K : Heap → Prop) (H : Heap) : Prop := ∃ c, H p.1 = some (true, .row c) ∧ p.2 + vs.length ≤ c.length ∧ K (H.put p.1 (.row (splice c p.2 vs)))

theorem GL.run0 {op : Op} (hw : Wt ops l g)
    (hr : ∀ a w, Fr n l a → St C w H → ∃ w' H', (execOp a.eval ⟨none, op, ty, pos, after, g⟩).run P w = .ok .skip w' ∧ St C w' H' ∧ GL P C ops Q n rest l H') :
    GL P C ops Q n (⟨none, op, ty, pos, after, g⟩ :: rest) l H := by
  intro a w hf hs
  have hx := hw.wanted (o := ⟨none, op, ty, pos, after, g⟩) rfl hf
  obtain ⟨w', H', h1, h2, h3⟩ := hr a w hf hs
  simp only [wpList, hx, if_true]
  refine .inl ?_
  unfold Oper.wp
  rw [h1]
  exact h3 _ _ hf h2

theorem run_storeVar {t : TypeId} {w : World} {H : Heap} (hs : St C w H) {p : Nat × Nat} {v : Value} {vs : List Value} {c : List Value} (hv : v.cells = vs.toArray) (hi : (P.info? t).map (·.size) = some vs.length)
    (h1 : ∀ u ∈ vs, u.oneCell' = true) (hb : H p.1 = some (true, .row c)) (hl : p.2 + vs.length ≤ c.length) :
    ∃ w', (storeVar t (adv p) v).run P w = .ok () w' ∧ St C w' (H.put p.1 (.row (splice c p.2 vs))) := by
  cases hinf : P.info? t with
  | none => rw [hinf] at hi; cases hi
  | some inf =>
    rw [hinf] at hi
    have hsz : inf.size = vs.length := by simpa using hi
    obtain ⟨w', h2, h3⟩ := St.stores (P := P) (b := p.1) (o := p.2) vs 0 w H c hs hb (by simpa using hl) h1
    refine ⟨w', ?_, by simpa using h3⟩
    simp [storeVar, hv, Go.sizeOf, typeInfo, hinf, hsz]
    exact h2

theorem splice_one {c : List Value} {o : Nat} {v : Value} (h : o < c.length) : splice c o [v] = c.set o v := by
  rw [← splice_cons (by simp; omega), splice_nil]

theorem GL.store {t : TypeId} {x y : Operand} {p : Nat × Nat} {v : Value} {K : Heap → Prop} (h : st p v K H) (hw : Wt ops l g) (hx : opv l x = some (pv (some p))) (hy : opv l y = some v) (h1 : v.oneCell' = true)
    (hi : (P.info? t).map (·.size) = some 1) (k : ∀ H', K H' → GL P C ops Q n rest l H') : GL P C ops Q n (⟨none, .store t x y, ty, pos, after, g⟩ :: rest) l H := by
  obtain ⟨c, hb, hl, hk⟩ := h
  refine GL.run0 hw fun a w hf hs => ?_
  have hv : v.cells = [v].toArray := by cases v <;> simp_all [Value.cells, Value.oneCell']
  obtain ⟨w', h2, h3⟩ := run_storeVar (P := P) (t := t) hs (p := p) hv hi (by simpa using h1) hb (by simp; omega)
  rw [splice_one hl] at h3
  refine ⟨w', _, ?_, h3, k _ hk⟩
  simp only [execOp, hf.ev hx, hf.ev hy, pv, Option.map_some, Instr.storeAt, Instr.sureAddr]
  simp [h2]

theorem GL.storeT {t : TypeId} {x y : Operand} {p : Nat × Nat} {vs : List Value} {K : Heap → Prop} (h : stT p vs K H) (hw : Wt ops l g) (hx : opv l x = some (pv (some p))) (hy : opv l y = some (.agg vs.toArray)) (h1 : vs.all Value.oneCell' = true)
    (hi : (P.info? t).map (·.size) = some vs.length) (k : ∀ H', K H' → GL P C ops Q n rest l H') : GL P C ops Q n (⟨none, .store t x y, ty, pos, after, g⟩ :: rest) l H := by
  obtain ⟨c, hb, hl, hk⟩ := h
  refine GL.run0 hw fun a w hf hs => ?_
  obtain ⟨w', h2, h3⟩ := run_storeVar (P := P) (t := t) hs (p := p) (v := .agg vs.toArray) rfl hi (by simpa using h1) hb hl
  refine ⟨w', _, ?_, h3, k _ hk⟩
  simp only [execOp, hf.ev hx, hf.ev hy, pv, Option.map_some, Instr.storeAt, Instr.sureAddr]
  simp [h2]

/-- new memory -/
def nw (cs : List Value) (K : Nat → Heap → Prop) (H : Heap) : Prop := ∀ b, H b = none → K b (H.put b (.row cs))

theorem St.newRow {w : World} {H : Heap} (hs : St C w H) (e : TypeId) (cs : Array Value) : St C { w with heap := w.heap.push (.cells cs e) } (H.put w.heap.size (.row cs.toList)) :=
  hs.push ⟨by simp, fun _ => .inl rfl⟩

theorem GL.alloc {e : TypeId} {cs : List Value} {z : Value} {K : Nat → Heap → Prop} (h : nw cs K H) (hw : Wt ops l g) (hd : Nat.blt d n = true) (hz : (P.info? e).bind (·.zero) = some z) (hc : z.cells = cs.toArray)
    (k : ∀ b H', K b H' → GL P C ops Q n rest ((d, pv (some (b, 0))) :: l) H') : GL P C ops Q n (⟨some d, .alloc e, ty, pos, after, g⟩ :: rest) l H := by
  cases hinf : P.info? e with
  | none => rw [hinf] at hz; cases hz
  | some inf =>
    rw [hinf] at hz
    simp only [Option.bind_some] at hz
    refine GL.run (v := z) hw hd fun a w hf hs => ⟨pv (some (w.heap.size, 0)), _, _, ?_, hs.newRow e cs.toArray, k _ _ (by simpa using h _ hs.fresh)⟩
    simp only [execOp, Instr.alloc]
    simp [zeroValue, typeInfo, hinf, hz, newVar, Go.newRow, hc, pv, adv]

theorem GL.box {e : TypeId} {x : Operand} {v : Value} {cs : List Value} {K : Nat → Heap → Prop} (h : nw cs K H) (hw : Wt ops l g) (hd : Nat.blt d n = true) (hx : opv l x = some v) (hc : v.cells = cs.toArray)
    (k : ∀ b H', K b H' → GL P C ops Q n rest ((d, pv (some (b, 0))) :: l) H') : GL P C ops Q n (⟨some d, .box e x, ty, pos, after, g⟩ :: rest) l H := by
  refine GL.run (v := v) hw hd fun a w hf hs => ⟨pv (some (w.heap.size, 0)), _, _, ?_, hs.newRow e cs.toArray, k _ _ (by simpa using h _ hs.fresh)⟩
  simp only [execOp, hf.ev hx, Instr.box]
  simp [newVar, Go.newRow, hc, pv, adv]

/-- the run of a slice literal, given -/
def litRun (P : Program) (t : TypeId) (m : Nat) (vs : List (Nat × Value)) (cs : List Value) : Prop :=
  ∃ e, ∀ w, (Instr.buildSlice t m vs.toArray).run P w = .ok (.slice (some ⟨w.heap.size, 0, none⟩) m m) { w with heap := w.heap.push (.cells cs.toArray e) }

theorem GL.buildSlice {t : TypeId} {m : Nat} {ps : Array (Nat × Operand)} {vs : List (Nat × Value)} {cs : List Value} {K : Nat → Heap → Prop} (h : nw cs K H) (hw : Wt ops l g) (hd : Nat.blt d n = true) (hx : partVals l ps.toList = some vs)
    (hr : litRun P t m vs cs) (k : ∀ b H', K b H' → GL P C ops Q n rest ((d, slv (Sl.of (some (b, 0)) m m)) :: l) H') : GL P C ops Q n (⟨some d, .buildSlice t m ps, ty, pos, after, g⟩ :: rest) l H := by
  obtain ⟨e, hr⟩ := hr
  refine GL.run (v := undef) hw hd fun a w hf hs => ⟨slv (Sl.of (some (w.heap.size, 0)) m m), _, _, ?_, hs.newRow e cs.toArray, k _ _ (by simpa using h _ hs.fresh)⟩
  have h1 : ps.map (fun p => (p.1, a.eval p.2)) = vs.toArray := by apply Array.ext'; simp [hf.parts hx]
  simp only [execOp]
  rw [show (ps.map fun x => match x with | (i, x) => (i, a.eval x)) = ps.map (fun p => (p.1, a.eval p.2)) from rfl, h1]
  simp [hr, slv, Sl.ad]

/-! len, indexes, slices -/
theorem OV.lenStr {x : Operand} {t : TypeId} {s : Str} (hx : opv l x = some (sv s)) (ht : P.underlying t = some .string) : OV P C n l H ⟨some d, .call { callee := .builtin .len, args := #[x], argTypes := #[t] }, ty, pos, after, g⟩ (.int .i64 (s.length : Int)) :=
  (fun ac w hf hs => by
    have hsz : (⟨s.toArray⟩ : ByteArray).size = s.length := rfl
    simp only [execOp, resolve, invoke, builtin, List.map_toArray, List.map_cons, List.map_nil, hf.ev hx, sv]
    simp [Builtin.len_, underlying, ht, goInt, hsz])

theorem OV.lenSl {x : Operand} {t e : TypeId} {s : Sl} (hx : opv l x = some (slv s)) (ht : P.underlying t = some (.slice e)) : OV P C n l H ⟨some d, .call { callee := .builtin .len, args := #[x], argTypes := #[t] }, ty, pos, after, g⟩ (.int .i64 (s.len : Int)) :=
  (fun ac w hf hs => by
    simp only [execOp, resolve, invoke, builtin, List.map_toArray, List.map_cons, List.map_nil, hf.ev hx, slv]
    simp [Builtin.len_, underlying, ht, goInt])

/-- a slice's place -/
def ixa (s : Sl) (i : Int) (K : Nat × Nat → Prop) : Prop := ∃ p, s.p = some p ∧ s.x = none ∧ 0 ≤ i ∧ i < s.len ∧ K p

theorem OV.indexAddr {x y : Operand} {t e : TypeId} {s : Sl} {i : Int} {k0 : IntKind} {sz : Nat} {p : Nat × Nat} (hx : opv l x = some (slv s)) (hy : opv l y = some (.int k0 i))
    (ht : P.underlying t = some (.slice e)) (he : (P.info? e).map (·.size) = some sz) (hp : s.p = some p) (hx0 : s.x = none) (h0 : 0 ≤ i) (h1 : i < s.len) :
    OV P C n l H ⟨some d, .indexAddr t x y, ty, pos, after, g⟩ (pv (some (p.1, p.2 + i.toNat * sz))) := by
  cases hinf : P.info? e with
  | none => rw [hinf] at he; cases he
  | some inf =>
    rw [hinf] at he
    have hsz : inf.size = sz := by simpa using he
    intro ac w hf hs
    simp only [execOp, hf.ev hx, hf.ev hy, slv, Sl.ad_some hx0 hp, Instr.indexAt]
    simp [asIntOf, underlying, ht, h0, h1, Go.sizeOf, typeInfo, hinf, hsz, pv, adv_add]

/-- a string's byte -/
def ixs (s : Str) (i : Int) (K : UInt8 → Prop) : Prop := ∃ c : UInt8, 0 ≤ i ∧ s[i.toNat]? = some c ∧ K c

theorem OV.indexStr {x y : Operand} {t : TypeId} {s : Str} {i : Int} {k0 : IntKind} {c : UInt8} (hx : opv l x = some (sv s)) (hy : opv l y = some (.int k0 i))
    (ht : P.underlying t = some .string) (h0 : 0 ≤ i) (h1 : s[i.toNat]? = some c) : OV P C n l H ⟨some d, .index t x y, ty, pos, after, g⟩ (.int .u8 (c.toNat : Int)) := by
  intro ac w hf hs
  have h2 : (⟨s.toArray⟩ : ByteArray)[i.toNat]? = some c := by
    obtain ⟨hlt, he⟩ := List.getElem?_eq_some_iff.1 h1
    rw [getElem?_pos _ _ (by simpa [ByteArray.size] using hlt)]
    simp [ByteArray.getElem_eq_getElem_data, he]
  simp [execOp, hf.ev hx, hf.ev hy, sv, Instr.index, asIntOf, underlying, ht, h0, h2]

/-- s[lo:hi] of a string -/
def slS (s : Str) (lo hi : Int) (K : Str → Prop) : Prop := 0 ≤ lo ∧ lo ≤ hi ∧ hi ≤ s.length ∧ ∃ t, t = (s.take hi.toNat).drop lo.toNat ∧ K t

theorem extract_str (s : Str) (a b : Nat) : (⟨s.toArray⟩ : ByteArray).extract a b = ⟨((s.take b).drop a).toArray⟩ := by
  apply ByteArray.ext
  rw [ByteArray.data_extract]
  apply Array.ext'
  rw [Array.toList_extract, List.drop_take]

def optInt (l : List (Nat × Value)) : Option Operand → Option (Option (IntKind × Int))
  | none => some none
  | some x => match opv l x with | some (.int k i) => some (some (k, i)) | _ => none

theorem Fr.optInt {a : Act} (h : Fr n l a) {x : Option Operand} {r : Option (IntKind × Int)} (hx : Sx.optInt l x = some r) : x.map a.eval = r.map fun p => Value.int p.1 p.2 := by
  cases x with
  | none => simp [Sx.optInt] at hx; subst hx; rfl
  | some x =>
    simp only [Sx.optInt] at hx
    split at hx
    · rename_i k i h1
      injection hx with hx; subst hx
      simp [h.ev h1]
    · cases hx

theorem OV.sliceStr {x : Operand} {lo hi : Option Operand} {t : TypeId} {s : Str} {rlo rhi : Option (IntKind × Int)} {a b : Int} (h0 : 0 ≤ a) (h1 : a ≤ b) (h2 : b ≤ s.length) {t' : Str} (ht' : t' = (s.take b.toNat).drop a.toNat) (hx : opv l x = some (sv s))
    (hlo : Sx.optInt l lo = some rlo) (hhi : Sx.optInt l hi = some rhi) (ha : a = (rlo.map fun p => p.2).getD 0) (hb : b = (rhi.map fun p => p.2).getD (s.length : Int))
    (ht : P.underlying t = some .string) : OV P C n l H ⟨some d, .slice t x lo hi none, ty, pos, after, g⟩ (sv t') := by
  subst ht'
  intro ac w hf hs
  simp only [execOp, hf.ev hx, hf.optInt hlo, hf.optInt hhi, Option.map_none, Instr.sliceAt, sv]
  have hsz : (⟨s.toArray⟩ : ByteArray).size = s.length := by simp [ByteArray.size]
  rcases rlo with _ | ⟨kl, il⟩ <;> rcases rhi with _ | ⟨kh, ih⟩ <;> simp only [Option.map_none, Option.map_some, Option.getD_none, Option.getD_some] at ha hb <;> subst ha <;> subst hb
  · simp [underlying, ht, Instr.slice, Instr.sliceBounds]
  · have hb1 := run_sliceBound (P := P) w kh b s.length .sliceAlen h1 h2
    simp [underlying, ht, Instr.slice, Instr.sliceBounds, hb1, hsz, extract_str]
  · have hb1 := run_sliceBound (P := P) w kl a s.length .sliceB h0 h1
    simp [underlying, ht, Instr.slice, Instr.sliceBounds, hb1, hsz, extract_str]
  · have hb1 := run_sliceBound (P := P) w kh b s.length .sliceAlen (by omega) h2
    have hb2 := run_sliceBound (P := P) w kl a b.toNat .sliceB h0 (by omega)
    simp [underlying, ht, Instr.slice, Instr.sliceBounds, hb1, hb2, hsz, extract_str]

/-- s[lo:hi:max] of a slice -/
def slL (s : Sl) (lo hi mx : Int) (sz : Nat) (K : Sl → Prop) : Prop :=
  0 ≤ lo ∧ lo ≤ hi ∧ hi ≤ mx ∧ mx ≤ s.cap ∧ ∃ t, t = ⟨if mx = lo then s.p else s.p.map (fun p => (p.1, p.2 + lo.toNat * sz)), (hi - lo).toNat, (mx - lo).toNat, if mx = lo ∨ lo.toNat * sz = 0 then s.x else none⟩ ∧ K t

theorem OV.sliceSl {x : Operand} {lo hi mx : Option Operand} {t e : TypeId} {s : Sl} {sz : Nat} {rlo rhi rmx : Option (IntKind × Int)} {a b c : Int} (h0 : 0 ≤ a) (h1 : a ≤ b) (h2 : b ≤ c) (h3 : c ≤ s.cap) {t' : Sl} (ht' : t' = ⟨if c = a then s.p else s.p.map (fun p => (p.1, p.2 + a.toNat * sz)), (b - a).toNat, (c - a).toNat, if c = a ∨ a.toNat * sz = 0 then s.x else none⟩)
    (hx : opv l x = some (slv s)) (hlo : Sx.optInt l lo = some rlo) (hhi : Sx.optInt l hi = some rhi) (hmx : Sx.optInt l mx = some rmx) (ha : a = (rlo.map fun p => p.2).getD 0) (hb : b = (rhi.map fun p => p.2).getD (s.len : Int)) (hc : c = (rmx.map fun p => p.2).getD (s.cap : Int))
    (hno : rmx.isSome = true → rhi.isSome = true)
    (ht : P.underlying t = some (.slice e)) (he : (P.info? e).map (·.size) = some sz) : OV P C n l H ⟨some d, .slice t x lo hi mx, ty, pos, after, g⟩ (slv t') := by
  subst ht'
  cases hinf : P.info? e with
  | none => rw [hinf] at he; cases he
  | some inf =>
    rw [hinf] at he
    have hsz : inf.size = sz := by simpa using he
    intro ac w hf hs
    simp only [execOp, hf.ev hx, hf.optInt hlo, hf.optInt hhi, hf.optInt hmx, Instr.sliceAt, slv]
    have hbounds : (Instr.sliceBounds true s.len s.cap (rlo.map fun p => Value.int p.1 p.2) (rhi.map fun p => Value.int p.1 p.2) (rmx.map fun p => Value.int p.1 p.2)).run P w = .ok (a.toNat, b.toNat, c.toNat) w := by
      have b0 : 0 ≤ b := by omega
      have c0 : 0 ≤ c := by omega
      have e1 : b ≤ (c.toNat : Int) := by omega
      have e2 : a ≤ (b.toNat : Int) := by omega
      rcases rlo with _ | ⟨kl, il⟩ <;> rcases rhi with _ | ⟨kh, ih⟩ <;> rcases rmx with _ | ⟨km, im⟩ <;> simp only [Option.map_none, Option.map_some, Option.getD_none, Option.getD_some] at ha hb hc <;> simp only [Option.isSome_some, Option.isSome_none, forall_const, Bool.false_eq_true] at hno <;> subst ha <;> subst hb <;> subst hc
      all_goals simp_all [Instr.sliceBounds, Instr.sliceBound, asIntOf]
      all_goals (try omega)
      all_goals (rw [if_pos (by omega)]; simp; try (rw [if_pos (by omega)]; simp))
    have e3 : (c.toNat = a.toNat) ↔ c = a := by omega
    have e4 : b.toNat - a.toNat = (b - a).toNat := by omega
    have e5 : c.toNat - a.toNat = (c - a).toNat := by omega
    simp only [Sem.run_bind, underlying, run_program, ht, Sem.run_pure, Result.andThen_ok, Instr.slice, hbounds]
    simp [Go.sizeOf, typeInfo, hinf, hsz, e3, e4, e5]
    simp only [Sl.ad]
    by_cases hca : c = a
    · simp [hca]
    · cases hp : s.p with
      | none => simp [hca]
      | some p =>
        by_cases hz : a.toNat * sz = 0
        · simp [hca, hz, Addr.add]
        · simp [hca, hz, Addr.add]

/-! calls -/
structure CallOk (P : Program) (f : FuncId) : Prop where
  ok : ∃ fn, P.funcs[f]? = some fn ∧ fn.body.isSome = true ∧ (fn.name == "runtime.NumGoroutine") = false

theorem run_callFunc {f : FuncId} (h : CallOk P f) (args : Array Value) (w : World) : (callFunc f args).run P w = .ok (.enter f args) w := by
  obtain ⟨fn, h1, h2, h3⟩ := h.ok
  have h4 : fn.body.isNone = false := by cases hb : fn.body <;> simp_all
  simp only [callFunc, Sem.run_bind, run_program, Result.andThen_ok, h1, h3, h4, Bool.false_eq_true, if_false]
  rfl

theorem GL.callWp {o : Oper} {f : FuncId} {vs : List Value} {Φ : Value → Heap → Prop} (hc : Spec P C f vs H Φ) (hdo : o.dst = some d) (hw : Wt ops l g) (hg : o.guard = g) (hd : Nat.blt d n = true)
    (hrun : ∀ a w, Fr n l a → (execOp a.eval o).run P w = .ok (.enter f vs.toArray) w)
    (k : ∀ v H', Φ v H' → GL P C ops Q n rest ((d, v) :: l) H') : GL P C ops Q n (o :: rest) l H := by
  intro a w hf hs
  have hx := hw.wanted (o := o) hg hf
  simp only [wpList, hx, if_true]
  refine .inl ?_
  unfold Oper.wp
  rw [hrun a w hf]
  refine (hc w hs).mono fun e w' he => ?_
  obtain ⟨v, H', rfl, h2, h3⟩ := he
  simp only [hdo]
  exact k v H' h3 _ _ (hf.put hd) h2

/-- a call of a function by its name -/
theorem GL.call {f : FuncId} {xs : Array Operand} {ats : Array TypeId} {vs : List Value} {Φ : Value → Heap → Prop} (hc : Spec P C f vs H Φ) (hw : Wt ops l g) (hd : Nat.blt d n = true) (hok : CallOk P f) (hx : opvs l xs.toList = some vs)
    (k : ∀ v H', Φ v H' → GL P C ops Q n rest ((d, v) :: l) H') : GL P C ops Q n (⟨some d, .call { callee := .value (.func f), args := xs, argTypes := ats }, ty, pos, after, g⟩ :: rest) l H :=
  GL.callWp hc rfl hw rfl hd (fun a w hf => by
    have h1 : xs.map a.eval = vs.toArray := by apply Array.ext'; simp [hf.evs hx]
    simp [execOp, resolve, invoke, Deferred.ofValue, Act.eval, h1, run_callFunc hok]) k

/-- a call of a function value -/
theorem GL.callV {f : FuncId} {x : Operand} {fs cs : List Value} {xs : Array Operand} {ats : Array TypeId} {vs : List Value} {Φ : Value → Heap → Prop} (hc : Spec P C f (fs ++ vs ++ cs) H Φ) (hw : Wt ops l g) (hd : Nat.blt d n = true) (hok : CallOk P f)
    (hfx : opv l x = some (.func (.func f) fs.toArray cs.toArray)) (hx : opvs l xs.toList = some vs)
    (k : ∀ v H', Φ v H' → GL P C ops Q n rest ((d, v) :: l) H') : GL P C ops Q n (⟨some d, .call { callee := .value x, args := xs, argTypes := ats }, ty, pos, after, g⟩ :: rest) l H :=
  GL.callWp hc rfl hw rfl hd (fun a w hf => by
    have h1 : xs.map a.eval = vs.toArray := by apply Array.ext'; simp [hf.evs hx]
    simp [execOp, resolve, invoke, Deferred.ofValue, hf.ev hfx, h1, run_callFunc hok]) k

/-! text and bytes -/
def bytesV (s : Str) : List Value := s.map fun b => .int .u8 (b.toNat : Int)

/-- string(b) -/
def b2s (b : Sl) (K : Str → Prop) (H : Heap) : Prop := ∃ s : Str, s.length = b.len ∧ rdsl H b (bytesV s) ∧ K s

theorem OV.b2s {x : Operand} {src dst e : TypeId} {b : Sl} {s : Str} (hl : s.length = b.len) (hr : rdsl H b (bytesV s)) (hx : opv l x = some (slv b)) (hs : P.underlying src = some (.slice e)) (he : P.underlying e = some (.int .u8)) (ht : P.underlying dst = some .string) :
    OV P C n l H ⟨some d, .convert src dst x, ty, pos, after, g⟩ (sv s) := by
  intro ac w hf hst
  simp only [execOp, hf.ev hx, slv]
  rcases hr with hr | ⟨hx0, p, hp, hr⟩
  · have : s = [] := by simpa [bytesV] using hr
    subst this
    have hl0 : b.len = 0 := by simpa using hl.symm
    have h2 := run_convert_bytes_string (P := P) w src dst e b.ad b.len b.cap hs he ht
    rw [hl0] at h2 ⊢
    simp only [bind_pure_comp, Sem.run_map, h2]
    cases b.ad with
    | none => simp [Conv.bytesToString, sv]; rfl
    | some a => simp [Conv.bytesToString, sv, loadCells, loadCellsFrom]; rfl
  · rw [Sl.ad_some hx0 hp]
    have h2 := run_convert_bytes_back (P := P) w src dst e (adv p) b.cap s hs he ht (fun j hj => by
      rw [adv_add]
      exact hst.cell (rds_get hr j _ (by simp [bytesV, hj])))
    rw [hl] at h2
    simp only [bind_pure_comp, Sem.run_map, h2]
    rfl

/-- []byte(s) -/
def s2b (s : Str) (K : Sl → Heap → Prop) (H : Heap) : Prop := ∀ b cap, H b = none → s.length ≤ cap → K (Sl.of (some (b, 0)) s.length cap) (H.put b (.row (bytesV s ++ List.replicate (cap - s.length) (Value.int .u8 0))))

theorem GL.s2b {x : Operand} {src dst e : TypeId} {s : Str} {K : Sl → Heap → Prop} (h : Sx.s2b s K H) (hw : Wt ops l g) (hd : Nat.blt d n = true) (hx : opv l x = some (sv s)) (hs : P.underlying src = some .string) (ht : P.underlying dst = some (.slice e)) (he : P.underlying e = some (.int .u8))
    (k : ∀ r H', K r H' → GL P C ops Q n rest ((d, slv r) :: l) H') : GL P C ops Q n (⟨some d, .convert src dst x, ty, pos, after, g⟩ :: rest) l H := by
  refine GL.run (v := undef) hw hd fun a w hf hst => ?_
  have h2 := run_bytes_of_string (P := P) w src dst e ⟨s.toArray⟩ hs ht he
  have hsz : (⟨s.toArray⟩ : ByteArray).size = s.length := by simp [ByteArray.size]
  rw [hsz] at h2
  have hrow : bytesRow ⟨s.toArray⟩ (grownCap w s.length 0 e) = (bytesV s ++ List.replicate (grownCap w s.length 0 e - s.length) (Value.int .u8 0)).toArray := by
    apply Array.ext'; simp [bytesRow, bytesV, hsz]
  refine ⟨slv (Sl.of (some (w.heap.size, 0)) s.length (grownCap w s.length 0 e)), w.drew.alloc (.cells (bytesRow ⟨s.toArray⟩ (grownCap w s.length 0 e)) e ((bytesRow ⟨s.toArray⟩ (grownCap w s.length 0 e)).size, (bytesRow ⟨s.toArray⟩ (grownCap w s.length 0 e)).size + 1)),
    _, ?_, ?_, k _ _ (h w.heap.size (grownCap w s.length 0 e) hst.fresh (grownCap_ge ..))⟩
  · simp only [execOp, hf.ev hx, sv, bind_pure_comp, Sem.run_map, h2]
    rfl
  · have h3 : St C w.drew H := hst.drew
    exact h3.push ⟨hrow, fun _ => .inr (by rw [hrow]; simp)⟩

theorem St.freeze {w : World} {H : Heap} (h : St C w H) {b : Nat} {c : List Value} (hb : H b = some (true, .row c)) : St C (w.freeze ⟨b, c.length, none⟩ 1) H := by
  obtain ⟨ob, hob, hrel⟩ := h.blk _ _ _ hb
  cases ob <;> simp only [GO.rel] at hrel
  rename_i c' t fr
  obtain ⟨hc, hfr⟩ := hrel
  subst hc
  have hlt : b < w.heap.size := (Array.getElem?_eq_some_iff.1 hob).1
  have hput : H.put b (.row c) = H := by
    funext x; by_cases hx : x = b
    · subst hx; rw [Heap.put_same, hb]
    · rw [Heap.put_ne _ _ _ hx]
  rw [← hput]
  obtain ⟨lo, hi⟩ := fr
  refine h.set hb (o' := .cells c.toArray t (if lo == hi then (c.length, c.length + 1) else (min lo c.length, max hi (c.length + 1)))) ⟨rfl, rfl, ?_, ?_⟩ ⟨rfl, fun _ => ?_⟩
  · simp [World.freeze, Array.getElem?_modify, hob]
  · intro x hx
    simp [World.freeze, Array.getElem?_modify, Ne.symm hx]
  · have := hfr trivial
    simp only [] at this
    by_cases h1 : lo = hi
    · simp [h1]
    · simp [h1]; omega

/-- []byte of a []byte that the call made: a mark of the run-time's -/
def cvB (s : Sl) (K : Prop) (H : Heap) : Prop := ∃ p c, s.p = some p ∧ s.x = none ∧ H p.1 = some (true, .row c) ∧ K

theorem GL.cvB {x : Operand} {t e : TypeId} {s : Sl} {K : Prop} (h : Sx.cvB s K H) (hw : Wt ops l g) (hd : Nat.blt d n = true) (hx : opv l x = some (slv s)) (ht : P.underlying t = some (.slice e)) (he : P.underlying e = some (.int .u8))
    (k : K → GL P C ops Q n rest ((d, slv s) :: l) H) : GL P C ops Q n (⟨some d, .convert t t x, ty, pos, after, g⟩ :: rest) l H := by
  obtain ⟨p, c, hp, hx0, hb, hk⟩ := h
  refine GL.run (v := undef) hw hd fun a w hf hst => ?_
  refine ⟨slv s, w.freeze ⟨p.1, c.length, none⟩ 1, H, ?_, hst.freeze hb, k hk⟩
  obtain ⟨ob, hob, hrel⟩ := hst.blk _ _ _ hb
  cases ob <;> simp only [GO.rel] at hrel
  rename_i c' t' fr
  obtain ⟨hc, hfr⟩ := hrel
  subst hc
  have hsh : w.shape? p.1 = some (t', c.length) := by simp [World.shape?, hob]
  simp only [execOp, hf.ev hx, slv, Sl.ad_some hx0 hp]
  simp [convert, underlying, ht, he, markStringish, adv, hsh]
end
end Sx
