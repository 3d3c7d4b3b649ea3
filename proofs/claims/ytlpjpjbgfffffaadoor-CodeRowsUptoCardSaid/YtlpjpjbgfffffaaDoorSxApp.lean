/-
  append over the ghost heap.
-/
import Derived.Test.YtlpjpjbgfffffaaDoorSxMem
set_option linter.unusedVariables false
namespace Sx
open Go

def zeros (zc : List Value) : Nat → List Value
  | 0 => []
  | k + 1 => zc ++ zeros zc k

theorem zeros_length (zc : List Value) : ∀ k, (zeros zc k).length = k * zc.length
  | 0 => by simp [zeros]
  | k + 1 => by simp [zeros, zeros_length zc k]; rw [Nat.add_mul]; omega

theorem zeros_get (zc : List Value) : ∀ (k i : Nat), i < k * zc.length → (zeros zc k)[i]? = zc[i % zc.length]?
  | 0, i, h => by omega
  | k + 1, i, h => by
    rw [Nat.add_mul] at h
    simp only [zeros]
    by_cases hi : i < zc.length
    · rw [List.getElem?_append_left hi, Nat.mod_eq_of_lt hi]
    · rw [List.getElem?_append_right (by omega), zeros_get zc k (i - zc.length) (by omega)]
      congr 1
      rw [Nat.mod_eq_sub_mod (a := i) (by omega)]

theorem zeroCells_eq (zc : List Value) (k : Nat) : Builtin.zeroCells zc.toArray k = (zeros zc k).toArray := by
  apply Array.ext'
  apply List.ext_getElem?
  intro i
  simp only [Builtin.zeroCells, List.size_toArray, Array.toList_map, Array.toList_range, List.getElem?_map]
  by_cases hi : i < k * zc.length
  · have hz := zeros_get zc k i hi
    have hpos : 0 < zc.length := by
      rcases Nat.eq_zero_or_pos zc.length with h | h
      · rw [h] at hi; omega
      · exact h
    have hm : i % zc.length < zc.length := Nat.mod_lt _ hpos
    simp [hi, hz, hm]
  · have h1 : (zeros zc k)[i]? = none := by rw [List.getElem?_eq_none]; rw [zeros_length]; omega
    simp [hi, h1]

/-- append of m elements, whose cells are ys, to s; an element has sz cells and 'bytes' bytes; zc: the zero element's cells -/
def apd (zc : List Value) (bytes : Nat) (s : Sl) (ys : List Value) (m : Nat) (K : Sl → Heap → Prop) (H : Heap) : Prop :=
  ∃ xs, rdsl H s xs ∧ xs.length = s.len * zc.length ∧ ys.length = m * zc.length ∧ (s.len + m) * bytes ≤ 140737488355328 ∧ s.len + m ≤ 9223372036854775807 ∧
    (s.len + m ≤ s.cap → (ys = [] ∧ K ⟨s.p, s.len + m, s.cap, s.x⟩ H) ∨
      (∃ p c, s.p = some p ∧ s.x = none ∧ H p.1 = some (true, .row c) ∧ p.2 + s.len * zc.length + ys.length ≤ c.length ∧ K ⟨s.p, s.len + m, s.cap, s.x⟩ (H.put p.1 (.row (splice c (p.2 + s.len * zc.length) ys))))) ∧
    (s.cap < s.len + m → ∀ b cap, H b = none → s.len + m ≤ cap → K (Sl.of (some (b, 0)) (s.len + m) cap) (H.put b (.row (xs ++ ys ++ zeros zc (cap - (s.len + m))))))

/-- the cells of what is appended -/
structure Src (P : Program) (C : Ctx) (H : Heap) (x : Value) (sz : Nat) (ys : List Value) (m : Nat) : Prop where
  len : ∀ w, (Builtin.lenOf x).run P w = .ok m w
  cells : ∀ w, St C w H → (Builtin.firstCells sz m x).run P w = .ok ys.toArray w

theorem Src.slice {P : Program} {C : Ctx} {H : Heap} {t : Sl} {sz : Nat} {ys : List Value} (hr : rdsl H t ys) (hl : ys.length = t.len * sz) : Src P C H (slv t) sz ys t.len := by
  refine ⟨fun w => by simp [Builtin.lenOf, slv], fun w hs => ?_⟩
  simp only [Builtin.firstCells, slv]
  cases ha : t.ad with
  | none =>
    rcases hr with rfl | ⟨hx, p, hp, hr⟩
    · rfl
    · rw [Sl.ad_some hx hp] at ha; cases ha
  | some a => exact hs.loadsl hr hl.symm ha

theorem Src.str {P : Program} {C : Ctx} {H : Heap} {s : Str} : Src P C H (sv s) 1 (bytesV s) s.length := by
  refine ⟨fun w => by simp [Builtin.lenOf, sv, ByteArray.size], fun w hs => ?_⟩
  simp only [Builtin.firstCells, sv, Sem.run_pure]
  congr 1
  rw [extract_str]
  simp [bytesV]

section
variable {P : Program} {C : Ctx} {Q : Exit → Act → World → Prop} {n : Nat} {l : List (Nat × Value)} {H : Heap} {ops : Array Oper} {rest : List Oper} {d : Nat} {ty : TypeId} {pos : String} {after : Array Edge} {g : Option (Nat × Bool)}

/-- the element type's row -/
structure Elem (P : Program) (t : TypeId) (zc : List Value) (bytes : Nat) : Prop where
  ok : ∃ e i z, P.underlying t = some (.slice e) ∧ P.info? e = some i ∧ i.size = zc.length ∧ i.bytes = bytes ∧ i.zero = some z ∧ z.cells = zc.toArray

theorem run_append {t t2 : TypeId} {s : Sl} {x : Value} {ys : List Value} {m : Nat} {zc : List Value} {bytes : Nat} {K : Sl → Heap → Prop} {w : World}
    (h : apd zc bytes s ys m K H) (hs : St C w H) (he : Elem P t zc bytes) (h2 : ∃ u, P.underlying t2 = some u ∧ ∀ k, u ≠ .int k) (hx : Src P C H x zc.length ys m) (h1 : ∀ u ∈ ys, u.oneCell' = true) :
    ∃ r w' H', (Builtin.append_ #[t, t2] ty #[slv s, x]).run P w = .ok (slv r) w' ∧ St C w' H' ∧ K r H' := by
  obtain ⟨e, i, z, hu, hi, hsz, hby, hz, hzc⟩ := he.ok
  obtain ⟨u2, hu2, hne⟩ := h2
  obtain ⟨xs, hxr, hxl, hyl, hb, h63, hfit, hgrow⟩ := h
  by_cases hle : s.len + m ≤ s.cap
  · rcases hfit hle with ⟨hy0, hk⟩ | ⟨p, c, hp, hx0, hc, hlen, hk⟩
    · subst hy0
      refine ⟨_, w, H, ?_, hs, hk⟩
      have hc0 := hx.cells w hs
      have hs2 : slv ⟨s.p, s.len + m, s.cap, s.x⟩ = .slice s.ad (s.len + m) s.cap := rfl
      rw [hs2]
      cases hp : s.ad with
      | none =>
        simp [Builtin.append_, underlying, hu, hu2, Go.sizeOf, typeInfo, hi, slv, hp, hx.len w, hle, hsz, hc0]
      | some p =>
        simp [Builtin.append_, underlying, hu, hu2, Go.sizeOf, typeInfo, hi, slv, hp, hx.len w, hle, hsz, hc0, storeCells]
    · have hc0 := hx.cells w hs
      obtain ⟨w', hst, hs'⟩ := St.stores (P := P) (C := C) (b := p.1) (o := p.2 + s.len * zc.length) ys 0 w H c hs hc (by omega) h1
      refine ⟨_, w', _, ?_, hs', hk⟩
      have ha : (adv p).add (s.len * zc.length) = ⟨p.1, p.2 + s.len * zc.length, none⟩ := adv_add p _
      have hs2 : slv ⟨s.p, s.len + m, s.cap, s.x⟩ = .slice s.ad (s.len + m) s.cap := rfl
      rw [hs2]
      simp [Builtin.append_, underlying, hu, hu2, Go.sizeOf, typeInfo, hi, slv, Sl.ad_some hx0 hp, hx.len w, hle, hsz, hc0, ha, hst]
  · have hgt : s.cap < s.len + m := by omega
    have hd : St C w.drew H := hs.drew
    have hc0 := hx.cells w.drew hd
    have h63' : ¬ (9223372036854775807 < ((s.len : Int) + (m : Int))) := by omega
    have h48' : ¬ (281474976710656 < Builtin.nextslicecap (s.len + m) s.cap * bytes) := by have := growslice_fits (bytes := bytes) hgt hb; omega
    have hold : (Builtin.firstCells zc.length s.len (slv s)).run P w.drew = .ok xs.toArray w.drew := (Src.slice (P := P) (C := C) hxr hxl).cells w.drew hd
    have hcap := grownCap_ge w (s.len + m) s.cap e
    have hrow : xs.toArray ++ ys.toArray ++ Builtin.zeroCells z.cells (grownCap w (s.len + m) s.cap e - (s.len + m)) = (xs ++ ys ++ zeros zc (grownCap w (s.len + m) s.cap e - (s.len + m))).toArray := by
      rw [hzc, zeroCells_eq]; simp
    refine ⟨Sl.of (some (w.heap.size, 0)) (s.len + m) (grownCap w (s.len + m) s.cap e), w.drew.alloc (.cells (xs ++ ys ++ zeros zc (grownCap w (s.len + m) s.cap e - (s.len + m))).toArray e), _, ?_, ?_, hgrow hgt w.heap.size (grownCap w (s.len + m) s.cap e) hs.fresh hcap⟩
    · rw [← hrow]
      have hs2 : slv s = .slice s.ad s.len s.cap := rfl
      have hs3 : ∀ a c : Nat, slv (Sl.of (some (w.heap.size, 0)) a c) = .slice (some ⟨w.heap.size, 0, none⟩) a c := fun _ _ => rfl
      rw [hs3]
      rw [hs2] at hold ⊢
      simp [Builtin.append_, underlying, hu, hu2, Go.sizeOf, typeInfo, zeroValue, hi, hz, hby, hsz, hx.len w, hle, h63', h48', Question.forced, hc0, hold, Go.newRow, grownCap]
      refine congrArg (fun a : Array Value => w.drew.alloc (.cells a e)) ?_
      apply Array.ext'
      simp
    · exact hd.push ⟨rfl, fun _ => .inl rfl⟩

theorem GL.append {x y : Operand} {t t2 : TypeId} {s : Sl} {yv : Value} {ys : List Value} {m : Nat} {zc : List Value} {bytes : Nat} {K : Sl → Heap → Prop} (h : apd zc bytes s ys m K H) (hw : Wt ops l g) (hd : Nat.blt d n = true)
    (hx : opv l x = some (slv s)) (hy : opv l y = some yv) (he : Elem P t zc bytes) (h2 : ∃ u, P.underlying t2 = some u ∧ ∀ k, u ≠ .int k) (hsrc : Src P C H yv zc.length ys m) (h1 : ∀ u ∈ ys, u.oneCell' = true)
    (k : ∀ r H', K r H' → GL P C ops Q n rest ((d, slv r) :: l) H') : GL P C ops Q n (⟨some d, .call { callee := .builtin .append, args := #[x, y], argTypes := #[t, t2] }, ty, pos, after, g⟩ :: rest) l H := by
  refine GL.run (v := undef) hw hd fun a w hf hst => ?_
  obtain ⟨r, w', H', hr, hs', hk⟩ := run_append (P := P) (ty := ty) h hst he h2 hsrc h1
  refine ⟨slv r, w', H', ?_, hs', k _ _ hk⟩
  simp only [execOp, resolve, invoke, builtin, List.map_toArray, List.map_cons, List.map_nil, hf.ev hx, hf.ev hy]
  simp [hr]

/-- append of a slice -/
def apS (zc : List Value) (bytes : Nat) (s t : Sl) (K : Sl → Heap → Prop) (H : Heap) : Prop :=
  ∃ ys, rdsl H t ys ∧ (∀ u ∈ ys, u.oneCell' = true) ∧ apd zc bytes s ys t.len K H

theorem GL.appendS {x y : Operand} {t t2 e2 : TypeId} {s s2 : Sl} {zc : List Value} {bytes : Nat} {K : Sl → Heap → Prop} (h : apS zc bytes s s2 K H) (hw : Wt ops l g) (hd : Nat.blt d n = true)
    (hx : opv l x = some (slv s)) (hy : opv l y = some (slv s2)) (he : Elem P t zc bytes) (h2 : P.underlying t2 = some (.slice e2))
    (k : ∀ r H', K r H' → GL P C ops Q n rest ((d, slv r) :: l) H') : GL P C ops Q n (⟨some d, .call { callee := .builtin .append, args := #[x, y], argTypes := #[t, t2] }, ty, pos, after, g⟩ :: rest) l H := by
  obtain ⟨ys, h3, h4, h5⟩ := h
  have hl := h5
  obtain ⟨_, _, _, hyl, _⟩ := hl
  exact GL.append h5 hw hd hx hy he ⟨_, h2, fun _ h => by cases h⟩ (Src.slice h3 hyl) h4 k

/-- append of a text's bytes -/
theorem GL.appendStr {x y : Operand} {t t2 : TypeId} {s : Sl} {u : Str} {bytes : Nat} {K : Sl → Heap → Prop} (h : apd [.int .u8 0] bytes s (bytesV u) u.length K H) (hw : Wt ops l g) (hd : Nat.blt d n = true)
    (hx : opv l x = some (slv s)) (hy : opv l y = some (sv u)) (he : Elem P t [.int .u8 0] bytes) (h2 : P.underlying t2 = some .string)
    (k : ∀ r H', K r H' → GL P C ops Q n rest ((d, slv r) :: l) H') : GL P C ops Q n (⟨some d, .call { callee := .builtin .append, args := #[x, y], argTypes := #[t, t2] }, ty, pos, after, g⟩ :: rest) l H :=
  GL.append h hw hd hx hy he ⟨_, h2, fun _ h => by cases h⟩ Src.str (by simp [bytesV, Value.oneCell']) k

theorem rds_put_new {b : Nat} {cs : List Value} {m : Bool} : rds (H.put b (.row cs) m) (b, 0) cs :=
  rds_of fun j v hj => by simp [rd, Heap.put_same, GO.cells?, hj]

theorem Heap.le.puts {A B : Heap} (h : A.le B) (b : Nat) (g : GO) (m : Bool) : (A.put b g m).le (B.put b g m) := fun x e hx => by
  by_cases hxb : x = b
  · subst hxb; rw [Heap.put_same] at hx ⊢; exact hx
  · rw [Heap.put_ne _ _ _ hxb] at hx ⊢; exact h x e hx

theorem apd.frame {zc : List Value} {bytes : Nat} {s : Sl} {ys : List Value} {m : Nat} {K : Sl → Heap → Prop} {H' : Heap} (h : apd zc bytes s ys m K H) (hle : H.le H') :
    apd zc bytes s ys m (fun r H2 => ∃ H0, K r H0 ∧ H0.le H2) H' := by
  obtain ⟨xs, h1, h2, h3, h4, h5, h6, h7⟩ := h
  refine ⟨xs, rdsl_le hle h1, h2, h3, h4, h5, fun hc => ?_, fun hc b cap hb hcap => ⟨_, h7 hc b cap (hle.none hb) hcap, hle.puts _ _ _⟩⟩
  rcases h6 hc with ⟨e, hk⟩ | ⟨p, c, e1, e0, e2, e3, hk⟩
  · exact .inl ⟨e, _, hk, hle⟩
  · exact .inr ⟨p, c, e1, e0, hle _ _ e2, e3, _, hk, hle.puts _ _ _⟩

theorem GL.weaken {H' : Heap} (hle : H.le H') (k : GL P C ops Q n rest l H) : GL P C ops Q n rest l H' := fun a w hf hs => k a w hf (hs.weaken hle)

/-- append of elements that are written out: a slice literal, then the append -/
theorem GL.appendLit {x y : Operand} {t t2 e2 t3 ty2 : TypeId} {d2 m : Nat} {s : Sl} {ps : Array (Nat × Operand)} {vs : List (Nat × Value)} {ys : List Value} {zc : List Value} {bytes : Nat} {K : Sl → Heap → Prop} {pos2 : String} {after2 : Array Edge} {g2 : Option (Nat × Bool)}
    (h : apd zc bytes s ys m K H) (hw : Wt ops l g) (hd : Nat.blt d n = true) (hw2 : ∀ v, Wt ops ((d, v) :: l) g2) (hd2 : Nat.blt d2 n = true)
    (hx : ∀ v, opv ((d, v) :: l) x = some (slv s)) (hy : ∀ v, opv ((d, v) :: l) y = some v) (hp : partVals l ps.toList = some vs) (hr : litRun P t3 m vs ys) (he : Elem P t zc bytes) (h2 : P.underlying t2 = some (.slice e2)) (h1 : ys.all Value.oneCell' = true)
    (k : ∀ v r H', K r H' → GL P C ops Q n rest ((d2, slv r) :: (d, v) :: l) H') :
    GL P C ops Q n (⟨some d, .buildSlice t3 m ps, ty, pos, after, g⟩ :: ⟨some d2, .call { callee := .builtin .append, args := #[x, y], argTypes := #[t, t2] }, ty2, pos2, after2, g2⟩ :: rest) l H := by
  refine GL.buildSlice (K := fun b H' => H' = H.put b (.row ys) ∧ H b = none) (fun b hb => ⟨rfl, hb⟩) hw hd hp hr ?_
  rintro b H' ⟨rfl, hb⟩
  refine GL.appendS (s2 := Sl.of (some (b, 0)) m m) ⟨ys, .inr ⟨rfl, _, rfl, rds_put_new⟩, by simpa using h1, h.frame ((Heap.le.refl H).put _ _ hb)⟩ (hw2 _) hd2 (hx _) (hy _) he h2 ?_
  rintro r H2 ⟨H0, hk, hle⟩
  exact GL.weaken hle (k _ r H0 hk)
end
end Sx
