/-
  Texts of this family, one behind the other: ValP5, ValR, ValW, ValX, ValC1, ValO1, SortP, SortQ, ValM, ValN1, SortE, ValN2, ValH, Zs1, Zs2, Zs3, Zs4, ZsQ, Zs5, Zs6, Zs7, Zs8, Zs9, Zs10, Zs11, Zs12, Zs13, Zs14, Zs15, Zs16, Zs17, Zs18, Zs19, Zs20, Zs21, Zs22.
-/
import Derived.Test.YtcachkhmjjomkaaGreatDoorAO3
noncomputable section
set_option linter.unusedVariables false
set_option linter.unusedSimpArgs false
set_option maxRecDepth 10000
namespace Sx
section
open Go Go.Proofs
theorem Qg2 (t : List V) : cmpVs [] t = sgn 0 t.length := by
 cases t with
 | nil => simp [cmpVs, sgn]
 | cons c t => simp only [cmpVs]; unfold sgn; rw [if_pos (by simp <;> omega)]
theorem QfM {s : Str} (h : numS s = true) (hm : isMin s = true) : isMin s.tail = false ∧ s.tail ≠ [] := by
 cases s with
 | nil => simp [isMin] at hm
 | cons c t =>
  have hc : c = 45 := by simpa [isMin] using hm
  subst hc
  cases t with
  | nil => simp [numS, unmin] at h
  | cons d u =>
   refine ⟨?_, by simp⟩
   simp only [numS, unmin, List.head?_cons, if_true, List.tail_cons, Bool.and_eq_true, List.all_cons] at h
   have hd := h.1.2.1
   unfold isMin
   simp only [List.tail_cons, List.head?_cons, Option.some.injEq, decide_eq_false_iff_not]
   rintro rfl
   simp [digC] at hd
theorem QjF {a b : Str} (ha : isMin a = false) (hb : isMin b = false) : cmpB a b = cmpD a b := by unfold cmpB; rw [ha, hb]; rfl
theorem Qih {s : Str} (h : numS s = true) : s ≠ [] := fun e => by subst e; simp [numS, unmin] at h
section
variable {C : Ctx} {H : Heap}
theorem Qg1 (v w : V) : cmpV v w = if v.k ≠ w.k then sgn v.k w.k else if v.k = 3 then cmpB v.s w.s else if v.k = 4 then vcmpS v.s w.s else if v.k = 5 then cmpVs v.l w.l else if v.k = 6 then (if vcmpS v.s w.s ≠ 0 then vcmpS v.s w.s else cmpVs v.l w.l) else sgn v.n w.n := by
 obtain ⟨k, n, s, l⟩ := v
 obtain ⟨k', n', s', l'⟩ := w
 simp only [cmpV, V.k, V.n, V.s, V.l]
 rfl
theorem Qi7 (v : V) : ((checkV v : Int) == 0) = mayV v := by unfold mayV; rw [Bool.eq_iff_iff]; simp
theorem QdV {v : V} (h : mayV v = true) : formV v = true := ((Qi8 v).1 h).2.1
theorem QjL {l : List V} {v : V} (h : v ∈ l) (hv : mayV v = false) : mayR l = false := by unfold mayR; rw [List.all_eq_false]; exact ⟨v, h, by simp [hv]⟩
theorem QfP : ∀ {l m : List V}, sameVs l m = true → l.length = m.length
 | [], [], _ => rfl
 | [], _ :: _, h => by simp [sameVs] at h
 | _ :: _, [], h => by simp [sameVs] at h
 | v :: l, w :: m, h => by
  simp only [sameVs, Bool.and_eq_true] at h
  have := QfP h.2
  simp [this]
theorem QeQ {l m : List V} {s t : Sl} {H : Heap} {K : Bool → Heap → Prop} (hs : VRow H s l) (ht : VRow H t m) (hl : l.length ≤ 140737488355328)
 (ih : ∀ v ∈ l, ∀ w, ∀ {x y : TV} {K : Bool → Heap → Prop}, VIs H v x → VIs H w y → w ∈ m → K (sameV v w) H → Qaw C x y K H) (k : K (sameVs l m) H) : QaH C s t K H := by
 apply QeL
 unfold QcV
 rw [hs.len, ht.len]
 by_cases hlm : l.length = m.length
 rotate_left
 ·refine QaU (by simp; omega) ?_
  cases hh : sameVs l m with
  | true => exact absurd (QfP hh) hlm
  | false => rw [hh] at k; exact k
 refine QA (by simp; omega) ?_
 refine ⟨fun x H' => ∃ i : Nat, x = (i : Int) ∧ i ≤ l.length ∧ H = H' ∧ sameVs l m = sameVs (l.drop i) (m.drop i), fun x _ => l.length - x.toNat, ⟨0, rfl, Nat.zero_le _, rfl, rfl⟩, ?_⟩
 rintro x _ ⟨i, rfl, hi, rfl, ha⟩
 refine ift.of (fun h => ?_) (fun h => ?_)
 ·have h1 : i < l.length := by have := of_decide_eq_true h; omega
  have h2 : i < m.length := by omega
  have m1 := List.getElem_mem h1
  have m2 := List.getElem_mem h2
  rw [List.drop_eq_getElem_cons h1, List.drop_eq_getElem_cons h2] at ha
  simp only [sameVs] at ha
  refine ⟨H, Heap.le.refl _, ?_⟩
  refine hs.ld (Heap.le.refl _) rfl h1 fun y hy => ?_
  refine ht.ld (Heap.le.refl _) rfl h2 fun z hz => ?_
  refine ih _ m1 _ hy hz m2 ⟨Heap.le.refl _, ?_⟩
  refine ift.of (fun h => ?_) (fun h => ?_)
  ·have h : sameV l[i] m[i] = false := by simpa using h
   rw [ha, h] at k; exact k
  ·have h : sameV l[i] m[i] = true := by simpa using h
   rw [h, Bool.true_and] at ha
   rw [Qi (by omega) (by omega)]
   exact ⟨⟨i + 1, by omega, by omega, rfl, ha⟩, by first | omega | (dsimp only; omega)⟩
 ·have hie : i = l.length := by have := of_decide_eq_false h; omega
  rw [hie, List.drop_length, hlm, List.drop_length] at ha
  rw [ha] at k; exact k
theorem QiB (v w : V) : sameV v w = (v.k == w.k && v.n == w.n && decide (v.s = w.s) && sameVs v.l w.l) := by
 obtain ⟨k, n, s, l⟩ := v
 obtain ⟨k', n', s', l'⟩ := w
 simp only [sameV, V.k, V.n, V.s, V.l]
 rfl
theorem QjC {v w : V} {x y : TV} {H : Heap} {K : Bool → Heap → Prop} (hv : VIs H v x) (hw : VIs H w y) (hB : VB v) (k : K (sameV v w) H) : Qaw C x y K H := by
 refine V.rec_ (P := fun v => ∀ {w x y H} {K : Bool → Heap → Prop}, VIs H v x → VIs H w y → VB v → K (sameV v w) H → Qaw C x y K H) (fun v ih => ?_) v hv hw hB k
 clear hv hw hB k
 intro w x y H K hv hw hB k
 apply Qaw.gh
 apply QfX
 unfold Qeb
 intro b1 n1 b3 n3
 have hb3 : ((H.put b1 (.row (Qb.c x))).put b3 (.row (Qb.c y))) b3 = some (true, .row (Qb.c y)) := Heap.put_same ..
 have hne : b1 ≠ b3 := fun e => by rw [e, Heap.put_same] at n3; cases n3
 have hb1 : ((H.put b1 (.row (Qb.c x))).put b3 (.row (Qb.c y))) b1 = some (true, .row (Qb.c x)) := by rw [Heap.put_ne _ _ _ hne, Heap.put_same]
 have hle := (Heap.le_put n1 (g := .row (Qb.c x)) (m := true)).trans (Heap.le_put n3 (g := .row (Qb.c y)) (m := true))
 generalize (H.put b1 (.row (Qb.c x))).put b3 (.row (Qb.c y)) = H1 at *
 have k' : ∃ H0, Gh C H1 H0 ∧ K (sameV v w) H0 := ⟨H, Gh.le hle, k⟩
 rw [QiB] at k'
 refine bxK hb1 (bxK hb3 ?_)
 rw [hv.kind, hw.kind]
 refine ⟨fun b H' => H1 = H' ∧ b = (v.k == w.k && v.n == w.n), ?_, ?_⟩
 ·refine ift.of (fun h => ?_) (fun h => ⟨rfl, by rw [h]; rfl⟩)
  refine bxN hb1 (bxN hb3 ⟨rfl, ?_⟩)
  rw [h, hv.num, hw.num]; rfl
 rintro _ _ ⟨rfl, rfl⟩
 refine ⟨fun b H' => H1 = H' ∧ b = (v.k == w.k && v.n == w.n && decide (v.s = w.s)), ?_, ?_⟩
 ·refine ift.of (fun h => ?_) (fun h => ⟨rfl, by rw [h]; rfl⟩)
  refine bxS hb1 (bxS hb3 ⟨rfl, ?_⟩)
  rw [h, hv.txt, hw.txt, Bool.true_and, Bool.eq_iff_iff]; simp
 rintro _ _ ⟨rfl, rfl⟩
 refine ⟨fun b H' => H1 = H' ∧ b = (v.k == w.k && v.n == w.n && decide (v.s = w.s) && sameVs v.l w.l), ?_, ?_⟩
 ·refine ift.of (fun h => ?_) (fun h => ⟨rfl, by rw [h]; rfl⟩)
  refine bxL hb1 (bxL hb3 ?_)
  refine QeQ (hv.row.le hle) (hw.row.le hle) hB.l (fun p hp q {x' y'} {K'} hx hy _ kk => ih p hp hx hy (hB.ls.mem hp) kk) ⟨rfl, ?_⟩
  rw [h]; rfl
 rintro _ _ ⟨rfl, rfl⟩
 exact k'
theorem QfF {l m : List V} {s t : Sl} {H : Heap} {K : Bool → Heap → Prop} (hs : VRow H s l) (ht : VRow H t m) (hl : l.length ≤ 140737488355328) (hB : VBs l) (k : K (sameVs l m) H) : QaH C s t K H :=
 QeQ hs ht hl (fun p hp q {x y} {K} hx hy _ kk => QjC hx hy (hB.mem hp) kk) k
end
end
section
open Go
section
variable {H : Type} {enc : TypeId × Value → H} {P : Program} {W : World}
/-- the type of values -/
structure ValT (P : Program) (t tl : TypeId) : Prop where
 st : ∃ fs : Array Field, P.underlying t = some (.struct fs) ∧ fs.size = 4 ∧ (∃ f tk, fs[0]? = some f ∧ f.type = tk ∧ f.offset = 0 ∧ P.underlying tk = some (.int .u8) ∧ P.cellsOf tk = 1) ∧ (∃ f tk, fs[1]? = some f ∧ f.type = tk ∧ f.offset = 1 ∧ P.underlying tk = some (.int .i64) ∧ P.cellsOf tk = 1) ∧ (∃ f tk, fs[2]? = some f ∧ f.type = tk ∧ f.offset = 2 ∧ P.underlying tk = some .string ∧ P.cellsOf tk = 1) ∧ (∃ f, fs[3]? = some f ∧ f.type = tl ∧ f.offset = 3 ∧ P.cellsOf tl = 1)
 cells : P.cellsOf t = 4
 sl : P.underlying tl = some (.slice t)
end
end
section
open Go
section
variable {H : Type} {enc : TypeId × Value → H} {P : Program} {W : World}
theorem QgH {t tl : TypeId} {css : List (List Value)} {s : Sl} (hl : css.length = s.len) (hr : rdsl (heapOf W) s css.flatten)
 (ih : ∀ c ∈ css, ∃ (v : V) (x : TV), c = Qb.c x ∧ VIs (heapOf W) v x ∧ VB v) : ∃ l : List V, VRow (heapOf W) s l ∧ VBs l := by
 have key : ∀ (css : List (List Value)), (∀ c ∈ css, ∃ (v : V) (x : TV), c = Qb.c x ∧ VIs (heapOf W) v x ∧ VB v) →
  ∃ (l : List V) (xs : List TV), css.flatten = xs.flatMap Qb.c ∧ css.length = xs.length ∧ VsAre (heapOf W) l xs ∧ VBs l := by
  intro css
  induction css with
  | nil => intro _; exact ⟨[], [], rfl, rfl, trivial, trivial⟩
  | cons c css ihc =>
   intro hh
   obtain ⟨v, x, h1, h2, h3⟩ := hh c (List.mem_cons_self ..)
   obtain ⟨l, xs, g1, g2, g3, g4⟩ := ihc fun c' hc => hh c' (List.mem_cons_of_mem _ hc)
   exact ⟨v :: l, x :: xs, by rw [List.flatten_cons, List.flatMap_cons, g1, h1], by simp [g2], ⟨h2, g3⟩, ⟨h3, g4⟩⟩
 obtain ⟨l, xs, g1, g2, g3, g4⟩ := key css ih
 exact ⟨l, ⟨xs, by rw [← g1]; exact hr, by omega, g3⟩, g4⟩
theorem Qj2 {t tl : TypeId} (hT : ValT P t tl) (hb : 56 ≤ P.bytesOf t) : ∀ (n : Nat) {cs : List Value}, TrW P W n t cs → ∃ (v : V) (y : TV), cs = Qb.c y ∧ VIs (heapOf W) v y ∧ VB v := by
 intro n
 induction n using Nat.strongRecOn with
 | _ n ih =>
 intro cs h
 obtain ⟨fs, hu, hfs, ⟨f0, t0, a0, b0, c0, d0, e0⟩, ⟨f1, t1, a1, b1, c1, d1, e1⟩, ⟨f2, t2, a2, b2, c2, d2, e2⟩, ⟨f3, a3, b3, c3, e3⟩⟩ := hT.st
 obtain ⟨hl, m, rfl, hf⟩ := h.struct hu
 rw [hT.cells] at hl
 match cs, hl with
 | [q0, q1, q2, q3], _ =>
 have g0 := hf 0 f0 a0
 have g1 := hf 1 f1 a1
 have g2 := hf 2 f2 a2
 have g3 := hf 3 f3 a3
 rw [b0, c0, e0] at g0
 rw [b1, c1, e1] at g1
 rw [b2, c2, e2] at g2
 rw [b3, c3, e3] at g3
 simp at g0 g1 g2 g3
 obtain ⟨n0, k0, k2⟩ := g0.int d0
 obtain ⟨n1, l0, l2⟩ := g1.int d1
 obtain ⟨s2, m0, m1, m2⟩ := g2.str d2
 obtain ⟨s, css, m', hm', p0, p1, p2, p3, p4, p5, p6⟩ := g3.slice hT.sl hT.cells (by omega)
 have hmx : reachBytes = 140737488351232 := rfl
 rw [hmx] at p3 m2
 obtain ⟨l, r1, r2⟩ := QgH (t := t) (tl := tl) p4 p5 fun c hc => ih m' (by omega) (p6 c hc).2
 have hll := r1.len
 have hsl : s.len ≤ 2513169434843 := by have h56 : s.len * 56 ≤ 140737488351232 := Nat.le_trans (Nat.mul_le_mul_left _ hb) p3; omega
 refine ⟨.mk n0 n1 s2 l, ⟨n0, n1, s2, s⟩, ?_, QbZ.2 ⟨rfl, rfl, rfl, r1⟩, ⟨?_, ?_, by omega, by omega, r2⟩⟩
 ·injection k0 with k0
  injection l0 with l0
  injection m0 with m0
  injection p0 with p0
  subst k0; subst l0; subst m0; subst p0
  simp [Qb.c]
 ·simpa [Lit.wf, IntKind.min, IntKind.max, IntKind.signed, IntKind.bits] using k2
 ·simpa [Lit.wf, IntKind.min, IntKind.max, IntKind.signed, IntKind.bits] using l2
end
end
section
open Go Go.Proofs
/-- a list of rows -/
def VRows (H : Heap) (s : Sl) (ls : List (List V)) : Prop := ∃ xs : List Sl, rdsl H s (xs.map slv) ∧ s.len = xs.length ∧ xs.length = ls.length ∧ ∀ (i : Nat) (x : Sl) (l : List V), xs[i]? = some x → ls[i]? = some l → VRow H x l
theorem VRows.len {H : Heap} {s : Sl} {ls : List (List V)} (h : VRows H s ls) : s.len = ls.length := by
 obtain ⟨xs, h1, h2, h3, h4⟩ := h; omega
theorem VRows.ld {A H : Heap} {s : Sl} {ls : List (List V)} {i : Nat} {x : Int} {K : Sl → Prop} (h : VRows A s ls) (hle : A.le H) (hx : x = i) (hi : i < ls.length) (k : ∀ t, VRow A t ls[i] → K t) : ixa s x fun p => ldL H (p.1, p.2 + x.toNat * 1) K := by
 obtain ⟨xs, h1, h2, h3, h4⟩ := h
 subst hx
 rw [Int.toNat_natCast, Nat.mul_one]
 have hi2 : i < xs.length := by omega
 refine Qid h1 (by omega) (by omega) (fun e => by have := congrArg List.length e; simp at this; rw [this] at hi2; simp at hi2) fun p hp hr => ?_
 refine ⟨xs[i], Qkf hle (QdH hr i _ (by simp [hi2])), k _ (h4 i _ _ (List.getElem?_eq_getElem hi2) (List.getElem?_eq_getElem hi))⟩
section
variable {H : Type} {enc : TypeId × Value → H} {P : Program} {W : World}
theorem Qiz {t tl : TypeId} (hT : ValT P t tl) (hb : 56 ≤ P.bytesOf t) {m : Nat} {c : List Value} (h : TrW P W m tl c) : ∃ (s : Sl) (l : List V), c = [slv s] ∧ VRow (heapOf W) s l ∧ VBs l ∧ l.length ≤ 2513169434843 := by
 obtain ⟨s, css, m', hm', p0, p1, p2, p3, p4, p5, p6⟩ := h.slice hT.sl hT.cells (by omega)
 obtain ⟨l, r1, r2⟩ := QgH (t := t) (tl := tl) p4 p5 fun c hc => Qj2 hT hb m' (p6 c hc).2
 have hll := r1.len
 have hmx : reachBytes = 140737488351232 := rfl
 rw [hmx] at p3
 have hsl : s.len ≤ 2513169434843 := by have h56 : s.len * 56 ≤ 140737488351232 := Nat.le_trans (Nat.mul_le_mul_left _ hb) p3; omega
 exact ⟨s, l, p0, r1, r2, by omega⟩
/-- a list of rows that came in -/
theorem QhY {t tl tr : TypeId} (hT : ValT P t tl) (hb : 56 ≤ P.bytesOf t) (hr : P.underlying tr = some (.slice tl)) (hc : P.cellsOf tl = 1) (hb2 : 1 ≤ P.bytesOf tl) {base : Nat} {v : Value} {d : DataW H} {p : List MemPlace} (hv : Value.okWide P W .any base tr v) (h : DataW.Trod enc P W 0 (fun _ => true) true tr v d p) (hw : ∀ w ∈ d.weights P tr, w ≤ reachBytes) :
 ∃ (s : Sl) (ls : List (List V)), v = slv s ∧ VRows (heapOf W) s ls ∧ (∀ l ∈ ls, VBs l ∧ l.length ≤ 2513169434843) ∧ ls.length ≤ 140737488355328 ∧ s.len ≤ s.cap ∧ s.cap ≤ maxLen := by
 obtain ⟨s, css, m, h1, h2, h3, h4, h5, h6, h7⟩ := QhK hr hc (by omega) hv h hw
 have key : ∀ (css : List (List Value)), (∀ c ∈ css, c.length = 1 ∧ TrW P W m tl c) → ∃ (xs : List Sl) (ls : List (List V)), css.flatten = xs.map slv ∧ css.length = xs.length ∧ xs.length = ls.length ∧ (∀ (i : Nat) (x : Sl) (l : List V), xs[i]? = some x → ls[i]? = some l → VRow (heapOf W) x l) ∧ ∀ l ∈ ls, VBs l ∧ l.length ≤ 2513169434843 := by
  intro css
  induction css with
  | nil => intro _; exact ⟨[], [], rfl, rfl, rfl, fun i x l hx => by simp at hx, fun l hl => by cases hl⟩
  | cons c css ih =>
   intro hh
   obtain ⟨s, l, g1, g2, g3⟩ := Qiz hT hb (hh c (List.mem_cons_self ..)).2
   obtain ⟨xs, ls, k1, k2, k3, k4, k5⟩ := ih fun c' hc' => hh c' (List.mem_cons_of_mem _ hc')
   refine ⟨s :: xs, l :: ls, by rw [List.flatten_cons, k1, g1]; rfl, by simp [k2], by simp [k3], fun i x l' hx hl' => ?_, fun l' hl' => ?_⟩
   ·cases i with
    | zero => simp at hx hl'; subst hx; subst hl'; exact g2
    | succ i => exact k4 i x l' (by simpa using hx) (by simpa using hl')
   ·rcases List.mem_cons.1 hl' with rfl | hl'
    ·exact g3
    ·exact k5 l' hl'
 obtain ⟨xs, ls, k1, k2, k3, k4, k5⟩ := key css h7
 have hmx : reachBytes = 140737488351232 := rfl
 rw [hmx] at h4
 have hsl : s.len ≤ 140737488351232 := Nat.le_trans (Nat.le_mul_of_pos_right _ (by omega)) h4
 exact ⟨s, ls, h1, ⟨xs, by rw [← k1]; exact h6, by omega, k3, k4⟩, k5, by omega, h2, h3⟩
end
end
section
open Go Go.Proofs
theorem QiS (a b : UInt8) (s t : Str) : slt (a :: s) (b :: t) = (decide (a < b) || (decide (a = b) && slt s t)) := by
 simp only [slt, Op.bytesLess]
 by_cases h : a < b
 ·simp [h]
 ·by_cases h2 : a = b
  ·subst h2; simp [h]
  ·simp [h, h2]
theorem Qdh (a : Int) : sgn a a = 0 := by unfold sgn; rw [if_neg (by omega), if_neg (by omega)]
theorem QiG (a b : Int) : -1 ≤ sgn a b ∧ sgn a b ≤ 1 := by unfold sgn; (split; · omega); (split <;> omega)
theorem Qfe {a b : Int} : sgn a b < 0 ↔ a < b := by unfold sgn; (split; · omega); (split <;> omega)
theorem QaO {a b : Int} : sgn a b = 0 ↔ a = b := by unfold sgn; (split; · omega); (split <;> omega)
theorem vslt : ∀ s t : Str, slt s t = decide (vcmpS s t < 0) ∧ (vcmpS s t = 0 ↔ s = t) ∧ -1 ≤ vcmpS s t ∧ vcmpS s t ≤ 1
 | [], [] => ⟨rfl, by simp [vcmpS], by simp [vcmpS], by simp [vcmpS]⟩
 | [], b :: t => ⟨rfl, by simp [vcmpS], by simp [vcmpS], by simp [vcmpS]⟩
 | a :: s, [] => ⟨rfl, by simp [vcmpS], by simp [vcmpS], by simp [vcmpS]⟩
 | a :: s, b :: t => by
  obtain ⟨h1, h2, h3, h4⟩ := vslt s t
  rw [QiS, h1]
  simp only [vcmpS]
  by_cases he : a = b
  ·subst he
   have : ¬ a < a := fun h => Nat.lt_irrefl _ h
   refine ⟨by simp [this], ?_, by rw [if_pos rfl]; exact h3, by rw [if_pos rfl]; exact h4⟩
   rw [if_pos rfl, h2]; simp
  ·have hne : ¬ (a.toNat : Int) = b.toNat := fun h => he (UInt8.toNat_inj.1 (by omega))
   have hz : ¬ sgn a.toNat b.toNat = 0 := fun h => hne (QaO.1 h)
   refine ⟨?_, ?_, ?_⟩
   ·simp only [he, if_false, decide_false, Bool.false_and, Bool.or_false]
    rw [decide_eq_decide, Qfe, UInt8.lt_iff_toNat_lt]; omega
   ·simp only [he, if_false, List.cons.injEq, false_and]; exact ⟨fun h => hz h, fun h => h.elim⟩
   ·rw [if_neg he]; exact QiG _ _
section
variable {C : Ctx} {H : Heap}
theorem Qjc {a b : Int} {K : Int → Heap → Prop} (k : K (sgn a b) H) : Qbm C a b K H := by
 have nan : ∀ {a : Int} {K : Bool → Heap → Prop}, K false H → Qa8 C a K H := fun {a K} k => by
  apply QdN
  unfold Qco
  simpa using k
 apply Qdj
 unfold QbU
 refine nan (nan (QA rfl (QA rfl ?_)))
 unfold sgn at k
 refine ift.of (fun h => ?_) (fun h => ?_)
 ·rw [if_pos (of_decide_eq_true h)] at k; exact k
 rw [if_neg (of_decide_eq_false h)] at k
 refine ift.of (fun h => ?_) (fun h => ?_)
 ·rw [if_pos (show b < a from of_decide_eq_true h)] at k; exact k
 ·rw [if_neg (show ¬ b < a from of_decide_eq_false h)] at k; exact k
theorem Qip {a b : Int} {K : Int → Heap → Prop} (k : K (sgn a b) H) : Qbl C a b K H := by
 have nan : ∀ {a : Int} {K : Bool → Heap → Prop}, K false H → Qa7 C a K H := fun {a K} k => by
  apply QdM
  unfold Qcn
  simpa using k
 apply Qdi
 unfold QbT
 refine nan (nan (QA rfl (QA rfl ?_)))
 unfold sgn at k
 refine ift.of (fun h => ?_) (fun h => ?_)
 ·rw [if_pos (of_decide_eq_true h)] at k; exact k
 rw [if_neg (of_decide_eq_false h)] at k
 refine ift.of (fun h => ?_) (fun h => ?_)
 ·rw [if_pos (show b < a from of_decide_eq_true h)] at k; exact k
 ·rw [if_neg (show ¬ b < a from of_decide_eq_false h)] at k; exact k
theorem Qjd {a b : Int} {K : Int → Heap → Prop} (k : K (sgn a b) H) : QbF C a b K H := by
 have nan : ∀ {a : Int} {K : Bool → Heap → Prop}, K false H → Qbz C a K H := fun {a K} k => by
  apply QeK
  unfold QcU
  simpa using k
 apply QdL
 unfold Qcm
 refine nan (nan (QA rfl (QA rfl ?_)))
 unfold sgn at k
 refine ift.of (fun h => ?_) (fun h => ?_)
 ·rw [if_pos (of_decide_eq_true h)] at k; exact k
 rw [if_neg (of_decide_eq_false h)] at k
 refine ift.of (fun h => ?_) (fun h => ?_)
 ·rw [if_pos (show b < a from of_decide_eq_true h)] at k; exact k
 ·rw [if_neg (show ¬ b < a from of_decide_eq_false h)] at k; exact k
theorem Qgc {a b : Str} {K : Int → Heap → Prop} (k : K (vcmpS a b) H) : Qae C a b K H := by
 have nan : ∀ {a : Str} {K : Bool → Heap → Prop}, K false H → QaY C a K H := fun {a K} k => by
  apply QdC
  unfold Qca
  simpa using k
 apply QcY
 unfold QbL
 obtain ⟨h1, h2, h3, h4⟩ := vslt a b
 refine nan (nan (QA rfl (QA rfl ?_)))
 refine ift.of (fun h => ?_) (fun h => ?_)
 ·rw [h1] at h
  have := of_decide_eq_true h
  rw [show vcmpS a b = -1 by omega] at k; exact k
 have hn : ¬ vcmpS a b < 0 := by rw [h1] at h; exact of_decide_eq_false h
 rw [h, Bool.false_or]
 refine ift.of (fun h => ?_) (fun h => ?_)
 ·have : ¬ a = b := by simpa using h
  have : ¬ vcmpS a b = 0 := fun e => this (h2.1 e)
  rw [show vcmpS a b = 1 by omega] at k; exact k
 ·have : a = b := by simpa using h
  rw [h2.2 this] at k; exact k
theorem Qjx {b : Nat} {m : Bool} {l : List Int} {n : Nat} {K : Int → Heap → Prop} (hb : H b = some (m, .row (l.map fun x => Value.int .i64 x))) (hn : n = l.length) (hl : l.length ≤ 1000) (k : K ((l.find? fun x => x != 0).getD 0) H) : Qcg C (Sl.of (some (b, 0)) n n) K H := by
 subst hn
 apply QfU
 unfold Qd8
 refine ⟨fun x H' => ∃ i : Nat, x = (i : Int) ∧ i ≤ l.length ∧ H = H' ∧ (l.find? fun x => x != 0) = ((l.drop i).find? fun x => x != 0), fun x _ => l.length - x.toNat, ⟨0, rfl, Nat.zero_le _, rfl, rfl⟩, ?_⟩
 rintro x _ ⟨i, rfl, hi, rfl, hc⟩
 refine ift.of (fun h => ?_) (fun h => ?_)
 ·have h1 : i < l.length := by have := of_decide_eq_true h; simp only [Sl.of] at this; omega
  refine ⟨(b, 0), rfl, rfl, by omega, of_decide_eq_true h, l[i], ?_, ?_⟩
  ·simp [rd, hb, GO.cells?, h1]
  rw [List.drop_eq_getElem_cons h1, List.find?_cons] at hc
  refine ift.of (fun h => ?_) (fun h => ?_)
  ·rw [h] at hc
   rw [hc] at k; exact k
  ·rw [h] at hc
   rw [Qi (by omega) (by omega)]
   exact ⟨⟨i + 1, by omega, by omega, rfl, hc⟩, by first | omega | (dsimp only; omega)⟩
 ·have : i = l.length := by have := of_decide_eq_false h; simp only [Sl.of] at this; omega
  subst this
  rw [hc, List.drop_length] at k; exact k
theorem QbX {s p : Str} {K : Bool → Heap → Prop} (k : K (p.isPrefixOf s) H) : QaK C s p K H := by
 apply Qdk
 unfold QbV
 exact Qex k
theorem pre45 (s : Str) : ([45] : Str).isPrefixOf s = isMin s := by
 cases s with
 | nil => rfl
 | cons c s =>
  simp only [List.isPrefixOf, isMin, List.head?_cons, Option.some.injEq, Bool.and_true]
  by_cases h : c = 45
  ·subst h; rfl
  ·have h2 : ¬ (45 : UInt8) = c := fun e => h e.symm
   simp [h, h2]
theorem or2 (a b : Int) : (([a, b].find? fun x => x != 0).getD 0) = if a ≠ 0 then a else b := by
 by_cases h : a = 0
 ·subst h
  by_cases hb : b = 0
  ·subst hb; rfl
  ·simp [hb]
 ·simp [h]
theorem or3 (a b c : Int) : (([a, b, c].find? fun x => x != 0).getD 0) = if a ≠ 0 then a else if b ≠ 0 then b else c := by
 by_cases h : a = 0
 ·subst h
  have := or2 b c
  simpa using this
 ·simp [h]
theorem QgE {a b : Str} {K : Int → Heap → Prop} (ma : isMin a = false) (mb : isMin b = false) (k : K (cmpD a b) H) : Qax C a b K H := by
 apply Qax.gh
 apply QdO
 unfold QcQ
 refine QbX (QbX ?_)
 rw [pre45, pre45, ma, mb]
 refine QA rfl (QA rfl (QA rfl ?_))
 refine Qjd (Qgc ?_)
 intro c hc
 refine Qjx (l := [sgn a.length b.length, vcmpS a b]) (Heap.put_same ..) rfl (by simp) ?_
 refine ⟨H, Gh.le (Heap.le_put hc), ?_⟩
 rw [or2]
 unfold cmpD at k
 by_cases h : a.length = b.length
 ·rw [if_pos h] at k
  rw [if_neg (by rw [h, Qdh]; simp)]; exact k
 ·rw [if_neg h] at k
  rw [if_pos (fun e => h (by have := QaO.1 e; omega))]; exact k
theorem Qjb {a b : Str} {K : Int → Heap → Prop} (na : numS a = true) (nb : numS b = true) (k : K (cmpB a b) H) : Qax C a b K H := by
 by_cases hn : isMin a = false ∧ isMin b = false
 ·rw [QjF hn.1 hn.2] at k; exact QgE hn.1 hn.2 k
 apply QdO
 unfold QcQ
 refine QbX (QbX ?_)
 rw [pre45, pre45]
 unfold cmpB at k
 refine ift.of (fun h => ?_) (fun h => ?_)
 ·obtain ⟨h1, h2⟩ := Bool.and_eq_true_iff.1 h
  rw [if_pos h1, if_pos h2] at k
  have la : 1 ≤ a.length := by have := Qih na; cases a <;> simp_all
  have lb : 1 ≤ b.length := by have := Qih nb; cases b <;> simp_all
  refine ⟨H, Heap.le.refl _, by omega, by omega, by omega, _, rfl, by omega, by omega, by omega, _, rfl, ?_⟩
  have ea : (a.take (a.length : Int).toNat).drop (1 : Int).toNat = a.tail := by simp
  have eb : (b.take (b.length : Int).toNat).drop (1 : Int).toNat = b.tail := by simp
  rw [ea, eb]
  exact QgE (QfM nb h2).1 (QfM na h1).1 ⟨Heap.le.refl _, k⟩
 refine ift.of (fun h1 => ?_) (fun h1 => ?_)
 ·rw [if_pos h1] at k
  have h2 : isMin b = false := by rw [h1] at h; simpa using h
  rw [if_neg (by rw [h2]; simp)] at k; exact k
 rw [if_neg (by rw [h1]; simp)] at k
 refine ift.of (fun h2 => ?_) (fun h2 => ?_)
 ·rw [if_pos h2] at k; exact k
 ·exact absurd ⟨h1, h2⟩ hn
theorem Qje {a b : Bool} {K : Int → Heap → Prop} (k : K (lastB a b) H) : Qc1 C a b K H := by
 apply Qf0
 unfold Qee
 unfold lastB at k
 refine ift.of (fun h => ?_) (fun h => ?_)
 ·rw [if_pos (by simpa using h)] at k; exact k
 rw [if_neg (by simpa using h)] at k
 refine ift.of (fun h => ?_) (fun h => ?_)
 ·rw [if_pos h] at k; exact k
 ·rw [if_neg (by rw [h]; decide)] at k; exact k
theorem QjJ {v : V} {x : TV} {K : Bool → Heap → Prop} (hv : VIs H v x) (hB : VB v) (k : K (!mayV v) H) : QaM C x K H := by
 apply QaM.gh
 apply Qft
 unfold Qdx
 intro c hc
 have hle := Heap.le_put hc (g := .row (Qb.c x)) (m := true)
 refine bxV (Heap.put_same ..) ?_
 refine Qcw (hv.le hle) hB ⟨H, Gh.le hle, ?_⟩
 rw [bne, Qi7]; exact k
/-- a function that is asked of each value -/
theorem Qic {l : List V} {s : Sl} {f : Value} {φ : V → Bool} {K : Int → Heap → Prop} (hs : VRow H s l) (hl : l.length ≤ 140737488355328)
 (hf : ∀ v x, v ∈ l → VIs H v x → ∀ Φ : Value → Heap → Prop, Φ (.bool (φ v)) H → callU Tryz.prog C f [.agg (Qb.c x).toArray] H Φ)
 (k : ∀ i : Int, (0 ≤ i ↔ l.any φ = true) → K i H) : QI C s f K H := by
 apply Qac
 unfold QH
 rw [hs.len]
 refine ⟨fun x H' => ∃ i : Nat, x = (i : Int) ∧ i ≤ l.length ∧ H = H' ∧ (l.take i).any φ = false, fun x _ => l.length - x.toNat, ⟨0, rfl, Nat.zero_le _, rfl, rfl⟩, ?_⟩
 rintro x _ ⟨i, rfl, hi, rfl, ha⟩
 refine ift.of (fun h => ?_) (fun h => ?_)
 ·have hlt : i < l.length := by have := of_decide_eq_true h; omega
  have hm := List.getElem_mem hlt
  refine hs.ld (Heap.le.refl _) rfl hlt fun y hy => ?_
  refine hf _ y hm hy _ ⟨_, rfl, ?_⟩
  refine ift.of (fun h => ?_) (fun h => ?_)
  ·exact k _ ⟨fun _ => List.any_eq_true.2 ⟨_, hm, h⟩, fun _ => by omega⟩
  ·rw [Qi (by omega) (by omega)]
   refine ⟨⟨i + 1, by omega, by omega, rfl, ?_⟩, by first | omega | (dsimp only; omega)⟩
   rw [List.take_add_one, List.getElem?_eq_getElem hlt, Option.toList_some, List.any_append, ha]; simp [h]
 ·have hie : i = l.length := by have := of_decide_eq_false h; omega
  rw [hie, List.take_length] at ha
  exact k _ ⟨fun h => by omega, fun h => by rw [h] at ha; cases ha⟩
theorem Qgv {l : List V} {s : Sl} {f : Value} {φ : V → Bool} {K : Bool → Heap → Prop} (hs : VRow H s l) (hl : l.length ≤ 140737488355328)
 (hf : ∀ v x, v ∈ l → VIs H v x → ∀ Φ : Value → Heap → Prop, Φ (.bool (φ v)) H → callU Tryz.prog C f [.agg (Qb.c x).toArray] H Φ)
 (k : K (l.any φ) H) : Qf C s f K H := by
 apply QY
 unfold Qw
 refine Qic hs hl hf fun i hi => ?_
 have : decide (i ≥ 0) = l.any φ := by
  rw [Bool.eq_iff_iff, decide_eq_true_eq]; exact hi
 rw [this]; exact k
theorem Qiq {l : List V} {s : Sl} {K : Bool → Heap → Prop} (hs : VRow H s l) (hl : l.length ≤ 140737488355328) (hB : VBs l) (k : K (mayR l) H) : QcL C s K H := by
 apply Qgm
 unfold QeE
 refine Qgv (φ := fun v => !mayV v) hs hl (fun v x hv hx Φ hΦ => ⟨_, [], [], rfl, QfA, ?_⟩) ?_
 ·have h : QaM C x (fun r H2 => Φ (.bool r) H2) H := QjJ hx (hB.mem hv) hΦ
  exact Spec.mono h fun v H2 ⟨r, hv, h⟩ => by rw [hv]; exact h
 ·have : (!(l.any fun v => !mayV v)) = mayR l := by unfold mayR; rw [List.not_any_eq_all_not]; simp
  rw [this]; exact k
/-- rows, value by value -/
theorem Qg4 {l m : List V} {s t : Sl} {f : Value} {K : Int → Heap → Prop} (hs : VRow H s l) (ht : VRow H t m) (hl : l.length ≤ 140737488355328) (hm : m.length ≤ 140737488355328)
 (hf : ∀ v x w y, v ∈ l → w ∈ m → ∀ A : Heap, H.le A → VIs A v x → VIs A w y → ∀ Φ : Value → Heap → Prop, Φ (.int .i64 (cmpV v w)) A → callU Tryz.prog C f [.agg (Qb.c x).toArray, .agg (Qb.c y).toArray] A Φ)
 (k : K (cmpVs l m) H) : Qd C s t f K H := by
 apply Qd.gh
 apply Q1
 unfold Qq
 rw [hs.len, ht.len]
 refine ⟨fun x A => ∃ i : Nat, x = (i : Int) ∧ i ≤ l.length ∧ i ≤ m.length ∧ H.le A ∧ cmpVs l m = cmpVs (l.drop i) (m.drop i), fun x _ => l.length - x.toNat, ⟨0, rfl, Nat.zero_le _, Nat.zero_le _, Heap.le.refl _, rfl⟩, ?_⟩
 rintro x A ⟨i, rfl, hi, hi2, hA, hc⟩
 refine ift.of (fun h => ?_) (fun h => ?_)
 ·have h1 : i < l.length := by have := of_decide_eq_true h; omega
  have m1 := List.getElem_mem h1
  refine hs.ld hA rfl h1 fun y hy => ?_
  intro b1 n1
  have hle1 := Heap.le_put n1 (g := .row (Qb.c Qb.zero)) (m := true)
  refine ⟨_, Heap.put_same .., by simp [Qb.c], ?_⟩
  have e1 : ∀ z : TV, splice (Qb.c Qb.zero) 0 (Qb.c z) = Qb.c z := fun z => by simp [splice, Qb.c]
  dsimp only
  rw [e1, Heap.put_put]
  have hle1 := Heap.le_put n1 (g := .row (Qb.c y)) (m := true)
  refine ift.of (fun h => ?_) (fun h => ?_)
  ·have h2 : i = m.length := by have := of_decide_eq_true h; omega
   refine ⟨H, Gh.le (hA.trans hle1), ?_⟩
   subst h2
   rw [hc, List.drop_length, List.drop_eq_getElem_cons h1] at k; exact k
  ·have h2 : i < m.length := by have := of_decide_eq_false h; omega
   have m2 := List.getElem_mem h2
   rw [List.drop_eq_getElem_cons h1, List.drop_eq_getElem_cons h2] at hc
   refine ht.ld (hA.trans hle1) rfl h2 fun z hz => ?_
   intro b2 n2
   refine ⟨_, Heap.put_same .., by simp [Qb.c], ?_⟩
   dsimp only
   rw [e1, Heap.put_put]
   have hle2 := Heap.le_put n2 (g := .row (Qb.c z)) (m := true)
   have hne : b1 ≠ b2 := fun e => by rw [← e, Heap.put_same] at n2; cases n2
   refine bxV (m := true) (by rw [Heap.put_ne _ _ _ hne, Heap.put_same]) (bxV (m := true) (Heap.put_same ..) ?_)
   have hle := (hA.trans hle1).trans hle2
   refine hf _ y _ z m1 m2 _ hle (hy.le hle) (hz.le hle) _ ⟨_, rfl, ?_⟩
   simp only [cmpVs] at hc
   refine ift.of (fun h => ?_) (fun h => ?_)
   ·rw [if_pos (by simpa using h)] at hc
    rw [hc] at k; exact ⟨H, Gh.le hle, k⟩
   ·rw [if_neg (by simpa using h)] at hc
    rw [Qi (by omega) (by omega)]
    exact ⟨⟨i + 1, by omega, by omega, by omega, hle, hc⟩, by first | omega | (dsimp only; omega)⟩
 ·have h1 : i = l.length := by have := of_decide_eq_false h; omega
  subst h1
  rw [hc, List.drop_length, Qg2, List.length_drop] at k
  refine ift.of (fun h => ?_) (fun h => ?_)
  ·have := of_decide_eq_true h
   rw [show sgn 0 ((m.length - l.length : Nat) : Int) = -1 by unfold sgn; rw [if_pos (by omega)]] at k
   exact ⟨H, Gh.le hA, k⟩
  ·have := of_decide_eq_false h
   rw [show sgn 0 ((m.length - l.length : Nat) : Int) = 0 by rw [QaO]; omega] at k
   exact ⟨H, Gh.le hA, k⟩
theorem QgF {l m : List V} {s t : Sl} {K : Int → Heap → Prop} (hs : VRow H s l) (ht : VRow H t m) (hl : l.length ≤ 140737488355328) (hm : m.length ≤ 140737488355328)
 (ih : ∀ v ∈ l, ∀ w ∈ m, ∀ {A : Heap} {x y : TV} {K : Int → Heap → Prop}, VIs A v x → VIs A w y → K (cmpV v w) A → QM C x y K A) (k : K (cmpVs l m) H) : QbK C s t K H := by
 apply Qf2
 unfold Qeg
 refine Qg4 hs ht hl hm (fun v x w y hv hw A hA hx hy Φ hΦ => ⟨_, [], [], rfl, Qe9, ?_⟩) k
 have h : QaS C x y (fun r H2 => Φ (.int .i64 r) H2) A := by
  apply QaS.gh
  apply QeV
  unfold Qdb
  intro b1 n1 b3 n3
  have hb3 : ((A.put b1 (.row (Qb.c x))).put b3 (.row (Qb.c y))) b3 = some (true, .row (Qb.c y)) := Heap.put_same ..
  have hne : b1 ≠ b3 := fun e => by rw [e, Heap.put_same] at n3; cases n3
  have hb1 : ((A.put b1 (.row (Qb.c x))).put b3 (.row (Qb.c y))) b1 = some (true, .row (Qb.c x)) := by rw [Heap.put_ne _ _ _ hne, Heap.put_same]
  have hle := (Heap.le_put n1 (g := .row (Qb.c x)) (m := true)).trans (Heap.le_put n3 (g := .row (Qb.c y)) (m := true))
  generalize (A.put b1 (.row (Qb.c x))).put b3 (.row (Qb.c y)) = B at *
  refine bxV hb1 (bxV hb3 ?_)
  exact ih v hv w hw (hx.le hle) (hy.le hle) ⟨A, Gh.le hle, hΦ⟩
 exact Spec.mono h fun v H2 ⟨r, hv, h⟩ => by rw [hv]; exact h
theorem Qb1 {k n : Int} {s : Str} {m : Nat} (h : okN k n s m = true) : (k = 1 ∧ s = [] ∧ m = 0) ∨ (k = 2 ∧ s = [] ∧ m = 0) ∨ (k = 3 ∧ n = 0 ∧ m = 0) ∨ (k = 4 ∧ n = 0 ∧ m = 0) ∨ (k = 5 ∧ n = 0 ∧ s = []) ∨ (k = 6 ∧ n = 0) := by
 unfold okN at h
 split at h
 ·rename_i e
  simp only [Bool.and_eq_true, decide_eq_true_eq, List.isEmpty_iff] at h
  exact .inl ⟨e, h.1.2, h.2⟩
 split at h
 ·rename_i e
  simp only [Bool.and_eq_true, decide_eq_true_eq, List.isEmpty_iff] at h
  exact .inr (.inl ⟨e, h.1, h.2⟩)
 split at h
 ·rename_i e
  simp only [Bool.and_eq_true, decide_eq_true_eq, beq_iff_eq] at h
  exact .inr (.inr (.inl ⟨e, h.1.2, h.2⟩))
 split at h
 ·rename_i e
  simp only [Bool.and_eq_true, decide_eq_true_eq, beq_iff_eq] at h
  exact .inr (.inr (.inr (.inl ⟨e, h.1, h.2⟩)))
 split at h
 ·rename_i e
  simp only [Bool.and_eq_true, decide_eq_true_eq, beq_iff_eq, List.isEmpty_iff] at h
  exact .inr (.inr (.inr (.inr (.inl ⟨e, h.1.1, h.1.2⟩))))
 split at h
 ·rename_i e
  simp only [Bool.and_eq_true, decide_eq_true_eq, beq_iff_eq] at h
  exact .inr (.inr (.inr (.inr (.inr ⟨e, h.1⟩))))
 ·cases h
theorem QjQ {v w : V} {x y : TV} {H : Heap} {K : Int → Heap → Prop} (hv : VIs H v x) (hw : VIs H w y) (hB : VB v) (hB2 : VB w) (hF : formV v = true) (hF2 : formV w = true) (k : K (cmpV v w) H) : QM C x y K H := by
 refine V.rec_ (P := fun v => ∀ {w x y H} {K : Int → Heap → Prop}, VIs H v x → VIs H w y → VB v → VB w → formV v = true → formV w = true → K (cmpV v w) H → QM C x y K H) (fun v ih => ?_) v hv hw hB hB2 hF hF2 k
 clear hv hw hB hB2 hF hF2 k
 intro w x y H K hv hw hB hB2 hF hF2 k
 apply QM.gh
 apply Qem
 unfold QcE
 intro b1 n1 b3 n3
 have hb3 : ((H.put b1 (.row (Qb.c x))).put b3 (.row (Qb.c y))) b3 = some (true, .row (Qb.c y)) := Heap.put_same ..
 have hne : b1 ≠ b3 := fun e => by rw [e, Heap.put_same] at n3; cases n3
 have hb1 : ((H.put b1 (.row (Qb.c x))).put b3 (.row (Qb.c y))) b1 = some (true, .row (Qb.c x)) := by rw [Heap.put_ne _ _ _ hne, Heap.put_same]
 have hle := (Heap.le_put n1 (g := .row (Qb.c x)) (m := true)).trans (Heap.le_put n3 (g := .row (Qb.c y)) (m := true))
 generalize (H.put b1 (.row (Qb.c x))).put b3 (.row (Qb.c y)) = H1 at *
 have k' : ∃ H0, Gh C H1 H0 ∧ K (cmpV v w) H0 := ⟨H, Gh.le hle, k⟩
 rw [Qf6, Bool.and_eq_true] at hF hF2
 rw [Qg1] at k'
 refine bxK hb1 (bxK hb3 ?_)
 rw [hv.kind, hw.kind]
 refine Qjc ?_
 refine ift.of (fun h => ?_) (fun h => ?_)
 ·rw [if_pos (fun e => by rw [e, Qdh] at h; simp at h)] at k'; exact k'
 have hkk : v.k = w.k := QaO.1 (by simpa using h)
 rw [if_neg (by simp [hkk])] at k'
 have hr1 := hv.row.le hle
 have hr2 := hw.row.le hle
 refine bxK hb1 ?_
 rw [hv.kind]
 refine ift.of (fun h => ?_) (fun h3 => ?_)
 ·have h : v.k = 3 := by simpa using h
  rw [if_pos h] at k'
  refine bxS hb1 (bxS hb3 ?_)
  rw [hv.txt, hw.txt]
  exact Qjb (Qil hF.1 h) (Qil hF2.1 (by omega)) k'
 have h3 : ¬ v.k = 3 := by simpa using h3
 rw [if_neg h3] at k'
 refine ift.of (fun h => ?_) (fun h4 => ?_)
 ·have h : v.k = 4 := by simpa using h
  rw [if_pos h] at k'
  refine bxS hb1 (bxS hb3 ?_)
  rw [hv.txt, hw.txt]
  exact Qgc k'
 have h4 : ¬ v.k = 4 := by simpa using h4
 rw [if_neg h4] at k'
 refine ⟨H1, Heap.le.refl _, ?_⟩
 refine bxN hb1 (bxN hb3 (bxS hb1 (bxS hb3 (bxL hb1 (bxL hb3 ?_)))))
 rw [hv.num, hw.num, hv.txt, hw.txt]
 refine Qip ⟨Heap.le.refl _, Qgc ⟨Heap.le.refl _, ?_⟩⟩
 refine QgF hr1 hr2 hB.l hB2.l (fun p hp q hq {A x' y'} {K'} hx hy kk => ih p hp hx hy (hB.ls.mem hp) (hB2.ls.mem hq) (QfJ hp hF.2) (QfJ hq hF2.2) kk) ⟨Heap.le.refl _, ?_⟩
 intro b5 n5
 have hle5 := Heap.le_put n5 (g := .row [Value.int .i64 (sgn v.n w.n), .int .i64 (vcmpS v.s w.s), .int .i64 (cmpVs v.l w.l)]) (m := true)
 refine ⟨hle5, ?_⟩
 refine Qjx (l := [sgn v.n w.n, vcmpS v.s w.s, cmpVs v.l w.l]) (Heap.put_same ..) rfl (by simp) ⟨hle5, ?_⟩
 rw [or3]
 obtain ⟨H0, hg, hk⟩ := k'
 refine ⟨H0, (Gh.le hle5).trans hg, ?_⟩
 rcases Qb1 hF.1 with ⟨e, e1, e2⟩ | ⟨e, e1, e2⟩ | ⟨e, _⟩ | ⟨e, _⟩ | ⟨e, e1, e2⟩ | ⟨e, e1⟩
 ·rcases Qb1 hF2.1 with ⟨f, f1, f2⟩ | ⟨f, _⟩ | ⟨f, _⟩ | ⟨f, _⟩ | ⟨f, _⟩ | ⟨f, _⟩ <;> try (exfalso; omega)
  rw [if_neg (by omega), if_neg (by omega)] at hk
  have l1 := List.length_eq_zero_iff.1 e2
  have l2 := List.length_eq_zero_iff.1 f2
  rw [e1, f1, l1, l2]
  split
  ·exact hk
  ·rename_i hz
   have : sgn v.n w.n = 0 := by omega
   rw [this] at hk
   simpa [vcmpS, cmpVs] using hk
 ·rcases Qb1 hF2.1 with ⟨f, _⟩ | ⟨f, f1, f2⟩ | ⟨f, _⟩ | ⟨f, _⟩ | ⟨f, _⟩ | ⟨f, _⟩ <;> try (exfalso; omega)
  rw [if_neg (by omega), if_neg (by omega)] at hk
  have l1 := List.length_eq_zero_iff.1 e2
  have l2 := List.length_eq_zero_iff.1 f2
  rw [e1, f1, l1, l2]
  split
  ·exact hk
  ·rename_i hz
   have : sgn v.n w.n = 0 := by omega
   rw [this] at hk
   simpa [vcmpS, cmpVs] using hk
 ·exact absurd e h3
 ·exact absurd e h4
 ·rcases Qb1 hF2.1 with ⟨f, _⟩ | ⟨f, _⟩ | ⟨f, _⟩ | ⟨f, _⟩ | ⟨f, f1, f2⟩ | ⟨f, _⟩ <;> try (exfalso; omega)
  rw [if_pos e] at hk
  rw [e1, f1, e2, f2, Qdh]
  simpa [vcmpS] using hk
 ·rcases Qb1 hF2.1 with ⟨f, _⟩ | ⟨f, _⟩ | ⟨f, _⟩ | ⟨f, _⟩ | ⟨f, _⟩ | ⟨f, f1⟩ <;> try (exfalso; omega)
  rw [if_neg (by omega), if_pos e] at hk
  rw [e1, f1, Qdh]
  simpa using hk
theorem Qjh {l m : List V} {s t : Sl} {K : Int → Heap → Prop} (hs : VRow H s l) (ht : VRow H t m) (hl : l.length ≤ 140737488355328) (hm : m.length ≤ 140737488355328) (hB : VBs l) (hB2 : VBs m) (hF : mayR l = true) (hF2 : mayR m = true) (k : K (cmpVs l m) H) : QbK C s t K H :=
 QgF hs ht hl hm (fun p hp q hq {A x' y'} {K'} hx hy kk => QjQ hx hy (hB.mem hp) (hB2.mem hq) (QdV (List.all_eq_true.1 hF p hp)) (QdV (List.all_eq_true.1 hF2 q hq)) kk) k
theorem Qb7 {l m : List V} {s t : Sl} {K : Int → Heap → Prop} (hs : VRow H s l) (ht : VRow H t m) (hl : l.length ≤ 140737488355328) (hm : m.length ≤ 140737488355328) (hB : VBs l) (hB2 : VBs m) (k : K (cmpR l m) H) : QG C s t K H := by
 apply QeM
 unfold QcW
 refine Qiq hs hl hB (Qiq ht hm hB2 ?_)
 unfold cmpR at k
 refine ift.of (fun h => ?_) (fun h => ?_)
 ·refine Qje ?_
  rw [if_neg (by intro hh; rw [hh.1, hh.2] at h; cases h)] at k; exact k
 ·have h1 : mayR l = true ∧ mayR m = true := by simpa using h
  rw [if_pos h1] at k
  exact Qjh hs ht hl hm hB hB2 h1.1 h1.2 k
end
end
section
open Go Go.Proofs
/-- an order, told by signs -/
structure Lin {α : Type} (f : α → α → Int) (P : α → Prop) : Prop where
 anti : ∀ a b, P a → P b → f b a = - f a b
 rng : ∀ a b, P a → P b → -1 ≤ f a b ∧ f a b ≤ 1
 tr : ∀ a b c, P a → P b → P c → f a b ≤ 0 → f b c ≤ 0 → f a c ≤ 0 ∧ (f a b < 0 ∨ f b c < 0 → f a c < 0)
section
variable {α β : Type} {f g : α → α → Int} {P Q : α → Prop}
theorem Lin.refl (h : Lin f P) {a : α} (ha : P a) : f a a = 0 := by have := h.anti a a ha ha; omega
theorem Lin.l0 (h : Lin f P) {a b c : α} (ha : P a) (hb : P b) (hc : P c) (e : f a b = 0) : f a c = f b c := by
 have t1 := h.tr a b c ha hb hc (by omega)
 have e' := h.anti a b ha hb
 have t2 := h.tr b a c hb ha hc (by omega)
 have r1 := h.rng a c ha hc
 have r2 := h.rng b c hb hc
 rcases Int.lt_trichotomy (f b c) 0 with h1 | h1 | h1
 ·have := (t1 (by omega)).2 (.inr h1); omega
 ·have k1 := (t1 (by omega)).1
  rcases Int.lt_trichotomy (f a c) 0 with h2 | h2 | h2
  ·have := (t2 (by omega)).2 (.inr h2); omega
  ·omega
  ·omega
 ·rcases Int.lt_trichotomy (f a c) 0 with h2 | h2 | h2
  ·have := (t2 (by omega)).2 (.inr h2); omega
  ·have := (t2 (by omega)).1; omega
  ·omega
theorem Lin.r0 (h : Lin f P) {a b c : α} (ha : P a) (hb : P b) (hc : P c) (e : f b c = 0) : f a c = f a b := by
 have h1 := h.anti b c hb hc
 have h2 := h.l0 hc hb ha (by omega)
 have h3 := h.anti a c ha hc
 have h4 := h.anti a b ha hb
 omega
theorem Lin.sub (h : Lin f P) (hs : ∀ a, Q a → P a) : Lin f Q := ⟨fun a b ha hb => h.anti a b (hs a ha) (hs b hb), fun a b ha hb => h.rng a b (hs a ha) (hs b hb), fun a b c ha hb hc => h.tr a b c (hs a ha) (hs b hb) (hs c hc)⟩
theorem Lin.swap (h : Lin f P) : Lin (fun a b => f b a) P := ⟨fun a b ha hb => h.anti b a hb ha, fun a b ha hb => h.rng b a hb ha, fun a b c ha hb hc h1 h2 => by
 have := h.tr c b a hc hb ha h2 h1
 exact ⟨this.1, fun hh => this.2 hh.symm⟩⟩
theorem Lin.comp {f : β → β → Int} {P : β → Prop} (h : Lin f P) (u : α → β) : Lin (fun a b => f (u a) (u b)) (fun a => P (u a)) :=
 ⟨fun a b ha hb => h.anti _ _ ha hb, fun a b ha hb => h.rng _ _ ha hb, fun a b c ha hb hc => h.tr _ _ _ ha hb hc⟩
theorem Lin.or (h : Lin f P) (h2 : Lin g P) : Lin (fun a b => if f a b ≠ 0 then f a b else g a b) P := by
 refine ⟨fun a b ha hb => ?_, fun a b ha hb => ?_, fun a b c ha hb hc => ?_⟩
 ·have e1 := h.anti a b ha hb
  have e2 := h2.anti a b ha hb
  try dsimp only
  by_cases hz : f a b = 0
  ·rw [if_neg (by omega), if_neg (by omega)]; exact e2
  ·rw [if_pos (by omega), if_pos (by omega)]; exact e1
 ·try dsimp only
  split
  ·exact h.rng a b ha hb
  ·exact h2.rng a b ha hb
 ·try dsimp only
  have t := h.tr a b c ha hb hc
  have t2 := h2.tr a b c ha hb hc
  by_cases h1 : f a b = 0
  ·have e := h.l0 ha hb hc h1
   by_cases h3 : f b c = 0
   ·rw [if_neg (by omega), if_neg (by omega), if_neg (by omega)]; exact t2
   ·rw [if_neg (by omega), if_pos h3, if_pos (by omega)]
    intro _ k2
    exact ⟨by omega, fun _ => by omega⟩
  ·by_cases h3 : f b c = 0
   ·have e := h.r0 ha hb hc h3
    rw [if_pos h1, if_neg (by omega), if_pos (by omega)]
    intro k1 _
    exact ⟨by omega, fun _ => by omega⟩
   ·rw [if_pos h1, if_pos h3]
    intro k1 k2
    have := (t k1 k2).2 (.inl (by omega))
    rw [if_pos (by omega)]
    exact ⟨by omega, fun _ => this⟩
/-- first by classes, then within a class -/
theorem Lin.sel {κ : α → Int} {B : Int → α → α → Int} (hs : Lin (fun a b : Int => sgn a b) fun _ => True) (h : ∀ k, Lin (B k) P) : Lin (fun a b => if κ a ≠ κ b then sgn (κ a) (κ b) else B (κ a) a b) P := by
 refine ⟨fun a b ha hb => ?_, fun a b ha hb => ?_, fun a b c ha hb hc => ?_⟩
 ·try dsimp only
  by_cases hz : κ a = κ b
  ·rw [if_neg (by omega), if_neg (by omega), hz]; exact (h _).anti a b ha hb
  ·rw [if_pos (by omega), if_pos (by omega)]; exact hs.anti _ _ trivial trivial
 ·try dsimp only
  split
  ·exact hs.rng _ _ trivial trivial
  ·exact (h _).rng a b ha hb
 ·try dsimp only
  have t := hs.tr (κ a) (κ b) (κ c) trivial trivial trivial
  try dsimp only at t
  by_cases h1 : κ a = κ b
  ·by_cases h3 : κ b = κ c
   ·rw [if_neg (by omega), if_neg (by omega), if_neg (by omega), ← h1]; exact (h _).tr a b c ha hb hc
   ·rw [if_neg (by omega), if_pos h3, if_pos (by omega), h1]
    intro _ k2
    have := QaO (a := κ b) (b := κ c)
    exact ⟨by omega, fun _ => by omega⟩
  ·have z1 := QaO (a := κ a) (b := κ b)
   by_cases h3 : κ b = κ c
   ·rw [if_pos h1, if_neg (by omega), if_pos (by omega), ← h3]
    intro k1 _
    exact ⟨by omega, fun _ => by omega⟩
   ·rw [if_pos h1, if_pos h3]
    intro k1 k2
    have := (t k1 k2).2 (.inl (by omega))
    have z2 := Qfe.1 this
    rw [if_pos (by omega)]
    exact ⟨by omega, fun _ => this⟩
end
theorem Lin.sgn : Lin (fun a b : Int => sgn a b) fun _ => True := by
 refine ⟨fun a b _ _ => ?_, fun a b _ _ => QiG a b, fun a b c _ _ _ h1 h2 => ?_⟩
 ·unfold Sx.sgn; split <;> split <;> omega
 ·have n1 := Qfe (a := a) (b := b)
  have n2 := Qfe (a := b) (b := c)
  have n3 := Qfe (a := a) (b := c)
  have z1 := QaO (a := a) (b := b)
  have z2 := QaO (a := b) (b := c)
  have z3 := QaO (a := a) (b := c)
  omega
def lexF {α : Type} (f : α → α → Int) : List α → List α → Int
 | [], [] => 0
 | [], _ :: _ => -1
 | _ :: _, [] => 1
 | a :: s, b :: t => if f a b ≠ 0 then f a b else lexF f s t
theorem Lin.lex {α : Type} {f : α → α → Int} {P : α → Prop} (h : Lin f P) : Lin (lexF f) (fun l => ∀ a ∈ l, P a) := by
 refine ⟨fun l => ?_, fun l => ?_, fun l => ?_⟩
 ·induction l with
  | nil => intro m _ _; cases m <;> simp [lexF]
  | cons a l ih =>
   intro m hl hm
   cases m with
   | nil => simp [lexF]
   | cons b m =>
    have ha := hl a (List.mem_cons_self ..)
    have hb := hm b (List.mem_cons_self ..)
    have e1 := h.anti a b ha hb
    have e2 := ih m (fun x hx => hl x (List.mem_cons_of_mem _ hx)) (fun x hx => hm x (List.mem_cons_of_mem _ hx))
    simp only [lexF]
    by_cases hz : f a b = 0
    ·rw [if_neg (by omega), if_neg (by omega)]; exact e2
    ·rw [if_pos (by omega), if_pos (by omega)]; exact e1
 ·induction l with
  | nil => intro m _ _; cases m <;> simp [lexF]
  | cons a l ih =>
   intro m hl hm
   cases m with
   | nil => simp [lexF]
   | cons b m =>
    simp only [lexF]
    split
    ·exact h.rng a b (hl a (List.mem_cons_self ..)) (hm b (List.mem_cons_self ..))
    ·exact ih m (fun x hx => hl x (List.mem_cons_of_mem _ hx)) (fun x hx => hm x (List.mem_cons_of_mem _ hx))
 ·induction l with
  | nil =>
   intro m n _ _ _ h1 h2
   cases n with
   | nil =>
    cases m with
    | nil => simp [lexF]
    | cons b m => simp [lexF] at h2
   | cons c n => simp [lexF]
  | cons a l ih =>
   intro m n hl hm hn
   cases m with
   | nil => intro h1; simp [lexF] at h1
   | cons b m =>
   cases n with
   | nil => intro _ h2; simp [lexF] at h2
   | cons c n =>
    have ha := hl a (List.mem_cons_self ..)
    have hb := hm b (List.mem_cons_self ..)
    have hc := hn c (List.mem_cons_self ..)
    have t := h.tr a b c ha hb hc
    have t2 := ih m n (fun x hx => hl x (List.mem_cons_of_mem _ hx)) (fun x hx => hm x (List.mem_cons_of_mem _ hx)) (fun x hx => hn x (List.mem_cons_of_mem _ hx))
    simp only [lexF]
    by_cases h1 : f a b = 0
    ·have e := h.l0 ha hb hc h1
     by_cases h3 : f b c = 0
     ·rw [if_neg (by omega), if_neg (by omega), if_neg (by omega)]; exact t2
     ·rw [if_neg (by omega), if_pos h3, if_pos (by omega)]
      intro _ k2
      exact ⟨by omega, fun _ => by omega⟩
    ·by_cases h3 : f b c = 0
     ·have e := h.r0 ha hb hc h3
      rw [if_pos h1, if_neg (by omega), if_pos (by omega)]
      intro k1 _
      exact ⟨by omega, fun _ => by omega⟩
     ·rw [if_pos h1, if_pos h3]
      intro k1 k2
      have := (t k1 k2).2 (.inl (by omega))
      rw [if_pos (by omega)]
      exact ⟨by omega, fun _ => this⟩
theorem QgP : ∀ s t : Str, vcmpS s t = lexF (fun a b : UInt8 => sgn a.toNat b.toNat) s t
 | [], [] => rfl
 | [], _ :: _ => rfl
 | _ :: _, [] => rfl
 | a :: s, b :: t => by
  simp only [vcmpS, lexF, QgP s t]
  by_cases h : a = b
  ·subst h; rw [Qdh]; simp
  ·have : ¬ sgn a.toNat b.toNat = 0 := fun e => h (UInt8.toNat_inj.1 (by have := QaO.1 e; omega))
   rw [if_neg h, if_pos this]
theorem Lin.txt : Lin vcmpS fun _ => True := by
 have h := (Lin.sgn.comp (fun a : UInt8 => (a.toNat : Int))).lex
 have e : vcmpS = lexF (fun a b : UInt8 => Sx.sgn a.toNat b.toNat) := funext fun s => funext fun t => QgP s t
 rw [e]
 exact h.sub fun _ _ _ _ => trivial
theorem Lin.dig : Lin cmpD fun _ => True := by
 have h := (Lin.sgn.comp (fun a : Str => (a.length : Int))).or Lin.txt
 have e : cmpD = fun a b : Str => if Sx.sgn a.length b.length ≠ 0 then Sx.sgn a.length b.length else vcmpS a b := funext fun a => funext fun b => by
  unfold cmpD
  by_cases hl : a.length = b.length
  ·rw [if_pos hl, if_neg (by rw [hl, Qdh]; simp)]
  ·rw [if_neg hl, if_pos (fun e => hl (by have := QaO.1 e; omega))]
 rw [e]; exact h
theorem Lin.bigs : Lin cmpB fun _ => True := by
 have h := Lin.sel (α := Str) (P := fun _ => True) (κ := fun s => if isMin s then 0 else 1) (B := fun k a b => if k = 0 then cmpD b.tail a.tail else cmpD a b) Lin.sgn fun k => by
  by_cases hk : k = 0
  ·subst hk
   simp only [if_true]
   exact (Lin.dig.swap.comp List.tail)
  ·simp only [if_neg hk]
   exact Lin.dig
 have e : cmpB = fun a b : Str => if (if isMin a then (0 : Int) else 1) ≠ (if isMin b then 0 else 1) then Sx.sgn (if isMin a then 0 else 1) (if isMin b then 0 else 1) else (if (if isMin a then (0 : Int) else 1) = 0 then cmpD b.tail a.tail else cmpD a b) := funext fun a => funext fun b => by
  unfold cmpB
  cases ha : isMin a <;> cases hb : isMin b <;> simp [Sx.sgn]
 rw [e]; exact h
theorem Qe3 : ∀ l m : List V, cmpVs l m = lexF cmpV l m
 | [], [] => rfl
 | [], _ :: _ => rfl
 | _ :: _, [] => rfl
 | v :: l, w :: m => by simp only [cmpVs, lexF, Qe3 l m]
theorem Lin.vals : ∀ n : Nat, Lin cmpV fun v => vsize v ≤ n := by
 intro n
 induction n with
 | zero => exact ⟨fun a b ha => by obtain ⟨k, n, s, l⟩ := a; simp [vsize] at ha, fun a b ha => by obtain ⟨k, n, s, l⟩ := a; simp [vsize] at ha, fun a b c ha => by obtain ⟨k, n, s, l⟩ := a; simp [vsize] at ha⟩
 | succ n ih =>
  have hl : Lin (fun v w : V => cmpVs v.l w.l) fun v => vsize v ≤ n + 1 := by
   have h := (ih.lex).comp V.l
   have e : (fun v w : V => cmpVs v.l w.l) = fun v w : V => lexF cmpV v.l w.l := funext fun v => funext fun w => Qe3 _ _
   rw [e]
   exact h.sub fun v hv x hx => by have := Qhl hx; omega
  have hs : Lin (fun v w : V => vcmpS v.s w.s) fun v => vsize v ≤ n + 1 := (Lin.txt.comp V.s).sub fun _ _ => trivial
  have h := Lin.sel (α := V) (P := fun v => vsize v ≤ n + 1) (κ := V.k) (B := fun k v w => if k = 3 then cmpB v.s w.s else if k = 4 then vcmpS v.s w.s else if k = 5 then cmpVs v.l w.l else if k = 6 then (if vcmpS v.s w.s ≠ 0 then vcmpS v.s w.s else cmpVs v.l w.l) else Sx.sgn v.n w.n) Lin.sgn fun k => by
   by_cases h3 : k = 3
   ·simp only [if_pos h3]; exact (Lin.bigs.comp V.s).sub fun _ _ => trivial
   simp only [if_neg h3]
   by_cases h4 : k = 4
   ·simp only [if_pos h4]; exact hs
   simp only [if_neg h4]
   by_cases h5 : k = 5
   ·simp only [if_pos h5]; exact hl
   simp only [if_neg h5]
   by_cases h6 : k = 6
   ·simp only [if_pos h6]; exact hs.or hl
   simp only [if_neg h6]
   exact (Lin.sgn.comp V.n).sub fun _ _ => trivial
  have e : cmpV = fun v w : V => if v.k ≠ w.k then Sx.sgn v.k w.k else if v.k = 3 then cmpB v.s w.s else if v.k = 4 then vcmpS v.s w.s else if v.k = 5 then cmpVs v.l w.l else if v.k = 6 then (if vcmpS v.s w.s ≠ 0 then vcmpS v.s w.s else cmpVs v.l w.l) else Sx.sgn v.n w.n := funext fun v => funext fun w => Qg1 v w
  rw [e]; exact h
theorem Lin.val : Lin cmpV fun _ => True := by
 refine ⟨fun a b _ _ => ?_, fun a b _ _ => ?_, fun a b c _ _ _ => ?_⟩
 ·exact (Lin.vals (vsize a + vsize b)).anti a b (by omega) (by omega)
 ·exact (Lin.vals (vsize a + vsize b)).rng a b (by omega) (by omega)
 ·exact (Lin.vals (vsize a + vsize b + vsize c)).tr a b c (by omega) (by omega) (by omega)
theorem Lin.vs : Lin cmpVs fun _ => True := by
 have e : cmpVs = lexF cmpV := funext fun l => funext fun m => Qe3 l m
 rw [e]
 exact Lin.val.lex.sub fun _ _ _ _ => trivial
theorem Lin.row : Lin cmpR fun _ => True := by
 have h := Lin.sel (α := List V) (P := fun _ => True) (κ := fun l => if mayR l then 0 else 1) (B := fun k a b => if k = 0 then cmpVs a b else 0) Lin.sgn fun k => by
  by_cases hk : k = 0
  ·simp only [if_pos hk]; exact Lin.vs
  ·simp only [if_neg hk]
   exact ⟨fun _ _ _ _ => rfl, fun _ _ _ _ => by simp, fun _ _ _ _ _ _ _ _ => by simp⟩
 have e : cmpR = fun a b : List V => if (if mayR a then (0 : Int) else 1) ≠ (if mayR b then 0 else 1) then Sx.sgn (if mayR a then 0 else 1) (if mayR b then 0 else 1) else (if (if mayR a then (0 : Int) else 1) = 0 then cmpVs a b else 0) := funext fun a => funext fun b => by
  unfold cmpR lastB
  cases ha : mayR a <;> cases hb : mayR b <;> simp [Sx.sgn]
 rw [e]; exact h
theorem Qgu {a b : Str} (h : cmpD a b = 0) : a = b := by
 unfold cmpD at h
 by_cases hl : a.length = b.length
 ·rw [if_pos hl] at h; exact (vslt a b).2.1.1 h
 ·rw [if_neg hl] at h; exact absurd (QaO.1 h) (by omega)
theorem QfL {a : Str} (h : isMin a = true) : a = 45 :: a.tail := by
 cases a with
 | nil => simp [isMin] at h
 | cons c a => simp [isMin] at h; rw [h]; rfl
theorem Qh3 {a b : Str} (h : cmpB a b = 0) : a = b := by
 unfold cmpB at h
 cases ha : isMin a <;> cases hb : isMin b <;> rw [ha, hb] at h
 ·exact Qgu (by simpa using h)
 ·simp at h
 ·simp at h
 ·have := Qgu (by simpa using h)
  rw [QfL ha, QfL hb, this]
theorem Qh4 {v w : V} (hv : formV v = true) (hw : formV w = true) (h : cmpV v w = 0) : v = w := by
 have key : ∀ n, ∀ v w : V, vsize v ≤ n → formV v = true → formV w = true → cmpV v w = 0 → v = w := by
  intro n
  induction n with
  | zero => intro v w hn; obtain ⟨k, n, s, l⟩ := v; simp [vsize] at hn
  | succ n ih =>
   intro v w hn hv hw h
   have hrow : ∀ l m : List V, (∀ x ∈ l, vsize x ≤ n) → formVs l = true → formVs m = true → cmpVs l m = 0 → l = m := by
    intro l
    induction l with
    | nil => intro m _ _ _ h; cases m with
     | nil => rfl
     | cons w m => simp [cmpVs] at h
    | cons a l ihl =>
     intro m hn hl hm h
     cases m with
     | nil => simp [cmpVs] at h
     | cons b m =>
      simp only [cmpVs] at h
      simp only [formVs, Bool.and_eq_true] at hl hm
      split at h
      ·rename_i h1; exact absurd h h1
      ·rename_i h1
       have h1 : cmpV a b = 0 := by omega
       rw [ih a b (hn a (List.mem_cons_self ..)) hl.1 hm.1 h1, ihl m (fun x hx => hn x (List.mem_cons_of_mem _ hx)) hl.2 hm.2 h]
   have hvl : ∀ x ∈ v.l, vsize x ≤ n := fun x hx => by have := Qhl hx; omega
   rw [Qf6, Bool.and_eq_true] at hv hw
   rw [Qg1] at h
   have ext : v.k = w.k → v.n = w.n → v.s = w.s → v.l = w.l → v = w := by
    intro e1 e2 e3 e4
    obtain ⟨k, n1, s, l⟩ := v
    obtain ⟨k', n1', s', l'⟩ := w
    have e1 : k = k' := e1
    have e2 : n1 = n1' := e2
    have e3 : s = s' := e3
    have e4 : l = l' := e4
    rw [e1, e2, e3, e4]
   by_cases hk : v.k = w.k
   ·rw [if_neg (by simp [hk])] at h
    rcases Qb1 hv.1 with ⟨e, e1, e2⟩ | ⟨e, e1, e2⟩ | ⟨e, e1, e2⟩ | ⟨e, e1, e2⟩ | ⟨e, e1, e2⟩ | ⟨e, e1⟩ <;>
    rcases Qb1 hw.1 with ⟨f, f1, f2⟩ | ⟨f, f1, f2⟩ | ⟨f, f1, f2⟩ | ⟨f, f1, f2⟩ | ⟨f, f1, f2⟩ | ⟨f, f1⟩ <;> try (exfalso; omega)
    ·rw [if_neg (by omega), if_neg (by omega), if_neg (by omega), if_neg (by omega)] at h
     exact ext hk (QaO.1 h) (e1.trans f1.symm) ((List.length_eq_zero_iff.1 e2).trans (List.length_eq_zero_iff.1 f2).symm)
    ·rw [if_neg (by omega), if_neg (by omega), if_neg (by omega), if_neg (by omega)] at h
     exact ext hk (QaO.1 h) (e1.trans f1.symm) ((List.length_eq_zero_iff.1 e2).trans (List.length_eq_zero_iff.1 f2).symm)
    ·rw [if_pos e] at h
     exact ext hk (e1.trans f1.symm) (Qh3 h) ((List.length_eq_zero_iff.1 e2).trans (List.length_eq_zero_iff.1 f2).symm)
    ·rw [if_neg (by omega), if_pos e] at h
     exact ext hk (e1.trans f1.symm) ((vslt v.s w.s).2.1.1 h) ((List.length_eq_zero_iff.1 e2).trans (List.length_eq_zero_iff.1 f2).symm)
    ·rw [if_neg (by omega), if_neg (by omega), if_pos e] at h
     exact ext hk (e1.trans f1.symm) (e2.trans f2.symm) (hrow v.l w.l hvl hv.2 hw.2 h)
    ·rw [if_neg (by omega), if_neg (by omega), if_neg (by omega), if_pos e] at h
     split at h
     ·rename_i h1; exact absurd h h1
     ·rename_i h1
      exact ext hk (e1.trans f1.symm) ((vslt v.s w.s).2.1.1 (by omega)) (hrow v.l w.l hvl hv.2 hw.2 h)
   ·rw [if_pos hk] at h; exact absurd (QaO.1 h) hk
 exact key _ v w (Nat.le_refl _) hv hw h
theorem QfH : ∀ {l m : List V}, mayR l = true → mayR m = true → cmpVs l m = 0 → l = m
 | [], [], _, _, _ => rfl
 | [], _ :: _, _, _, h => by simp [cmpVs] at h
 | _ :: _, [], _, _, h => by simp [cmpVs] at h
 | v :: l, w :: m, hl, hm, h => by
  simp only [cmpVs] at h
  simp only [mayR, List.all_cons, Bool.and_eq_true] at hl hm
  split at h
  ·rename_i h1; exact absurd h h1
  ·rename_i h1
   rw [Qh4 (QdV hl.1) (QdV hm.1) (by omega), QfH (l := l) (m := m) hl.2 hm.2 h]
theorem QdR {l m : List V} (hl : mayR l = true) (hm : mayR m = true) : cmpR l m = 0 ↔ l = m := by
 refine ⟨fun h => ?_, fun h => by rw [h]; exact Lin.row.refl trivial⟩
 unfold cmpR at h
 rw [if_pos ⟨hl, hm⟩] at h
 exact QfH hl hm h
end
section
open Go Go.Proofs
section
variable {α : Type} {κ : α → α → Int} {ι : α → Nat} {P : α → Prop}
/-- stands ahead; of two alike the one that was ahead -/
def Bf (κ : α → α → Int) (ι : α → Nat) (x y : α) : Prop := κ x y < 0 ∨ (κ x y = 0 ∧ ι x < ι y)
theorem Bf.le {x y : α} (h : Bf κ ι x y) : κ x y ≤ 0 := by rcases h with h | h <;> omega
theorem Bf.of {x y : α} (h : κ x y ≤ 0) (hi : ι x < ι y) : Bf κ ι x y := by
 rcases Int.lt_or_eq_of_le h with h | h
 ·exact .inl h
 ·exact .inr ⟨h, hi⟩
theorem QcT {R : α → α → Prop} {Y : List α} (h : Y.Pairwise R) {i : Nat} (hi : i < Y.length) : (∀ y ∈ Y.take i, R y Y[i]) ∧ (∀ y ∈ Y.drop (i + 1), R Y[i] y) := by
 have h' : (Y.take i ++ Y[i] :: Y.drop (i + 1)).Pairwise R := by rw [← List.drop_eq_getElem_cons hi, List.take_append_drop]; exact h
 rw [List.pairwise_append] at h'
 exact ⟨fun y hy => h'.2.2 y hy _ (List.mem_cons_self ..), fun y hy => (List.pairwise_cons.1 h'.2.1).1 y hy⟩
theorem Qdg {R : α → α → Prop} {Y : List α} (h : Y.Pairwise R) (i : Nat) : (Y.take i).Pairwise R ∧ (Y.drop i).Pairwise R ∧ ∀ x ∈ Y.take i, ∀ y ∈ Y.drop i, R x y := by
 have h' : (Y.take i ++ Y.drop i).Pairwise R := by rw [List.take_append_drop]; exact h
 exact List.pairwise_append.1 h'
theorem Qev {Y : List α} {i : Nat} (hi : i < Y.length) : Y = Y.take i ++ Y[i] :: Y.drop (i + 1) := by rw [← List.drop_eq_getElem_cons hi, List.take_append_drop]
theorem QP {Y : List α} {i : Nat} {x : α} (h : x ∈ Y.take i) : x ∈ Y := List.mem_of_mem_take h
theorem Qap {Y : List α} {i : Nat} {x : α} (h : x ∈ Y.drop i) : x ∈ Y := List.mem_of_mem_drop h
theorem Qge {Y : List α} (h : Y ≠ []) : ∃ Z z, Y = Z ++ [z] := ⟨Y.dropLast, Y.getLast h, (List.dropLast_concat_getLast h).symm⟩
/-- one, then many -/
theorem ins1 (hL : Lin κ P) {x : α} {Y1 Y2 : List α} (hY : (Y1 ++ Y2).Pairwise (Bf κ ι)) (hPx : P x) (hPY : ∀ y ∈ Y1 ++ Y2, P y) (h1 : ∀ y ∈ Y1, κ y x < 0) (h2 : ∀ y ∈ Y2, ¬ κ y x < 0) (hi : ∀ y ∈ Y1 ++ Y2, ι x < ι y) : (Y1 ++ x :: Y2).Pairwise (Bf κ ι) := by
 rw [List.pairwise_append] at hY ⊢
 refine ⟨hY.1, List.pairwise_cons.2 ⟨fun y hy => ?_, hY.2.1⟩, fun y hy z hz => ?_⟩
 ·have hm := List.mem_append_right Y1 hy
  have := hL.anti y x (hPY y hm) hPx
  have := h2 y hy
  exact Bf.of (by omega) (hi y hm)
 ·rcases List.mem_cons.1 hz with rfl | hz
  ·exact .inl (h1 y hy)
  ·exact hY.2.2 y hy z hz
/-- many, then one -/
theorem ins2 (hL : Lin κ P) {y : α} {X1 X2 : List α} (hX : (X1 ++ X2).Pairwise (Bf κ ι)) (hPy : P y) (hPX : ∀ x ∈ X1 ++ X2, P x) (h1 : ∀ x ∈ X1, ¬ κ y x < 0) (h2 : ∀ x ∈ X2, κ y x < 0) (hi : ∀ x ∈ X1 ++ X2, ι x < ι y) : (X1 ++ y :: X2).Pairwise (Bf κ ι) := by
 rw [List.pairwise_append] at hX ⊢
 refine ⟨hX.1, List.pairwise_cons.2 ⟨fun x hx => .inl (h2 x hx), hX.2.1⟩, fun x hx z hz => ?_⟩
 rcases List.mem_cons.1 hz with rfl | hz
 ·have hm := List.mem_append_left X2 hx
  have := hL.anti z x hPy (hPX x hm)
  have := h1 x hx
  exact Bf.of (by omega) (hi x hm)
 ·exact hX.2.2 x hx z hz
/-- what was sorted by blocks -/
inductive Ch (κ : α → α → Int) (ι : α → Nat) (bs : Nat) : List α → List α → Prop
 | last {Z L : List α} : L.length < bs → Z.Perm L → Z.Pairwise (Bf κ ι) → Ch κ ι bs Z L
 | cons {Z L Z' L' : List α} : L.length = bs → Z.Perm L → Z.Pairwise (Bf κ ι) → Ch κ ι bs Z' L' → Ch κ ι bs (Z ++ Z') (L ++ L')
theorem Ch.perm {bs : Nat} {Z L : List α} (h : Ch κ ι bs Z L) : Z.Perm L := by
 induction h with
 | last _ h _ => exact h
 | cons _ h _ _ ih => exact h.append ih
theorem Ch.big {bs : Nat} {Z L : List α} (h : Ch κ ι bs Z L) (hl : bs ≤ L.length) : ∃ Z1 Z2 L1 L2, Z = Z1 ++ Z2 ∧ L = L1 ++ L2 ∧ L1.length = bs ∧ Z1.Perm L1 ∧ Z1.Pairwise (Bf κ ι) ∧ Ch κ ι bs Z2 L2 := by
 cases h with
 | last h _ _ => omega
 | cons h1 h2 h3 h4 => exact ⟨_, _, _, _, rfl, rfl, h1, h2, h3, h4⟩
theorem Ch.small {bs : Nat} {Z L : List α} (h : Ch κ ι bs Z L) (hl : L.length < bs) : Z.Pairwise (Bf κ ι) := by
 cases h with
 | last _ _ h => exact h
 | cons h1 h2 h3 h4 => rw [List.length_append] at hl; omega
theorem Ch.all {bs : Nat} {Z L : List α} (h : Ch κ ι bs Z L) (hl : L.length ≤ bs) (h0 : 0 < bs) : Z.Pairwise (Bf κ ι) := by
 cases h with
 | last _ _ h => exact h
 | @cons Z1 L1 Z2 L2 h1 h2 h3 h4 =>
  rw [List.length_append] at hl
  have hp := h4.perm.length_eq
  have e : Z2 = [] := List.length_eq_zero_iff.1 (by rw [hp]; omega)
  rw [e, List.append_nil]; exact h3
end
theorem Qc2 {a b : Nat} (h : a + b ≤ 4611686018427387904) : w .i64 (sShr .u64 (w .u64 (w .i64 ((a : Int) + (b : Int)))) 1) = (((a + b) / 2 : Nat) : Int) := by
 have e1 : w .u64 ((a : Int) + b) = (a : Int) + b := by
  exact Qkl (by omega) (by omega)
 have e2 : sShr .u64 ((a : Int) + b) 1 = (((a + b) / 2 : Nat) : Int) := by
  unfold sShr
  have : (2 : Int) ^ (min (1 : Int).toNat IntKind.u64.bits) = 2 := by decide
  rw [this, Int.fdiv_eq_ediv_of_nonneg _ (by omega)]; omega
 rw [Qi (x := (a : Int) + b) (by omega) (by omega), e1, e2, Qi (by omega) (by omega)]
end
section
open Go Go.Proofs
section
variable {α β : Type} {κ : α → α → Int} {ι : α → Nat} {P : α → Prop}
/-- those behind p that are unlike the one ahead of them -/
def cpt (κ : α → α → Int) : α → List α → List α
 | _, [] => []
 | p, y :: l => if κ y p = 0 then cpt κ y l else y :: cpt κ y l
def cmpct (κ : α → α → Int) : List α → List α
 | [] => []
 | x :: l => x :: cpt κ x l
theorem Qhs {x y : α} : ∀ (l : List α) (p : α), cpt κ p (l ++ [x, y]) = cpt κ p (l ++ [x]) ++ (if κ y x = 0 then [] else [y])
 | [], p => by
  simp only [List.nil_append, cpt]
  by_cases h : κ y x = 0 <;> by_cases h2 : κ x p = 0 <;> simp [h, h2]
 | z :: l, p => by
  have ih := Qhs (x := x) (y := y) l z
  simp only [List.cons_append, cpt]
  by_cases h2 : κ z p = 0
  ·rw [if_pos h2, if_pos h2, ih]
  ·rw [if_neg h2, if_neg h2, ih, List.cons_append]
theorem Qcy {x y : α} : ∀ l : List α, cmpct κ (l ++ [x, y]) = cmpct κ (l ++ [x]) ++ (if κ y x = 0 then [] else [y])
 | [] => by
  simp only [List.nil_append, cmpct, cpt]
  by_cases h : κ y x = 0 <;> simp [h]
 | z :: l => by
  simp only [List.cons_append, cmpct, Qhs]
theorem Qh6 : ∀ (l : List α) (p : α), (cpt κ p l).length ≤ l.length
 | [], p => Nat.le_refl _
 | y :: l, p => by
  have := Qh6 l y
  simp only [cpt]
  split <;> simp only [List.length_cons] <;> omega
theorem Qh5 : ∀ l : List α, (cmpct κ l).length ≤ l.length
 | [] => Nat.le_refl _
 | x :: l => by have := Qh6 (κ := κ) l x; simp only [cmpct, List.length_cons]; omega
/-- of each kind the first one, rising -/
structure Rep (κ : α → α → Int) (ι : α → Nat) (L A : List α) : Prop where
 asc : A.Pairwise fun a b => κ a b < 0
 sub : ∀ y ∈ A, y ∈ L
 all : ∀ x ∈ L, ∃ y ∈ A, κ y x = 0
 fst : ∀ y ∈ A, ∀ x ∈ L, κ y x = 0 → x = y ∨ ι y < ι x
theorem Rep.perm {L M A : List α} (h : Rep κ ι L A) (hp : L.Perm M) : Rep κ ι M A :=
 ⟨h.asc, fun y hy => hp.mem_iff.1 (h.sub y hy), fun x hx => h.all x (hp.mem_iff.2 hx), fun y hy x hx => h.fst y hy x (hp.mem_iff.2 hx)⟩
theorem Qju (hL : Lin κ P) : ∀ (l : List α) (p : α), (p :: l).Pairwise (Bf κ ι) → (∀ x ∈ p :: l, P x) →
 (∀ y ∈ cpt κ p l, y ∈ l ∧ κ p y < 0) ∧ ((cpt κ p l).Pairwise fun a b => κ a b < 0) ∧ (∀ x ∈ l, κ p x = 0 ∨ ∃ y ∈ cpt κ p l, κ y x = 0) ∧ (∀ y ∈ cpt κ p l, ∀ x ∈ p :: l, κ y x = 0 → x = y ∨ ι y < ι x)
 | [], p, _, _ => ⟨fun y hy => (by cases hy), .nil, fun x hx => (by cases hx), fun y hy => (by cases hy)⟩
 | y :: l, p, hs, hP => by
  have hs1 := (List.pairwise_cons.1 hs)
  have hs2 := (List.pairwise_cons.1 hs1.2)
  have hp := hP p (List.mem_cons_self ..)
  have hP2 : ∀ x ∈ y :: l, P x := fun x hx => hP x (List.mem_cons_of_mem _ hx)
  have hy := hP2 y (List.mem_cons_self ..)
  have hPl : ∀ x ∈ l, P x := fun x hx => hP2 x (List.mem_cons_of_mem _ hx)
  obtain ⟨i1, i2, i3, i4⟩ := Qju hL l y hs1.2 hP2
  have han := hL.anti p y hp hy
  have hle := (hs1.1 y (List.mem_cons_self ..)).le
  have hlt : ∀ z ∈ cpt κ y l, κ p z < 0 := fun z hz => by
   have ⟨m, n⟩ := i1 z hz
   exact (hL.tr p y z hp hy (hPl z m) hle (by omega)).2 (.inr n)
  have hpz : ∀ z ∈ l, κ p z < 0 → κ z p ≠ 0 := fun z hz h e => by
   have := hL.anti p z hp (hPl z hz); omega
  simp only [cpt]
  by_cases h : κ y p = 0
  ·rw [if_pos h]
   have h0 : κ p y = 0 := by omega
   refine ⟨fun z hz => ⟨List.mem_cons_of_mem _ (i1 z hz).1, hlt z hz⟩, i2, fun x hx => ?_, fun z hz x hx e => ?_⟩
   ·rcases List.mem_cons.1 hx with rfl | hx
    ·exact .inl h0
    ·rcases i3 x hx with h3 | h3
     ·exact .inl (by rw [hL.l0 hp hy (hPl x hx) h0]; exact h3)
     ·exact .inr h3
   ·rcases List.mem_cons.1 hx with rfl | hx
    ·exact absurd e (hpz z (i1 z hz).1 (hlt z hz))
    ·exact i4 z hz x hx e
  ·rw [if_neg h]
   have h0 : κ p y < 0 := by omega
   refine ⟨fun z hz => ?_, List.pairwise_cons.2 ⟨fun z hz => (i1 z hz).2, i2⟩, fun x hx => ?_, fun z hz x hx e => ?_⟩
   ·rcases List.mem_cons.1 hz with rfl | hz
    ·exact ⟨List.mem_cons_self .., h0⟩
    ·exact ⟨List.mem_cons_of_mem _ (i1 z hz).1, hlt z hz⟩
   ·rcases List.mem_cons.1 hx with rfl | hx
    ·exact .inr ⟨_, List.mem_cons_self .., hL.refl hy⟩
    ·rcases i3 x hx with h3 | ⟨z, hz, h3⟩
     ·exact .inr ⟨_, List.mem_cons_self .., h3⟩
     ·exact .inr ⟨z, List.mem_cons_of_mem _ hz, h3⟩
   ·rcases List.mem_cons.1 hz with rfl | hz
    ·rcases List.mem_cons.1 hx with rfl | hx
     ·exact absurd e h
     ·rcases List.mem_cons.1 hx with rfl | hx
      ·exact .inl rfl
      ·rcases hs2.1 x hx with h5 | h5
       ·omega
       ·exact .inr h5.2
    ·rcases List.mem_cons.1 hx with rfl | hx
     ·exact absurd e (hpz z (i1 z hz).1 (hlt z hz))
     ·exact i4 z hz x hx e
theorem QiZ (hL : Lin κ P) {Z : List α} (hs : Z.Pairwise (Bf κ ι)) (hP : ∀ x ∈ Z, P x) : Rep κ ι Z (cmpct κ Z) := by
 cases Z with
 | nil => exact ⟨.nil, fun y hy => hy, fun x hx => (by cases hx), fun y hy => (by cases hy)⟩
 | cons p l =>
  obtain ⟨i1, i2, i3, i4⟩ := Qju hL l p hs hP
  have hs1 := List.pairwise_cons.1 hs
  have hp := hP p (List.mem_cons_self ..)
  refine ⟨List.pairwise_cons.2 ⟨fun z hz => (i1 z hz).2, i2⟩, fun y hy => ?_, fun x hx => ?_, fun y hy x hx e => ?_⟩
  ·rcases List.mem_cons.1 hy with rfl | hy
   ·exact List.mem_cons_self ..
   ·exact List.mem_cons_of_mem _ (i1 y hy).1
  ·rcases List.mem_cons.1 hx with rfl | hx
   ·exact ⟨_, List.mem_cons_self .., hL.refl hp⟩
   ·rcases i3 x hx with h | ⟨y, hy, h⟩
    ·exact ⟨p, List.mem_cons_self .., h⟩
    ·exact ⟨y, List.mem_cons_of_mem _ hy, h⟩
  ·rcases List.mem_cons.1 hy with rfl | hy
   ·rcases List.mem_cons.1 hx with rfl | hx
    ·exact .inl rfl
    ·rcases hs1.1 x hx with h | h
     ·omega
     ·exact .inr h.2
   ·exact i4 y hy x hx e
end
end
section
open Go Go.Proofs
def Heap.new (H H2 : Heap) : Heap := fun x => if (H x).isSome then none else H2 x
theorem Heap.new_some {H H2 : Heap} {x : Nat} {e : Bool × GO} (h : H2 x = some e) (hn : H x = none) : Heap.new H H2 x = some e := by
 unfold Heap.new; rw [hn]; exact h
theorem Heap.new_inv {H H2 : Heap} {x : Nat} {e : Bool × GO} (h : Heap.new H H2 x = some e) : H x = none ∧ H2 x = some e := by
 unfold Heap.new at h
 cases hx : H x with
 | none => rw [hx] at h; exact ⟨rfl, h⟩
 | some y => rw [hx] at h; cases h
theorem Heap.new_le (H H2 : Heap) : (Heap.new H H2).le H2 := fun x e h => (Heap.new_inv h).2
/-- a row of values that may be written over, with all that is in it: its blocks are N's; k deep at most -/
def Sp (N : Nat → Prop) (H : Heap) : Nat → Sl → Prop
 | 0, t => t.len = 0
 | k + 1, t => t.len = 0 ∨ ∃ (b : Nat) (xs : List TV) (sp : List Value), N b ∧ t.p = some (b, 0) ∧ t.x = none ∧ H b = some (true, .row (xs.flatMap Qb.c ++ sp)) ∧ (t.len ≤ xs.length ∧ xs.length ≤ 2513169434843) ∧ ∀ x ∈ xs, Sp N H k x.L
section
variable {N M : Nat → Prop} {H H2 : Heap}
theorem Sp.nil (k : Nat) {t : Sl} (h : t.len = 0) : Sp N H k t := by
 cases k with
 | zero => exact h
 | succ k => exact .inl h
theorem Sp.mono : ∀ {k : Nat} {t : Sl}, Sp N H k t → Sp N H (k + 1) t
 | 0, t, h => .inl h
 | k + 1, t, .inl h => .inl h
 | k + 1, t, .inr ⟨b, xs, sp, h1, h2, h3, h4, h5, h6⟩ => .inr ⟨b, xs, sp, h1, h2, h3, h4, h5, fun x hx => Sp.mono (h6 x hx)⟩
theorem Sp.up {k m : Nat} {t : Sl} (h : Sp N H k t) (hk : k ≤ m) : Sp N H m t := by
 induction hk with
 | refl => exact h
 | step _ ih => exact ih.mono
theorem Sp.to (h : ∀ b e, N b → H b = some e → M b ∧ H2 b = some e) : ∀ {k : Nat} {t : Sl}, Sp N H k t → Sp M H2 k t
 | 0, t, h0 => h0
 | k + 1, t, .inl h0 => .inl h0
 | k + 1, t, .inr ⟨b, xs, sp, h1, h2, h3, h4, h5, h6⟩ => .inr ⟨b, xs, sp, (h b _ h1 h4).1, h2, h3, (h b _ h1 h4).2, h5, fun x hx => Sp.to h (h6 x hx)⟩
theorem Sp.all : ∀ {xs : List TV}, (∀ x ∈ xs, ∃ k, Sp N H k x.L) → ∃ k, ∀ x ∈ xs, Sp N H k x.L
 | [], _ => ⟨0, fun x hx => by cases hx⟩
 | y :: xs, h => by
  obtain ⟨k, hk⟩ := h y (List.mem_cons_self ..)
  obtain ⟨m, hm⟩ := Sp.all (xs := xs) fun x hx => h x (List.mem_cons_of_mem _ hx)
  refine ⟨max k m, fun x hx => ?_⟩
  rcases List.mem_cons.1 hx with rfl | hx
  ·exact hk.up (Nat.le_max_left ..)
  ·exact (hm x hx).up (Nat.le_max_right ..)
/-- what a copy is -/
structure Made (H H2 : Heap) (l : List V) (t : Sl) : Prop where
 le : H.le H2
 row : VRow (Heap.new H H2) t l
 sp : ∃ k, Sp (fun b => H b = none) H2 k t
 cp : t.len ≤ t.cap
theorem Made.row2 {l : List V} {t : Sl} (h : Made H H2 l t) : VRow H2 t l := h.row.le (Heap.new_le _ _)
theorem Made.up {H3 : Heap} {l : List V} {t : Sl} (h : Made H H2 l t) (hle : H2.le H3) : Made H H3 l t := by
 refine ⟨h.le.trans hle, h.row.le fun x e hx => ?_, ?_, h.cp⟩
 ·obtain ⟨a, b⟩ := Heap.new_inv hx
  exact Heap.new_some (hle _ _ b) a
 ·obtain ⟨k, hk⟩ := h.sp
  exact ⟨k, hk.to fun b e h he => ⟨h, hle b e he⟩⟩
theorem Made.down {H0 : Heap} {l : List V} {t : Sl} (h : Made H H2 l t) (hle : H0.le H) : Made H0 H2 l t := by
 refine ⟨hle.trans h.le, h.row.le fun x e hx => ?_, ?_, h.cp⟩
 ·obtain ⟨a, b⟩ := Heap.new_inv hx
  exact Heap.new_some b (hle.none a)
 ·obtain ⟨k, hk⟩ := h.sp
  exact ⟨k, hk.to fun b e h he => ⟨hle.none h, he⟩⟩
theorem Made.nil {H : Heap} {t : Sl} (h : t.len = 0) : Made H H [] t := ⟨Heap.le.refl _, ⟨[], .inl rfl, by simpa using h, trivial⟩, ⟨0, h⟩, by omega⟩
theorem Qet : ∀ l : List V, l.length ≤ vsizes l
 | [] => Nat.le_refl _
 | v :: l => by
  have := Qet l
  have hv : vsize v = vsizes v.l + 1 := by cases v; rfl
  simp only [vsizes, List.length_cons]; omega
mutual
/-- the length of the longest row in it -/
def widv : V → Nat
 | .mk _ _ _ l => max l.length (widi l)
def widi : List V → Nat
 | [] => 0
 | v :: l => max (widv v) (widi l)
end
def wids (l : List V) : Nat := max l.length (widi l)
theorem QiT (v : V) : widv v = wids v.l := by cases v; rfl
theorem Qgi (l : List V) : l.length ≤ wids l := Nat.le_max_left ..
theorem QhG : ∀ {l : List V} {v : V}, v ∈ l → widv v ≤ widi l
 | w :: l, v, h => by
  simp only [widi]
  rcases List.mem_cons.1 h with rfl | h
  ·exact Nat.le_max_left ..
  ·exact Nat.le_trans (QhG h) (Nat.le_max_right ..)
theorem Qgj {l : List V} {v : V} (h : v ∈ l) : wids v.l ≤ wids l := by
 rw [← QiT]; exact Nat.le_trans (QhG h) (Nat.le_max_right ..)
theorem Qfk {n : Nat} : ∀ {l : List V}, (∀ v ∈ l, widv v ≤ n) → widi l ≤ n
 | [], _ => Nat.zero_le _
 | v :: l, h => by
  simp only [widi]
  exact Nat.max_le.2 ⟨h v (List.mem_cons_self ..), Qfk fun w hw => h w (List.mem_cons_of_mem _ hw)⟩
theorem Qhm {l : List V} (h : VBs l) (hl : l.length ≤ 2513169434843) : wids l ≤ 2513169434843 := by
 have main : ∀ v : V, VB v → widv v ≤ 2513169434843 := fun v => by
  refine V.rec_ (P := fun v => VB v → widv v ≤ 2513169434843) (fun v ih => ?_) v
  intro hv
  rw [QiT]
  exact Nat.max_le.2 ⟨hv.lM, Qfk fun w hw => ih w hw (hv.ls.mem hw)⟩
 exact Nat.max_le.2 ⟨hl, Qfk fun v hv => main v (h.mem hv)⟩
theorem Qj3 {n : Nat} (l : List V) (h : vsizes l ≤ n) : wids l ≤ n := by
 have main : ∀ v : V, widv v ≤ vsize v := fun v => by
  refine V.rec_ (P := fun v => widv v ≤ vsize v) (fun v ih => ?_) v
  have e : vsize v = vsizes v.l + 1 := by cases v; rfl
  rw [QiT, e]
  exact Nat.max_le.2 ⟨Nat.le_succ_of_le (Qet _), Qfk fun w hw => Nat.le_trans (ih w hw) (Nat.le_succ_of_le (Qej hw))⟩
 exact Nat.le_trans (Nat.max_le.2 ⟨Qet _, Qfk fun w hw => Nat.le_trans (main w) (Qej hw)⟩) h
theorem flat4 : ∀ xs : List TV, (xs.flatMap Qb.c).length = xs.length * 4
 | [] => rfl
 | x :: xs => by rw [List.flatMap_cons, List.length_append, flat4 xs, TV.c_len, List.length_cons]; omega
theorem QjW {t : Sl} {sp : List Value} : ∀ (xs : List TV) (i : Nat) (hi : i < xs.length), ((xs.flatMap Qb.c) ++ sp).set (i * 4 + 3) (slv t) = (xs.set i { xs[i] with L := t }).flatMap Qb.c ++ sp
 | [], i, hi => by simp at hi
 | x :: xs, 0, hi => by
  simp only [List.flatMap_cons, List.getElem_cons_zero, List.set_cons_zero]
  rfl
 | x :: xs, i + 1, hi => by
  have ih := QjW (t := t) (sp := sp) xs i (by simpa using hi)
  simp only [List.flatMap_cons, List.set_cons_succ, List.getElem_cons_succ, List.append_assoc]
  have e : (i + 1) * 4 + 3 = (Qb.c x).length + (i * 4 + 3) := by rw [TV.c_len]; omega
  rw [← ih, e, List.set_append_right _ _ (Nat.le_add_right ..), Nat.add_sub_cancel_left]
/-- the copy's loop: what stands in the copy's block b over B -/
structure Ow (A H B : Heap) (b i : Nat) (l : List V) (xs ys : List TV) : Prop where
 le : H.le B
 ale : A.le B
 nb : B b = none
 len : ys.length = l.length
 xlen : xs.length = l.length
 old : VsAre A l xs
 rest : ∀ j, i ≤ j → ys[j]? = xs[j]?
 done : ∀ (j : Nat) (v : V) (x : TV), j < i → l[j]? = some v → ys[j]? = some x → VIs (Heap.new H B) v x ∧ ∃ k, Sp (fun c => H c = none) B k x.L
theorem Ow.step {A B B2 : Heap} {b i : Nat} {l : List V} {xs ys : List TV} {sp : List Value} {t : Sl} (h : Ow A H B b i l xs ys) (hi : i < l.length) (hi2 : i < ys.length)
 (hm : Made (B.put b (.row (ys.flatMap Qb.c ++ sp))) B2 l[i].l t) :
 Ow A H (B2.del b) b (i + 1) l xs (ys.set i { ys[i] with L := t }) ∧ B2.put b (.row (((ys.set i { ys[i] with L := t }).flatMap Qb.c) ++ sp)) = (B2.del b).put b (.row (((ys.set i { ys[i] with L := t }).flatMap Qb.c) ++ sp)) := by
 have hb : B.le (B2.del b) := fun x e hx => by
  have hne : x ≠ b := fun e' => by rw [e', h.nb] at hx; cases hx
  rw [Heap.del_ne _ hne]
  exact hm.le _ _ (by rw [Heap.put_ne _ _ _ hne]; exact hx)
 have hnn : (Heap.new H B).le (Heap.new H (B2.del b)) := fun x e hx => by
  obtain ⟨a, c⟩ := Heap.new_inv hx
  exact Heap.new_some (hb _ _ c) a
 have hPN : ∀ c, (B.put b (.row (ys.flatMap Qb.c ++ sp))) c = none → H c = none ∧ c ≠ b := fun c hc => by
  have hne : c ≠ b := fun e' => by rw [e', Heap.put_same] at hc; cases hc
  rw [Heap.put_ne _ _ _ hne] at hc
  exact ⟨h.le.none hc, hne⟩
 refine ⟨⟨h.le.trans hb, h.ale.trans hb, Heap.del_same .., by rw [List.length_set]; exact h.len, h.xlen, h.old, fun j hj => ?_, fun j v x hj hv hx => ?_⟩, ?_⟩
 ·rw [List.getElem?_set_ne (by omega)]; exact h.rest j (by omega)
 ·by_cases hji : j = i
  ·subst hji
   rw [List.getElem?_set_self hi2] at hx
   have hx := Option.some.inj hx
   rw [List.getElem?_eq_getElem hi] at hv
   have hv := Option.some.inj hv
   subst hx; subst hv
   have hxi := h.rest j (Nat.le_refl _)
   rw [List.getElem?_eq_getElem hi2] at hxi
   have hold := QbZ.1 (h.old.get j _ _ (List.getElem?_eq_getElem hi) hxi.symm)
   refine ⟨QbZ.2 ⟨hold.1, hold.2.1, hold.2.2.1, hm.row.le fun c e hc => ?_⟩, ?_⟩
   ·obtain ⟨a1, a2⟩ := Heap.new_inv hc
    obtain ⟨a3, a4⟩ := hPN c a1
    exact Heap.new_some (by rw [Heap.del_ne _ a4]; exact a2) a3
   ·obtain ⟨k, hk⟩ := hm.sp
    refine ⟨k, hk.to fun c e hc he => ⟨(hPN c hc).1, ?_⟩⟩
    rw [Heap.del_ne _ (hPN c hc).2]; exact he
  ·rw [List.getElem?_set_ne (by omega)] at hx
   obtain ⟨d1, k, d2⟩ := h.done j v x (by omega) hv hx
   exact ⟨d1.le hnn, k, d2.to fun c e h he => ⟨h, hb c e he⟩⟩
 ·funext x
  by_cases hx : x = b
  ·subst hx; rw [Heap.put_same, Heap.put_same]
  ·rw [Heap.put_ne _ _ _ hx, Heap.put_ne _ _ _ hx, Heap.del_ne _ hx]
theorem Ow.fin {A B : Heap} {b n cap : Nat} {l : List V} {xs ys : List TV} {sp : List Value} (h : Ow A H B b n l xs ys) (hn : n = l.length) (hb : H b = none) (hz : l.length ≤ 2513169434843) (hcap : n ≤ cap) :
 Made H (B.put b (.row (ys.flatMap Qb.c ++ sp))) l (Sl.of (some (b, 0)) n cap) := by
 have hBP : B.le (B.put b (.row (ys.flatMap Qb.c ++ sp))) := Heap.le_put h.nb
 have hnn : (Heap.new H B).le (Heap.new H (B.put b (.row (ys.flatMap Qb.c ++ sp)))) := fun x e hx => by
  obtain ⟨a, c⟩ := Heap.new_inv hx
  exact Heap.new_some (hBP _ _ c) a
 refine ⟨h.le.trans hBP, ⟨ys, .inr ⟨rfl, _, rfl, Qbc (Heap.new_some (Heap.put_same ..) hb) fun j v hj => ?_⟩, ?_, VsAre.of h.len.symm fun i v x hv hx => ?_⟩, ?_, hcap⟩
 ·rw [Nat.zero_add, List.getElem?_append_left (List.getElem?_eq_some_iff.1 hj).1]; exact hj
 ·show n = _; rw [hn, h.len]
 ·exact (h.done i v x (by rw [hn]; exact (List.getElem?_eq_some_iff.1 hv).1) hv hx).1.le hnn
 ·obtain ⟨k, hk⟩ : ∃ k, ∀ x ∈ ys, Sp (fun c => H c = none) B k x.L := Sp.all fun x hx => by
   obtain ⟨j, hj, e⟩ := List.getElem_of_mem hx
   have hl : j < l.length := by rw [← h.len]; exact hj
   exact (h.done j l[j] x (by omega) (List.getElem?_eq_getElem hl) (by rw [List.getElem?_eq_getElem hj, e])).2
  refine ⟨k + 1, .inr ⟨b, ys, sp, hb, rfl, rfl, Heap.put_same .., ⟨by show n ≤ _; rw [hn, h.len]; exact Nat.le_refl _, by rw [h.len]; exact hz⟩, fun x hx => (hk x hx).to fun c e h he => ⟨h, hBP c e he⟩⟩⟩
/-- a list that grows: what is made in it stands beside its own block -/
structure Od (H B : Heap) (l : List V) (s : Sl) (ys : List TV) : Prop where
 own : OwnF H B 4 s (ys.flatMap Qb.c)
 le : ys.length ≤ l.length
 done : ∀ (j : Nat) (v : V) (x : TV), l[j]? = some v → ys[j]? = some x → VIs (Heap.new H (B.off s)) v x ∧ ∃ k, Sp (fun c => H c = none) (B.off s) k x.L
theorem Od.nil {l : List V} : Od H H l Sl.nil [] := ⟨OwnF.nil H 4, Nat.zero_le _, fun j v x _ hx => by simp at hx⟩
theorem Od.step {B B2 B3 B4 : Heap} {g : GO} {b : Nat} {l : List V} {s r t : Sl} {ys : List TV} {x : TV} (h : Od H B l s ys) (hb : B b = none) (hi : ys.length < l.length) (hm : Made (B.put b g) B2 l[ys.length].l t)
 (hx : x.Kind = l[ys.length].k ∧ x.N = l[ys.length].n ∧ x.S = l[ys.length].s) (hL : x.L = t) (h3 : Heap.but b B2 B3) (h4 : OwnF (B3.off s) B4 4 r (ys.flatMap Qb.c ++ Qb.c x)) : Od H B4 l r (ys ++ [x]) := by
 have hB2 : B.le B2 := (Heap.le_put hb).trans hm.le
 have hHb : H b = none := h.own.le.none hb
 have hB3 : H.le B3 := Heap.le.of_but (h.own.le.trans hB2) h3 hHb
 have hoff : (B.off s).le (B3.off s) := fun c e hc => by
  have hc' := Heap.off_le _ _ _ _ hc
  have hne : c ≠ b := fun e' => by rw [e', hb] at hc'; cases hc'
  refine Heap.off_some (h3 _ _ hne (hB2 _ _ hc')) fun p hp e' => ?_
  have := Heap.off_fresh s B p hp
  rw [e', hc] at this; cases this
 have h34 : (B3.off s).le (B4.off r) := Heap.le_off h4.le h4.fresh
 have hch : ∀ c e, (B.put b g) c = none → B2 c = some e → H c = none ∧ (B4.off r) c = some e := fun c e hn he => by
  have hne : c ≠ b := fun e' => by rw [e', Heap.put_same] at hn; cases hn
  rw [Heap.put_ne _ _ _ hne] at hn
  refine ⟨h.own.le.none hn, h34 _ _ (Heap.off_some (h3 _ _ hne he) fun p hp e' => ?_)⟩
  obtain ⟨g', hg'⟩ := h.own.own.mine hp
  rw [e', hn] at hg'; cases hg'
 have hnn : (Heap.new H (B.off s)).le (Heap.new H (B4.off r)) := fun c e hc => by
  obtain ⟨a1, a2⟩ := Heap.new_inv hc
  exact Heap.new_some (h34 _ _ (hoff _ _ a2)) a1
 refine ⟨?_, by rw [List.length_append]; exact hi, fun j v y hv hy => ?_⟩
 ·have e : (ys ++ [x]).flatMap Qb.c = ys.flatMap Qb.c ++ Qb.c x := by rw [List.flatMap_append, List.flatMap_singleton]
  rw [e]
  exact h4.down (Heap.le_off hB3 h.own.fresh)
 ·by_cases hj : j < ys.length
  ·rw [List.getElem?_append_left hj] at hy
   obtain ⟨d1, k, d2⟩ := h.done j v y hv hy
   exact ⟨d1.le hnn, k, d2.to fun c e h he => ⟨h, h34 _ _ (hoff _ _ he)⟩⟩
  ·have hjl := (List.getElem?_eq_some_iff.1 hy).1
   rw [List.length_append, List.length_singleton] at hjl
   have hje : j = ys.length := by omega
   subst hje
   rw [List.getElem?_append_right (Nat.le_refl _), Nat.sub_self] at hy
   simp only [List.getElem?_cons_zero, Option.some.injEq] at hy
   rw [List.getElem?_eq_getElem hi] at hv
   have hv := Option.some.inj hv
   subst hy; subst hv
   refine ⟨QbZ.2 ⟨hx.1, hx.2.1, hx.2.2, ?_⟩, ?_⟩
   ·rw [hL]
    refine hm.row.le fun c e hc => ?_
    obtain ⟨a1, a2⟩ := Heap.new_inv hc
    obtain ⟨a3, a4⟩ := hch c e a1 a2
    exact Heap.new_some a4 a3
   ·obtain ⟨k, hk⟩ := hm.sp
    rw [hL]
    exact ⟨k, hk.to fun c e h he => hch c e h he⟩
theorem Od.fin {B : Heap} {l : List V} {s : Sl} {ys : List TV} (h : Od H B l s ys) (hn : ys.length = l.length) (hz : l.length ≤ 2513169434843) : Made H B l s := by
 have hnn : (Heap.new H (B.off s)).le (Heap.new H B) := fun x e hx => by
  obtain ⟨a, c⟩ := Heap.new_inv hx
  exact Heap.new_some (Heap.off_le _ _ _ _ c) a
 have hf := flat4 ys
 obtain ⟨o1, o2, o3, o4⟩ := h.own.own
 have hlen : s.len = ys.length := by omega
 have hvs : VsAre (Heap.new H B) l ys := VsAre.of hn.symm fun i v x hv hx => (h.done i v x hv hx).1.le hnn
 refine ⟨h.own.le, ⟨ys, ?_, hlen, hvs⟩, ?_, o3⟩
 ·rcases o4 with ⟨p0, c0⟩ | ⟨b, sp, hp, hb, hc⟩
  ·left
   have : ys.length = 0 := by omega
   rw [List.length_eq_zero_iff.1 this]; rfl
  ·refine .inr ⟨o2, _, hp, Qbc (Heap.new_some hb (h.own.fresh _ hp)) fun j v hj => ?_⟩
   rw [Nat.zero_add, List.getElem?_append_left (List.getElem?_eq_some_iff.1 hj).1]; exact hj
 ·obtain ⟨k, hk⟩ : ∃ k, ∀ x ∈ ys, Sp (fun c => H c = none) B k x.L := Sp.all fun x hx => by
   obtain ⟨j, hj, e⟩ := List.getElem_of_mem hx
   have hl : j < l.length := by rw [← hn]; exact hj
   obtain ⟨_, k, hk⟩ := h.done j l[j] x (List.getElem?_eq_getElem hl) (by rw [List.getElem?_eq_getElem hj, e])
   exact ⟨k, hk.to fun c e h he => ⟨h, Heap.off_le _ _ _ _ he⟩⟩
  refine ⟨k + 1, ?_⟩
  rcases o4 with ⟨p0, c0⟩ | ⟨b, sp, hp, hb, hc⟩
  ·exact .inl (by omega)
  ·exact .inr ⟨b, ys, sp, h.own.fresh _ hp, hp, o2, hb, ⟨by omega, by omega⟩, hk⟩
/-- a list of rows that grows, each a copy -/
structure Og (H B : Heap) (ls : List (List V)) (s : Sl) (ys : List Sl) : Prop where
 own : OwnF H B 1 s (ys.map slv)
 le : ys.length ≤ ls.length
 done : ∀ (j : Nat) (l : List V) (y : Sl), ls[j]? = some l → ys[j]? = some y → Made H (B.off s) l y
theorem Og.nil {ls : List (List V)} : Og H H ls Sl.nil [] := ⟨OwnF.nil H 1, Nat.zero_le _, fun j l y _ hy => by simp at hy⟩
theorem Made.off {B : Heap} {l : List V} {s t : Sl} (h : Made B H2 l t) (hle : H.le B) (hf : Fresh H s) (hs : ∀ p, s.p = some p → ∃ g, B p.1 = some (true, g)) : Made H (H2.off s) l t := by
 have hne : ∀ c, B c = none → ∀ p, s.p = some p → p.1 ≠ c := fun c hc p hp e => by
  obtain ⟨g, hg⟩ := hs p hp
  rw [e, hc] at hg; cases hg
 refine ⟨Heap.le_off (hle.trans h.le) hf, h.row.le fun c e hc => ?_, ?_, h.cp⟩
 ·obtain ⟨a, b⟩ := Heap.new_inv hc
  exact Heap.new_some (Heap.off_some b (hne c a)) (hle.none a)
 ·obtain ⟨k, hk⟩ := h.sp
  exact ⟨k, hk.to fun c e hc he => ⟨hle.none hc, Heap.off_some he (hne c hc)⟩⟩
theorem Og.step {B B2 B4 : Heap} {ls : List (List V)} {s r t : Sl} {ys : List Sl} (h : Og H B ls s ys) (hi : ys.length < ls.length) (hm : Made B B2 ls[ys.length] t) (h4 : OwnF (B2.off s) B4 1 r (ys.map slv ++ [slv t])) : Og H B4 ls r (ys ++ [t]) := by
 have hoff : H.le (B2.off s) := Heap.le_off (h.own.le.trans hm.le) h.own.fresh
 have h34 : (B2.off s).le (B4.off r) := Heap.le_off h4.le h4.fresh
 have h12 : (B.off s).le (B2.off s) := Heap.le_off ((Heap.off_le s B).trans hm.le) (Heap.off_fresh s B)
 refine ⟨?_, by rw [List.length_append]; exact hi, fun j l y hl hy => ?_⟩
 ·have e : (ys ++ [t]).map slv = ys.map slv ++ [slv t] := by simp
  rw [e]; exact h4.down hoff
 ·by_cases hj : j < ys.length
  ·rw [List.getElem?_append_left hj] at hy
   exact (h.done j l y hl hy).up (h12.trans h34)
  ·have hjl := (List.getElem?_eq_some_iff.1 hy).1
   rw [List.length_append, List.length_singleton] at hjl
   have hje : j = ys.length := by omega
   subst hje
   rw [List.getElem?_append_right (Nat.le_refl _), Nat.sub_self] at hy
   simp only [List.getElem?_cons_zero, Option.some.injEq] at hy
   rw [List.getElem?_eq_getElem hi] at hl
   have hl := Option.some.inj hl
   subst hy; subst hl
   exact (hm.off h.own.le h.own.fresh fun p hp => h.own.own.mine hp).up h34
/-- rows in order, each once, in memory of their own -/
structure Srt (H H2 : Heap) (ls : List (List V)) (t : Sl) (A : List (Sl × (List V × Nat))) : Prop where
 own : OwnF H H2 1 t (A.map fun e => slv e.1)
 row : ∀ e ∈ A, Made H (H2.off t) e.2.1 e.1
 rep : Rep (fun a b => cmpR a.1 b.1) (fun a => a.2) ls.zipIdx (A.map fun e => e.2)
 few : A.length ≤ ls.length
end
end
section
open Go Go.Proofs
section
variable {C : Ctx} {H : Heap}
theorem Qhr {t : Sl} {xs : List TV} {K : Sl → Heap → Prop} (hr : rdsl H t (xs.flatMap Qb.c)) (hl : t.len = xs.length) (h0 : t.len ≠ 0) (hs : t.len ≤ 2513169434843)
 (k : ∀ b sp cap B, H.le B → B b = none → t.len ≤ cap → K (Sl.of (some (b, 0)) t.len cap) (B.put b (.row (xs.flatMap Qb.c ++ sp)))) : Qy C t K H := by
 apply Qbj
 unfold Qan
 have hf := flat4 xs
 have hnil : Sl.isNil t = false := by
  rcases hr with h | ⟨hx, p, hp, _⟩
  ·rw [h] at hf; simp at hf; omega
  ·unfold Sl.isNil; rw [hp]; rfl
 refine QA hnil ?_
 intro b2 n2
 have hle := Heap.le_put n2 (g := .row []) (m := true)
 refine ⟨xs.flatMap Qb.c, QcP hle hr, ?_, [], .inl rfl, ?_, ?_, ?_, ?_, fun hfit => ?_, fun hgrow b cap hb hcap => ?_⟩
 ·intro u hu
  obtain ⟨x, _, hx⟩ := List.mem_flatMap.1 hu
  simp only [Qb.c, List.mem_cons, List.not_mem_nil, or_false] at hx
  rcases hx with rfl | rfl | rfl | rfl <;> rfl
 ·rfl
 ·rw [hf, hl]; rfl
 ·show (0 + t.len) * 56 ≤ _; omega
 ·show 0 + t.len ≤ _; omega
 ·exfalso
  have : 0 + t.len ≤ 0 := hfit
  omega
 ·have e : (0 : Nat) + t.len = t.len := Nat.zero_add _
  have hc2 : 0 + t.len ≤ cap := hcap
  have := k b (zeros (Qb.c Qb.zero) (cap - (0 + t.len))) cap _ hle hb (by omega)
  show K (Sl.of (some (b, 0)) (0 + t.len) cap) _
  rw [e] at this ⊢
  exact this
theorem Qkd {A : Heap} {l : List V} {t : Sl} {H : Heap} {K : Sl → Heap → Prop} (hv : VRow A t l) (hle : A.le H) (hz : wids l ≤ 2513169434843) (k : ∀ t2 H2, Made H H2 l t2 → K t2 H2) : QbH C t K H := by
 have main : ∀ v : V, ∀ (A : Heap) (t : Sl) (H : Heap) (K : Sl → Heap → Prop), VRow A t v.l → A.le H → wids v.l ≤ 2513169434843 → (∀ t2 H2, Made H H2 v.l t2 → K t2 H2) → QbH C t K H := by
  refine fun v => V.rec_ (P := fun v => ∀ (A : Heap) (t : Sl) (H : Heap) (K : Sl → Heap → Prop), VRow A t v.l → A.le H → wids v.l ≤ 2513169434843 → (∀ t2 H2, Made H H2 v.l t2 → K t2 H2) → QbH C t K H) (fun v ih => ?_) v
  intro A t H K hv hle hz k
  apply Qgn
  unfold QeF
  have hl := hv.len
  have hll := Qgi v.l
  refine ift.of (fun h => ?_) (fun h => ?_)
  ·simp only [beq_iff_eq] at h
   have : v.l = [] := List.length_eq_zero_iff.1 (by omega)
   refine k _ _ ?_
   rw [this]; exact Made.nil rfl
  ·simp only [beq_eq_false_iff_ne] at h
   obtain ⟨xs, r1, r2, r3⟩ := hv
   refine Qhr (QcP hle r1) r2 (by omega) (by omega) fun b sp cap B hB nb hcap => ?_
   rw [hl] at hcap ⊢
   refine ⟨fun x D => ∃ (i : Nat) (ys : List TV) (E : Heap), x = (i : Int) ∧ i ≤ v.l.length ∧ D = E.put b (.row (ys.flatMap Qb.c ++ sp)) ∧ Ow A H E b i v.l xs ys, fun x _ => v.l.length - x.toNat,
    ⟨0, xs, B, rfl, Nat.zero_le _, rfl, hB, hle.trans hB, nb, by omega, by omega, r3, fun _ _ => rfl, fun j v x hj => by omega⟩, ?_⟩
   rintro _ D ⟨i, ys, E, rfl, hi, rfl, ho⟩
   have hlen : (Sl.of (some (b, 0)) v.l.length cap).len = v.l.length := rfl
   refine ift.of (fun h => ?_) (fun h => ?_)
   ·have hlt : i < v.l.length := by have := of_decide_eq_true h; omega
    have hi2 : i < ys.length := by rw [ho.len]; exact hlt
    have hyx := ho.rest i (Nat.le_refl _)
    rw [List.getElem?_eq_getElem hi2] at hyx
    have hold := QbZ.1 (ho.old.get i _ _ (List.getElem?_eq_getElem hlt) hyx.symm)
    have hmem := List.getElem_mem hlt
    have hsz := Qgj hmem
    have e0 : 0 + ((i : Int).toNat) * 4 + 3 = i * 4 + 3 := by omega
    have hf := flat4 ys
    refine ⟨(b, 0), rfl, rfl, by omega, by rw [hlen]; omega, ?_⟩
    refine ⟨ys[i].L, ?_, ?_⟩
    ·show rd _ (b, 0 + ((i : Int).toNat) * 4 + 3) = _
     rw [e0, Qhe, List.getElem?_append_left (by omega)]
     exact QdT Qb.c 4 TV.c_len ys i _ (List.getElem?_eq_getElem hi2) 3 _ rfl
    ·refine ih _ hmem A _ _ _ hold.2.2.2 (ho.ale.trans (Heap.le_put ho.nb)) (by omega) fun t2 H2 hm => ?_
     obtain ⟨s1, s2⟩ := ho.step hlt hi2 hm
     refine ⟨(b, 0), rfl, rfl, by omega, by rw [hlen]; omega, ?_⟩
     refine ⟨_, hm.le _ _ (Heap.put_same ..), ?_, ?_⟩
     ·show 0 + ((i : Int).toNat) * 4 + 3 < _
      rw [e0, List.length_append, hf]; omega
     ·show _ ∧ _
      have e1 : (b, 0 + ((i : Int).toNat) * 4 + 3).2 = i * 4 + 3 := e0
      rw [Qi (by omega) (by omega)]
      refine ⟨⟨i + 1, _, _, by omega, by omega, ?_, s1⟩, by first | omega | (dsimp only; omega)⟩
      rw [← s2, ← QjW ys i hi2]
      show H2.put b (.row ((List.flatMap Qb.c ys ++ sp).set (0 + ((i : Int).toNat) * 4 + 3) (slv t2))) = _
      rw [e0]
   ·have hie : i = v.l.length := by have := of_decide_eq_false h; omega
    refine k _ _ ?_
    have := ho.fin (sp := sp) (cap := cap) hie (ho.le.none ho.nb) (by omega) (by omega)
    rw [hie] at this
    exact this
 exact main (.mk 0 0 [] l) A t H K hv hle hz k
end
end
end Sx
end
noncomputable section
set_option linter.unusedVariables false
set_option linter.unusedSimpArgs false
namespace Sx.SE
open Go Go.Proofs Sx
abbrev TE := Qa
abbrev cE (x : TE) : List Value := Qa.c x
abbrev argE (x : TE) : Value := .agg (Qa.c x).toArray
abbrev LDX (H : Heap) (p : Nat × Nat) (K : TE → Prop) : Prop := ldT H Qa.c p K
def enc {G : Type} (e : TE × G) : List Value := cE e.1
section
variable {G : Type}
def arr (H0 : Heap) (b : Nat) (sp : List Value) (L : List (TE × G)) : Heap := H0.put b (.row (L.flatMap enc ++ sp))
structure Sls (s : Sl) (b n : Nat) : Prop where
 p : s.p = some (b, 0)
 x : s.x = none
 len : s.len = n
 small : n ≤ 140737488355328
theorem Qg7 (e : TE × G) : (enc e).length = 2 := rfl
theorem Qbh : ∀ A : List (TE × G), (A.flatMap enc).length = A.length * 2
 | [] => rfl
 | e :: A => by rw [List.flatMap_cons, List.length_append, Qg7, Qbh A, List.length_cons]; omega
theorem QgY {A R : List (TE × G)} {x : TE × G} {sp : List Value} {j : Nat} (hj : j < 2) : ((A ++ x :: R).flatMap enc ++ sp)[A.length * 2 + j]? = (cE x.1)[j]? := by
 have hl := Qbh A
 have e : (cE x.1).length = 2 := rfl
 have h : (A ++ x :: R).flatMap enc ++ sp = A.flatMap enc ++ (cE x.1 ++ (R.flatMap enc ++ sp)) := by
  rw [List.flatMap_append, List.flatMap_cons]; simp only [enc, List.append_assoc]
 rw [h, List.getElem?_append_right (by omega), List.getElem?_append_left (by omega)]
 congr 1; omega
variable {H0 R : Heap} {b n : Nat} {sp : List Value} {s : Sl} {C : Ctx} {L A D : List (TE × G)} {x y : TE × G} {i : Int}
theorem ixp {K : Nat × Nat → Prop} {k : Nat} (hs : Sls s b n) (hi : i = (k : Int)) (hk : k < n) (h : K (b, 0)) : ixa s i K :=
 ⟨(b, 0), hs.p, hs.x, by omega, by rw [hs.len]; omega, h⟩
theorem ldx {K : TE → Prop} (hL : L = A ++ x :: D) (hi : i = (A.length : Int)) (k : K x.1) : LDX (arr H0 b sp L) ((b, 0).1, (b, 0).2 + i.toNat * 2) K := by
 subst hL; subst hi
 rw [Int.toNat_natCast]
 exact ⟨x.1, Qbc (Heap.put_same ..) fun j v hj => by
  have hjl : j < 2 := (List.getElem?_eq_some_iff.1 hj).1
  rw [Nat.zero_add, QgY hjl]; exact hj, k⟩
theorem stx0 {K : Heap → Prop} (hL : L = A ++ x :: D) (hi : i = (A.length : Int)) (k : K (arr H0 b sp (A ++ y :: D))) : stT ((b, 0).1, (b, 0).2 + i.toNat * 2) (cE y.1) K (arr H0 b sp L) := by
 subst hL; subst hi
 rw [Int.toNat_natCast]
 have hl := Qbh A
 have e2 : (cE x.1).length = 2 := rfl
 have e3 : (cE y.1).length = 2 := rfl
 have h : ∀ z : TE × G, (A ++ z :: D).flatMap enc ++ sp = A.flatMap enc ++ (cE z.1 ++ (D.flatMap enc ++ sp)) := fun z => by
  rw [List.flatMap_append, List.flatMap_cons]; simp only [enc, List.append_assoc]
 refine ⟨_, Heap.put_same .., ?_, ?_⟩
 ·rw [h]; simp only [List.length_append, hl, e2]; show 0 + A.length * 2 + (cE y.1).length ≤ _; rw [e3]; omega
 ·have e : (arr H0 b sp (A ++ x :: D)).put b (.row (splice ((A ++ x :: D).flatMap enc ++ sp) (0 + A.length * 2) (cE y.1))) = arr H0 b sp (A ++ y :: D) := by
   unfold arr
   rw [Heap.put_put, h x, h y, Nat.zero_add]
   congr 2
   unfold splice
   rw [← hl, List.take_left, ← List.drop_drop, List.drop_left, e3, ← e2, List.drop_left, List.append_assoc]
  exact e.symm ▸ k
theorem Qkg {p : Nat × Nat} {v : Value} {K : Heap → Prop} {H : Heap} (h : stT p [v] K H) : Sx.st p v K H := by
 obtain ⟨c, h1, h2, h3⟩ := h
 have h4 : p.2 < c.length := by simp at h2; omega
 exact ⟨c, h1, h4, by rw [← Qes h4]; exact h3⟩
theorem stx {K : Heap → Prop} (hL : L = A ++ x :: D) (hi : i = (A.length : Int)) (k : K (arr H0 b sp (A ++ y :: D))) : stT ((b, 0).1, (b, 0).2 + i.toNat * 2) (cE y.1) K (arr H0 b sp L) := stx0 hL hi k
theorem nole (B : Heap) : Heap.le (fun _ => none) B := fun _ _ h => by cases h
/-- data[lo], data[hi] = data[hi], data[lo] -/
theorem swp1 {B : List (TE × G)} {lo hi : Int} {J : Unit → Heap → Prop} (hs : Sls s b n) (hn : A.length + 1 + B.length < n) (hL : L = A ++ x :: (B ++ y :: D)) (hlo : lo = (A.length : Int)) (hhi : hi = ((A.length + 1 + B.length : Nat) : Int)) (k : J () (arr H0 b sp (A ++ y :: (B ++ x :: D)))) :
 dr (arr H0 b sp L) fun Hs => ixa s hi fun p => ixa s lo fun q =>
  (LDX (arr H0 b sp L) (p.1, p.2 + hi.toNat * 2) fun u => Heap.le Hs (arr H0 b sp L) ∧ LDX (arr H0 b sp L) (q.1, q.2 + lo.toNat * 2) fun v => Heap.le Hs (arr H0 b sp L) ∧
   ixa s lo fun p27 => stT (p27.1, p27.2 + lo.toNat * 2) (cE u)  (fun H33 => Heap.le Hs H33 ∧ ixa s hi fun p34 => stT (p34.1, p34.2 + hi.toNat * 2) (cE v)  (fun H39 => J () H39) H33) (arr H0 b sp L)) ∧
  (LDX (arr H0 b sp L) (q.1, q.2 + lo.toNat * 2) fun v => Heap.le Hs (arr H0 b sp L) ∧ LDX (arr H0 b sp L) (p.1, p.2 + hi.toNat * 2) fun u => Heap.le Hs (arr H0 b sp L) ∧
   ixa s lo fun p27 => stT (p27.1, p27.2 + lo.toNat * 2) (cE u)  (fun H33 => Heap.le Hs H33 ∧ ixa s hi fun p34 => stT (p34.1, p34.2 + hi.toNat * 2) (cE v)  (fun H39 => J () H39) H33) (arr H0 b sp L)) := by
 have e : L = (A ++ x :: B) ++ y :: D := by rw [hL]; simp
 have e' : A ++ y :: (B ++ y :: D) = (A ++ y :: B) ++ y :: D := by simp
 have hh : hi = (((A ++ x :: B).length : Nat) : Int) := by rw [hhi]; simp; omega
 have hh' : hi = (((A ++ y :: B).length : Nat) : Int) := by rw [hhi]; simp; omega
 have k' : J () (arr H0 b sp ((A ++ y :: B) ++ x :: D)) := by simpa using k
 have fin : ixa s lo fun p27 => (fun (u v : TE) => stT (p27.1, p27.2 + lo.toNat * 2) (cE u)  (fun H33 => Heap.le (fun _ => none) H33 ∧ ixa s hi fun p34 => stT (p34.1, p34.2 + hi.toNat * 2) (cE v)  (fun H39 => J () H39) H33) (arr H0 b sp L)) y.1 x.1 :=
  ixp hs hlo (by omega) (stx hL hlo ⟨nole _, ixp hs hhi (by omega) (stx e' hh' k')⟩)
 exact ⟨fun _ => none, nole _, ixp hs hhi (by omega) (ixp hs hlo (by omega) ⟨ldx e hh ⟨nole _, ldx hL hlo ⟨nole _, fin⟩⟩, ldx hL hlo ⟨nole _, ldx e hh ⟨nole _, fin⟩⟩⟩)⟩
/-- data[hi], data[lo] = data[lo], data[hi] -/
theorem swp2 {B : List (TE × G)} {lo hi : Int} {J : Unit → Heap → Prop} (hs : Sls s b n) (hn : A.length + 1 + B.length < n) (hL : L = A ++ x :: (B ++ y :: D)) (hlo : lo = (A.length : Int)) (hhi : hi = ((A.length + 1 + B.length : Nat) : Int)) (k : J () (arr H0 b sp (A ++ y :: (B ++ x :: D)))) :
 dr (arr H0 b sp L) fun Hs => ixa s lo fun p => ixa s hi fun q =>
  (LDX (arr H0 b sp L) (p.1, p.2 + lo.toNat * 2) fun u => Heap.le Hs (arr H0 b sp L) ∧ LDX (arr H0 b sp L) (q.1, q.2 + hi.toNat * 2) fun v => Heap.le Hs (arr H0 b sp L) ∧
   ixa s hi fun p27 => stT (p27.1, p27.2 + hi.toNat * 2) (cE u)  (fun H33 => Heap.le Hs H33 ∧ ixa s lo fun p34 => stT (p34.1, p34.2 + lo.toNat * 2) (cE v)  (fun H39 => J () H39) H33) (arr H0 b sp L)) ∧
  (LDX (arr H0 b sp L) (q.1, q.2 + hi.toNat * 2) fun v => Heap.le Hs (arr H0 b sp L) ∧ LDX (arr H0 b sp L) (p.1, p.2 + lo.toNat * 2) fun u => Heap.le Hs (arr H0 b sp L) ∧
   ixa s hi fun p27 => stT (p27.1, p27.2 + hi.toNat * 2) (cE u)  (fun H33 => Heap.le Hs H33 ∧ ixa s lo fun p34 => stT (p34.1, p34.2 + lo.toNat * 2) (cE v)  (fun H39 => J () H39) H33) (arr H0 b sp L)) := by
 have e : L = (A ++ x :: B) ++ y :: D := by rw [hL]; simp
 have e' : (A ++ x :: B) ++ x :: D = A ++ x :: (B ++ x :: D) := by simp
 have hh : hi = (((A ++ x :: B).length : Nat) : Int) := by rw [hhi]; simp; omega
 have fin : ixa s hi fun p27 => (fun (u v : TE) => stT (p27.1, p27.2 + hi.toNat * 2) (cE u)  (fun H33 => Heap.le (fun _ => none) H33 ∧ ixa s lo fun p34 => stT (p34.1, p34.2 + lo.toNat * 2) (cE v)  (fun H39 => J () H39) H33) (arr H0 b sp L)) x.1 y.1 :=
  ixp hs hhi (by omega) (stx e hh ⟨nole _, ixp hs hlo (by omega) (stx e' hlo k)⟩)
 exact ⟨fun _ => none, nole _, ixp hs hlo (by omega) (ixp hs hhi (by omega) ⟨ldx hL hlo ⟨nole _, ldx e hh ⟨nole _, fin⟩⟩, ldx e hh ⟨nole _, ldx hL hlo ⟨nole _, fin⟩⟩⟩)⟩
/-- what compares -/
structure CmpF (C : Ctx) (R : Heap) (f : Value) (P : TE × G → Prop) (κ : TE × G → TE × G → Int) : Prop where
 ok : ∀ A : Heap, R.le A → ∀ x y, P x → P y → ∀ Φ : Value → Heap → Prop, Φ (.int .i64 (κ x y)) A → callU Tryz.prog C f [argE x.1, argE y.1] A Φ
/-- where it is sorted -/
structure Where (C : Ctx) (H0 R : Heap) (s : Sl) (b n : Nat) (f : Value) (P : TE × G → Prop) (κ : TE × G → TE × G → Int) : Prop where
 s : Sls s b n
 le : R.le H0
 rb : R b = none
 f : CmpF C R f P κ
 lin : Lin κ P
variable {f : Value} {P : TE × G → Prop} {κ : TE × G → TE × G → Int} {ι : TE × G → Nat}
theorem Where.arr (h : Where C H0 R s b n f P κ) (sp : List Value) (L : List (TE × G)) : R.le (arr H0 b sp L) := fun z e hz => by
 have : z ≠ b := fun e' => by rw [e', h.rb] at hz; cases hz
 unfold SE.arr
 rw [Heap.put_ne _ _ _ this]; exact h.le _ _ hz
theorem cmp0 {A2 D2 : List (TE × G)} {j : Int} {Ψ : Int → Heap → Prop} (h : Where C H0 R s b n f P κ) (hl : L.length = n) (h1 : L = A ++ x :: D) (hi : i = (A.length : Int)) (h2 : L = A2 ++ y :: D2) (hj : j = (A2.length : Int)) (hx : P x) (hy : P y) (k : Ψ (κ x y) (arr H0 b sp L)) :
 ixa s i fun p => LDX (arr H0 b sp L) (p.1, p.2 + i.toNat * 2) fun u => ixa s j fun q => LDX (arr H0 b sp L) (q.1, q.2 + j.toNat * 2) fun v =>
  callU Tryz.prog C f [argE u, argE v] (arr H0 b sp L) (fun v H => ∃ r : Int, v = .int .i64 r ∧ Heap.le (arr H0 b sp L) H ∧ Ψ r H) := by
 have l1 : A.length < n := by rw [← hl, h1]; simp
 have l2 : A2.length < n := by rw [← hl, h2]; simp
 exact ixp h.s hi l1 (ldx h1 hi (ixp h.s hj l2 (ldx h2 hj (h.f.ok _ (h.arr sp L) x y hx hy _ ⟨_, rfl, Heap.le.refl _, k⟩))))
theorem Qgz {X : List (TE × G)} {a e : Int} {K : Heap → Prop} (h : Where C H0 R s b n f P κ) (ha : a = (A.length : Int)) (he : e = ((A.length + X.length : Nat) : Int)) (hn : A.length + X.length + D.length = n) (hP : ∀ x ∈ X, P x) (hι : X.Pairwise fun x y => ι x < ι y)
 (k : ∀ Z : List (TE × G), Z.Perm X → Z.Pairwise (Bf κ ι) → K (arr H0 b sp (A ++ Z ++ D))) : Qo C s a e f K (arr H0 b sp (A ++ X ++ D)) := by
 have hsm := h.s.small
 subst ha; subst he
 apply Q7
 unfold QC
 rw [Qi (by omega) (by omega)]
 by_cases hX : X = []
 ·subst hX
  refine ⟨fun x B => x = (A.length : Int) + 1 ∧ B = arr H0 b sp (A ++ [] ++ D), fun _ _ => 0, ⟨rfl, rfl⟩, ?_⟩
  rintro x B ⟨rfl, rfl⟩
  exact QA (decide_eq_false (by simp; omega)) (k [] (.refl _) .nil)
 obtain ⟨x0, X', rfl⟩ := List.exists_cons_of_ne_nil hX
 refine ⟨fun x B => ∃ Z Y0 Y : List (TE × G), x0 :: X' = Y0 ++ Y ∧ Z.Perm Y0 ∧ Z.Pairwise (Bf κ ι) ∧ 1 ≤ Z.length ∧ x = ((A.length + Z.length : Nat) : Int) ∧ B = arr H0 b sp (A ++ Z ++ Y ++ D), fun x _ => A.length + (x0 :: X').length - x.toNat,
  ⟨[x0], [x0], X', rfl, .refl _, List.pairwise_singleton _ _, by simp, by simp, by simp⟩, ?_⟩
 rintro x B ⟨Z, Y0, Y, hX, hp, hz, h1, rfl, rfl⟩
 have hpl := hp.length_eq
 have hxl : (x0 :: X').length = Y0.length + Y.length := by rw [hX, List.length_append]
 have hιY : Y0.Pairwise (fun x y => ι x < ι y) ∧ Y.Pairwise (fun x y => ι x < ι y) ∧ ∀ x ∈ Y0, ∀ y ∈ Y, ι x < ι y := by rw [hX] at hι; exact List.pairwise_append.1 hι
 refine ift.of (fun hc => ?_) (fun hc => ?_)
 ·have hc := of_decide_eq_true hc
  cases Y with
  | nil => simp only [List.length_nil] at hxl; omega
  | cons y Y' =>
  have hPZ : ∀ z ∈ Z, P z := fun z hz => hP z (by rw [hX]; exact List.mem_append_left _ (hp.mem_iff.1 hz))
  have hPy : P y := hP y (by rw [hX]; simp)
  have hιz : ∀ z ∈ Z, ι z < ι y := fun z hz => hιY.2.2 z (hp.mem_iff.1 hz) y (List.mem_cons_self ..)
  refine ⟨fun j B => ∃ Z1 Z2 : List (TE × G), Z = Z1 ++ Z2 ∧ (∀ z ∈ Z2, κ y z < 0) ∧ j = ((A.length + Z1.length : Nat) : Int) ∧ B = arr H0 b sp (A ++ Z1 ++ y :: (Z2 ++ Y' ++ D)), fun j _ => j.toNat,
   ⟨Z, [], by simp, fun z hz => (by cases hz), rfl, by simp⟩, ?_⟩
  rintro j B ⟨Z1, Z2, hZ, hy2, rfl, rfl⟩
  have hZl : Z.length = Z1.length + Z2.length := by rw [hZ, List.length_append]
  simp only [List.length_cons] at hxl hn
  refine ⟨fun c B => B = arr H0 b sp (A ++ Z1 ++ y :: (Z2 ++ Y' ++ D)) ∧ (c = true → ∃ Z1' z, Z1 = Z1' ++ [z] ∧ κ y z < 0) ∧ (c = false → Z1 = [] ∨ ∃ Z1' z, Z1 = Z1' ++ [z] ∧ ¬ κ y z < 0), ⟨_, Heap.le.refl _, ift.of (fun hj => ?_) (fun hj => ?_)⟩, ?_⟩
  ·have hj := of_decide_eq_true hj
   have hne : Z1 ≠ [] := fun e => by subst e; simp at hj
   obtain ⟨Z1', z, rfl⟩ := Qge hne
   have hzl1 : (Z1' ++ [z]).length = Z1'.length + 1 := by simp
   rw [hzl1] at hZl
   have ew : w .i64 (((A.length + (Z1' ++ [z]).length : Nat) : Int) - 1) = ((A.length + Z1'.length : Nat) : Int) := by
    rw [hzl1, Qi (by omega) (by omega)]; omega
   rw [ew]
   refine cmp0 h ?_ (A := A ++ (Z1' ++ [z])) (x := y) (D := Z2 ++ Y' ++ D) rfl (by simp) (A2 := A ++ Z1') (y := z) (D2 := y :: (Z2 ++ Y' ++ D)) (by simp) (by simp) hPy (hPZ z (by rw [hZ]; simp)) ⟨rfl, fun hd => ⟨_, _, rfl, of_decide_eq_true hd⟩, fun hd => .inr ⟨_, _, rfl, of_decide_eq_false hd⟩⟩
   simp only [List.length_append, List.length_cons, List.length_nil] at hZl ⊢
   omega
  ·have hj := of_decide_eq_false hj
   have hz1 : Z1 = [] := List.length_eq_zero_iff.1 (by omega)
   exact ⟨rfl, fun hd => (by cases hd), fun _ => .inl hz1⟩
  ·rintro c B ⟨rfl, ht, hff⟩
   refine ift.of (fun hc => ?_) (fun hc => ?_)
   ·obtain ⟨Z1', z, rfl, hlt⟩ := ht hc
    have hzl1 : (Z1' ++ [z]).length = Z1'.length + 1 := by simp
    rw [hzl1] at hZl
    have ew : w .i64 (((A.length + (Z1' ++ [z]).length : Nat) : Int) - 1) = ((A.length + Z1'.length : Nat) : Int) := by
     rw [hzl1, Qi (by omega) (by omega)]; omega
    rw [ew]
    refine ⟨fun _ B => B = arr H0 b sp ((A ++ Z1') ++ y :: ([] ++ z :: (Z2 ++ Y' ++ D))), ?_, ?_⟩
    ·show dr _ _
     refine swp2 (J := fun _ B => B = arr H0 b sp ((A ++ Z1') ++ y :: ([] ++ z :: (Z2 ++ Y' ++ D)))) h.s (A := A ++ Z1') (x := z) (B := []) (y := y) (D := Z2 ++ Y' ++ D) ?_ ?_ ?_ ?_ ?_
     ·simp only [List.length_append, List.length_nil]; omega
     ·simp
     ·simp
     ·simp; omega
     ·rfl
    rintro _ B rfl
    refine ⟨⟨Z1', z :: Z2, by rw [hZ]; simp, fun u hu => ?_, rfl, by simp⟩, ?_⟩
    ·rcases List.mem_cons.1 hu with rfl | hu
     ·exact hlt
     ·exact hy2 u hu
    ·simp only [List.length_append, List.length_singleton]; omega
   ·rw [Qi (by omega) (by omega)]
    have hz' : (Z1 ++ Z2).Pairwise (Bf κ ι) := hZ ▸ hz
    refine ⟨⟨Z1 ++ y :: Z2, Y0 ++ [y], Y', by rw [hX]; simp, ?_, ?_, by simp; omega, by simp; omega, by simp⟩, by simp only [List.length_cons]; omega⟩
    ·have : (Z1 ++ y :: Z2).Perm (y :: (Z1 ++ Z2)) := List.perm_middle
     refine this.trans ?_
     rw [← hZ]
     exact (List.Perm.cons y hp).trans (List.perm_append_comm (l₁ := [y]))
    ·refine ins2 h.lin hz' hPy (fun x hx => hPZ x (by rw [hZ]; exact hx)) ?_ hy2 (fun x hx => hιz x (by rw [hZ]; exact hx))
     rcases hff hc with rfl | ⟨Z1', z, rfl, hnl⟩
     ·intro x hx; cases hx
     ·intro x hx
      rcases List.mem_append.1 hx with hx | hx
      ·have hm1 : x ∈ Z := by rw [hZ]; simp [hx]
       have hm2 : z ∈ Z := by rw [hZ]; simp
       have hb : Bf κ ι x z := (List.pairwise_append.1 (List.pairwise_append.1 hz').1).2.2 x hx z (List.mem_singleton.2 rfl)
       have a1 := h.lin.anti y z hPy (hPZ z hm2)
       have a2 := h.lin.anti y x hPy (hPZ x hm1)
       have := (h.lin.tr x z y (hPZ x hm1) (hPZ z hm2) hPy hb.le (by omega)).1
       omega
      ·rw [List.mem_singleton.1 hx]; exact hnl
 ·have hc := of_decide_eq_false hc
  simp only [List.length_cons] at hxl hc
  have hY : Y = [] := List.length_eq_zero_iff.1 (by omega)
  subst hY
  rw [List.append_nil] at hX ⊢
  exact k Z (hX ▸ hp) hz
theorem QdJ {X M Y : List (TE × G)} {a c m : Int} {K : Heap → Prop} (h : Sls s b n) (hn : A.length + X.length + M.length + Y.length + D.length = n) (hxy : X.length = Y.length) (ha : a = (A.length : Int)) (hc : c = ((A.length + X.length + M.length : Nat) : Int)) (hm : m = (X.length : Int))
 (k : K (arr H0 b sp (A ++ Y ++ M ++ X ++ D))) : Ql C s a c m f K (arr H0 b sp (A ++ X ++ M ++ Y ++ D)) := by
 have hsm := h.small
 subst ha; subst hc; subst hm
 apply Qbb
 unfold Qaf
 refine ⟨fun x B => ∃ i : Nat, x = (i : Int) ∧ i ≤ X.length ∧ B = arr H0 b sp (A ++ (Y.take i ++ X.drop i) ++ M ++ (X.take i ++ Y.drop i) ++ D), fun x _ => X.length - x.toNat, ⟨0, rfl, Nat.zero_le _, by simp⟩, ?_⟩
 rintro x B ⟨i, rfl, hi, rfl⟩
 refine ift.of (fun hlt => ?_) (fun hlt => ?_)
 ·have hlt : i < X.length := by have := of_decide_eq_true hlt; omega
  have hlt2 : i < Y.length := by omega
  have w1 : w .i64 (((A.length + X.length + M.length : Nat) : Int) + (i : Int)) = ((A.length + X.length + M.length + i : Nat) : Int) := by rw [Qi (by omega) (by omega)]; omega
  have w2 : w .i64 ((A.length : Int) + (i : Int)) = ((A.length + i : Nat) : Int) := by rw [Qi (by omega) (by omega)]; omega
  rw [w1, w2]
  have dx := List.drop_eq_getElem_cons hlt
  have dy := List.drop_eq_getElem_cons hlt2
  have tx : X.take (i + 1) = X.take i ++ [X[i]] := by rw [List.take_add_one, List.getElem?_eq_getElem hlt]; rfl
  have ty : Y.take (i + 1) = Y.take i ++ [Y[i]] := by rw [List.take_add_one, List.getElem?_eq_getElem hlt2]; rfl
  have l1 : (Y.take i).length = i := by rw [List.length_take]; omega
  have l2 : (X.take i).length = i := by rw [List.length_take]; omega
  have l3 : (X.drop (i + 1)).length = X.length - (i + 1) := List.length_drop ..
  have l4 : (Y.drop (i + 1)).length = Y.length - (i + 1) := List.length_drop ..
  refine ⟨fun _ B => B = arr H0 b sp ((A ++ Y.take i) ++ Y[i] :: ((X.drop (i + 1) ++ M ++ X.take i) ++ X[i] :: (Y.drop (i + 1) ++ D))), ?_, ?_⟩
  ·show dr _ _
   refine swp1 (J := fun _ B => B = arr H0 b sp ((A ++ Y.take i) ++ Y[i] :: ((X.drop (i + 1) ++ M ++ X.take i) ++ X[i] :: (Y.drop (i + 1) ++ D)))) h (A := A ++ Y.take i) (x := X[i]) (y := Y[i]) (B := X.drop (i + 1) ++ M ++ X.take i) (D := Y.drop (i + 1) ++ D) ?_ ?_ ?_ ?_ rfl
   ·simp only [List.length_append, l1, l2, l3]; omega
   ·rw [dx, dy]; simp only [List.append_assoc, List.cons_append]
   ·simp only [List.length_append, l1]
   ·simp only [List.length_append, l1, l2, l3]; omega
  rintro _ B rfl
  rw [Qi (by omega) (by omega)]
  refine ⟨⟨i + 1, by omega, by omega, ?_⟩, by first | omega | (dsimp only; omega)⟩
  rw [tx, ty]; simp only [List.append_assoc, List.cons_append, List.nil_append, List.singleton_append]
 ·have hie : i = X.length := by have := of_decide_eq_false hlt; omega
  subst hie
  rw [List.take_length, List.drop_length, hxy, List.take_length, List.drop_length, List.append_nil, List.append_nil]
  exact k
theorem Qix {X Y : List (TE × G)} {a m e : Int} {K : Heap → Prop} (h : Sls s b n) (hn : A.length + X.length + Y.length + D.length = n) (hX : X ≠ []) (hY : Y ≠ []) (ha : a = (A.length : Int)) (hm : m = ((A.length + X.length : Nat) : Int)) (he : e = ((A.length + X.length + Y.length : Nat) : Int))
 (k : K (arr H0 b sp (A ++ Y ++ X ++ D))) : QT C s a m e f K (arr H0 b sp (A ++ X ++ Y ++ D)) := by
 have hsm := h.small
 have px : 0 < X.length := List.length_pos_iff.2 hX
 have py : 0 < Y.length := List.length_pos_iff.2 hY
 subst ha; subst hm; subst he
 apply Qbr
 unfold Qas
 have w1 : w .i64 (((A.length + X.length : Nat) : Int) - (A.length : Int)) = ((X.length : Nat) : Int) := by rw [Qi (by omega) (by omega)]; omega
 have w2 : w .i64 (((A.length + X.length + Y.length : Nat) : Int) - ((A.length + X.length : Nat) : Int)) = ((Y.length : Nat) : Int) := by rw [Qi (by omega) (by omega)]; omega
 rw [w1, w2]
 refine ⟨fun x B => ∃ P U V S : List (TE × G), x = (((U.length : Nat) : Int), ((V.length : Nat) : Int)) ∧ B = arr H0 b sp (P ++ U ++ V ++ S) ∧ A ++ Y ++ X ++ D = P ++ V ++ U ++ S ∧ P.length + U.length = A.length + X.length ∧ P.length + U.length + V.length + S.length = n ∧ 0 < U.length ∧ 0 < V.length,
  fun x _ => x.1.toNat + x.2.toNat, ⟨A, X, Y, D, rfl, rfl, rfl, rfl, by omega, px, py⟩, ?_⟩
 rintro x B ⟨P, U, V, S, rfl, rfl, hT, hl, hl2, pu, pv⟩
 have w3 : w .i64 (((A.length + X.length : Nat) : Int) - ((U.length : Nat) : Int)) = ((P.length : Nat) : Int) := by rw [Qi (by omega) (by omega)]; omega
 dsimp only
 rw [w3]
 refine ift.of (fun hne => ?_) (fun heq => ?_)
 ·have hne : U.length ≠ V.length := fun e => by rw [e] at hne; simp at hne
  refine ift.of (fun hgt => ?_) (fun hgt => ?_)
  ·have hgt : V.length < U.length := by have := of_decide_eq_true hgt; omega
   -- U = U1 ++ U2
   have hU : U = U.take V.length ++ U.drop V.length := (List.take_append_drop ..).symm
   have l1 : (U.take V.length).length = V.length := by rw [List.length_take]; omega
   have l2 : (U.drop V.length).length = U.length - V.length := List.length_drop ..
   generalize U.take V.length = U1 at *
   generalize U.drop V.length = U2 at *
   subst hU
   simp only [List.length_append] at hl hl2 pu hne hgt
   have e0 : P ++ (U1 ++ U2) ++ V ++ S = P ++ U1 ++ U2 ++ V ++ S := by simp only [List.append_assoc]
   rw [e0]
   refine QdJ h (A := P) (X := U1) (M := U2) (Y := V) (D := S) (by omega) (by omega) rfl (by omega) (by omega) ?_
   rw [Qi (by simp only [List.length_append]; omega) (by simp only [List.length_append]; omega)]
   refine ⟨⟨P ++ V, U2, U1, S, ?_, by simp only [List.append_assoc], by rw [hT]; simp only [List.append_assoc], by simp only [List.length_append]; omega, by simp only [List.length_append]; omega, by omega, by omega⟩, ?_⟩
   ·simp only [List.length_append, Prod.mk.injEq]; omega
   ·simp only [List.length_append]; omega
  ·have hgt : U.length < V.length := by have := of_decide_eq_false hgt; omega
   have hV : V = V.take (V.length - U.length) ++ V.drop (V.length - U.length) := (List.take_append_drop ..).symm
   have l1 : (V.take (V.length - U.length)).length = V.length - U.length := by rw [List.length_take]; omega
   have l2 : (V.drop (V.length - U.length)).length = U.length := by rw [List.length_drop]; omega
   have w4 : w .i64 (w .i64 (((A.length + X.length : Nat) : Int) + ((V.length : Nat) : Int)) - ((U.length : Nat) : Int)) = ((P.length + U.length + (V.length - U.length) : Nat) : Int) := by
    rw [Qi (x := ((A.length + X.length : Nat) : Int) + ((V.length : Nat) : Int)) (by omega) (by omega), Qi (by omega) (by omega)]; omega
   rw [w4]
   generalize V.take (V.length - U.length) = V1 at *
   generalize V.drop (V.length - U.length) = V2 at *
   have l3 : V.length = V1.length + V2.length := by omega
   have e0 : P ++ U ++ V ++ S = P ++ U ++ V1 ++ V2 ++ S := by rw [hV]; simp only [List.append_assoc]
   rw [e0]
   refine QdJ h (A := P) (X := U) (M := V1) (Y := V2) (D := S) (by omega) (by omega) rfl (by omega) rfl ?_
   rw [Qi (by omega) (by omega)]
   refine ⟨⟨P, V2, V1, U ++ S, ?_, by simp only [List.append_assoc], by rw [hT, hV]; simp only [List.append_assoc], by omega, by simp only [List.length_append]; omega, by omega, by omega⟩, ?_⟩
   ·simp only [Prod.mk.injEq]; omega
   ·first | omega | (dsimp only; omega)
 ·have heq : U.length = V.length := by
   have : ((U.length : Nat) : Int) = ((V.length : Nat) : Int) := by simpa using heq
   omega
  have e0 : P ++ U ++ V ++ S = P ++ U ++ [] ++ V ++ S := by simp only [List.append_assoc, List.nil_append]
  rw [e0]
  refine QdJ h (A := P) (X := U) (M := []) (Y := V) (D := S) (by simp only [List.length_nil]; omega) heq rfl (by simp only [List.length_nil]; omega) rfl ?_
  rw [hT] at k
  simpa only [List.append_assoc, List.nil_append] using k
theorem pr {a b c d : Int} (h1 : a = c) (h2 : b = d) : (a, b) = (c, d) := by rw [h1, h2]
theorem Qib {a f x c : Nat} (hc : c < f) (h1 : a + x ≤ 281474976710656) (h2 : f ≤ 281474976710656) : w .i64 (((a + f + (a + x) - 1 : Nat) : Int) - ((a + c : Nat) : Int)) = ((a + x + (f - 1 - c) : Nat) : Int) := by
 have e1 : a + f + (a + x) - 1 = a + x + (f - 1 - c) + (a + c) := by omega
 rw [e1, Qi (by omega) (by omega)]; omega
/-- what is found by halving -/
theorem Qhk (h : Where C H0 R s b n f P κ) : ∀ (N : Nat) {X Y A D : List (TE × G)} {a m e : Int} {K : Heap → Prop}, X.length + Y.length ≤ N → X ≠ [] → Y ≠ [] → a = (A.length : Int) → m = ((A.length + X.length : Nat) : Int) → e = ((A.length + X.length + Y.length : Nat) : Int) → A.length + X.length + Y.length + D.length = n →
 (∀ x ∈ X ++ Y, P x) → X.Pairwise (Bf κ ι) → Y.Pairwise (Bf κ ι) → (∀ x ∈ X, ∀ y ∈ Y, ι x < ι y) → (∀ Z : List (TE × G), Z.Perm (X ++ Y) → Z.Pairwise (Bf κ ι) → K (arr H0 b sp (A ++ Z ++ D))) → Qg C s a m e f K (arr H0 b sp (A ++ X ++ Y ++ D)) := by
 have hsm := h.s.small
 intro N
 induction N with
 | zero => intro X Y A D a m e K hN hX; have := List.length_pos_iff.2 hX; omega
 | succ N ih =>
 intro X Y A D a m e K hN hX hY ha hm he hn hP sX sY hι k
 have px : 0 < X.length := List.length_pos_iff.2 hX
 have py : 0 < Y.length := List.length_pos_iff.2 hY
 have hPX : ∀ x ∈ X, P x := fun x hx => hP x (List.mem_append_left _ hx)
 have hPY : ∀ y ∈ Y, P y := fun y hy => hP y (List.mem_append_right _ hy)
 subst ha; subst hm; subst he
 apply Qbe
 unfold Qak
 have w1 : w .i64 (((A.length + X.length : Nat) : Int) - (A.length : Int)) = ((X.length : Nat) : Int) := by rw [Qi (by omega) (by omega)]; omega
 have w2 : w .i64 (((A.length + X.length + Y.length : Nat) : Int) - ((A.length + X.length : Nat) : Int)) = ((Y.length : Nat) : Int) := by rw [Qi (by omega) (by omega)]; omega
 rw [w1, w2]
 refine ift.of (fun hone => ?_) (fun hone => ?_)
 ·-- one ahead of many
  have hx1 : X.length = 1 := by
   have : ((X.length : Nat) : Int) = 1 := by simpa using hone
   omega
  obtain ⟨x, rfl⟩ := List.length_eq_one_iff.1 hx1
  have hPx : P x := hPX x (List.mem_cons_self ..)
  refine ⟨fun y B => B = arr H0 b sp (A ++ [x] ++ Y ++ D) ∧ ∃ i j : Nat, y = (((A.length + 1 + i : Nat) : Int), ((A.length + 1 + j : Nat) : Int)) ∧ i ≤ j ∧ j ≤ Y.length ∧ (∀ y ∈ Y.take i, κ y x < 0) ∧ (∀ y ∈ Y.drop j, ¬ κ y x < 0), fun y _ => (y.2 - y.1).toNat,
   ⟨rfl, 0, Y.length, by simp, Nat.zero_le _, Nat.le_refl _, fun y hy => by simp at hy, fun y hy => by simp at hy⟩, ?_⟩
  rintro _ B ⟨rfl, i, j, rfl, hij, hj, hlo, hhi⟩
  dsimp only
  refine ift.of (fun hlt => ?_) (fun hlt => ?_)
  ·have hlt : i < j := by have := of_decide_eq_true hlt; omega
   rw [Qc2 (by omega)]
   have hh : (A.length + 1 + i + (A.length + 1 + j)) / 2 = A.length + 1 + (i + j) / 2 := by omega
   rw [hh]
   have hc1 : i ≤ (i + j) / 2 := by omega
   have hc2 : (i + j) / 2 < j := by omega
   generalize (i + j) / 2 = c at *
   have hcl : c < Y.length := by omega
   have hPc := hPY _ (List.getElem_mem hcl)
   have hpm := QcT sY hcl
   have eY := Qev hcl
   have lt : (Y.take c).length = c := by rw [List.length_take]; omega
   refine ⟨_, Heap.le.refl _, ?_⟩
   refine cmp0 h (by simp only [List.length_append]; omega) (A := A ++ [x] ++ Y.take c) (x := Y[c]) (D := Y.drop (c + 1) ++ D) ?_ ?_ (A2 := A) (y := x) (D2 := Y ++ D) (by simp) rfl hPc hPx ?_
   ·conv => lhs; rw [eY]
    simp only [List.append_assoc, List.cons_append]
   ·simp only [List.length_append, List.length_singleton, lt]
   refine ift.of (fun hd => ?_) (fun hd => ?_)
   ·have hd := of_decide_eq_true hd
    rw [Qi (by omega) (by omega)]
    refine ⟨⟨rfl, c + 1, j, pr (by omega) (by omega), by omega, hj, fun y hy => ?_, hhi⟩, by first | omega | (dsimp only; omega)⟩
    rw [List.take_add_one, List.getElem?_eq_getElem hcl, Option.toList_some] at hy
    rcases List.mem_append.1 hy with hy | hy
    ·exact (h.lin.tr y Y[c] x (hPY y (QP hy)) hPc hPx (hpm.1 y hy).le (by omega)).2 (.inr hd)
    ·rw [List.mem_singleton.1 hy]; exact hd
   ·have hd := of_decide_eq_false hd
    refine ⟨⟨rfl, i, c, rfl, hc1, by omega, hlo, fun y hy => ?_⟩, by first | omega | (dsimp only; omega)⟩
    rw [List.drop_eq_getElem_cons hcl] at hy
    rcases List.mem_cons.1 hy with rfl | hy
    ·exact hd
    ·intro hyx
     have hb := (hpm.2 y hy).le
     exact hd ((h.lin.tr Y[c] y x hPc (hPY y (Qap hy)) hPx hb (by omega)).2 (.inr hyx))
  ·have hij : i = j := by have := of_decide_eq_false hlt; omega
   subst hij
   have w3 : w .i64 (((A.length + 1 + i : Nat) : Int) - 1) = ((A.length + i : Nat) : Int) := by rw [Qi (by omega) (by omega)]; omega
   have hY12 : Y = Y.take i ++ Y.drop i := (List.take_append_drop ..).symm
   have l1 : (Y.take i).length = i := by rw [List.length_take]; omega
   have l2 : (Y.drop i).length = Y.length - i := List.length_drop ..
   have fin : K (arr H0 b sp (A ++ (Y.take i ++ x :: Y.drop i) ++ D)) := by
    refine k _ ?_ (ins1 h.lin (by rw [← hY12]; exact sY) hPx (by rw [← hY12]; exact hPY) hlo hhi (by rw [← hY12]; exact fun y hy => hι x (List.mem_cons_self ..) y hy))
    have p1 : (Y.take i ++ x :: Y.drop i).Perm (x :: (Y.take i ++ Y.drop i)) := List.perm_middle
    rw [← hY12] at p1
    exact p1
   generalize Y.take i = Y1 at *
   generalize Y.drop i = Y2 at *
   subst hY12
   rw [w3]
   refine ⟨fun y B => ∃ U V : List (TE × G), Y1 = U ++ V ∧ y = ((A.length + U.length : Nat) : Int) ∧ B = arr H0 b sp (A ++ U ++ x :: (V ++ Y2 ++ D)), fun y _ => A.length + i - y.toNat, ⟨[], Y1, rfl, by simp, by simp only [List.append_assoc, List.cons_append, List.nil_append, List.append_nil, List.singleton_append]⟩, ?_⟩
   rintro y B ⟨U, V, rfl, rfl, rfl⟩
   simp only [List.length_append] at l1 hn hj
   refine ift.of (fun hlt => ?_) (fun hlt => ?_)
   ·have hlt := of_decide_eq_true hlt
    cases V with
    | nil => simp only [List.length_nil] at l1; omega
    | cons v V =>
    simp only [List.length_cons] at l1 hn
    have w4 : w .i64 (((A.length + U.length : Nat) : Int) + 1) = ((A.length + U.length + 1 : Nat) : Int) := by rw [Qi (by omega) (by omega)]; omega
    rw [w4]
    refine ⟨fun _ B => B = arr H0 b sp ((A ++ U) ++ v :: ([] ++ x :: (V ++ Y2 ++ D))), ?_, ?_⟩
    ·show dr _ _
     refine swp1 (J := fun _ B => B = arr H0 b sp ((A ++ U) ++ v :: ([] ++ x :: (V ++ Y2 ++ D)))) h.s (A := A ++ U) (x := x) (B := []) (y := v) (D := V ++ Y2 ++ D) ?_ ?_ ?_ ?_ rfl
     ·first | (simp only [List.length_append, List.length_nil]; done) | (simp only [List.length_append, List.length_nil]; omega)
     ·simp only [List.append_assoc, List.cons_append, List.nil_append]
     ·simp only [List.length_append]
     ·first | (simp only [List.length_append, List.length_nil]; done) | (simp only [List.length_append, List.length_nil]; omega)
    rintro _ B rfl
    refine ⟨⟨U ++ [v], V, by simp, by simp only [List.length_append, List.length_singleton]; omega, by simp only [List.append_assoc, List.cons_append, List.nil_append, List.singleton_append]⟩, by first | omega | (dsimp only; omega)⟩
   ·have hlt := of_decide_eq_false hlt
    have hV : V = [] := List.length_eq_zero_iff.1 (by omega)
    subst hV
    simpa only [List.append_assoc, List.cons_append, List.nil_append, List.append_nil] using fin
 refine ift.of (fun hone2 => ?_) (fun hone2 => ?_)
 ·-- many ahead of one
  have hy1 : Y.length = 1 := by
   have : ((Y.length : Nat) : Int) = 1 := by simpa using hone2
   omega
  obtain ⟨y, rfl⟩ := List.length_eq_one_iff.1 hy1
  have hPy : P y := hPY y (List.mem_cons_self ..)
  refine ⟨fun z B => B = arr H0 b sp (A ++ X ++ [y] ++ D) ∧ ∃ i j : Nat, z = (((A.length + i : Nat) : Int), ((A.length + j : Nat) : Int)) ∧ i ≤ j ∧ j ≤ X.length ∧ (∀ x ∈ X.take i, ¬ κ y x < 0) ∧ (∀ x ∈ X.drop j, κ y x < 0), fun z _ => (z.2 - z.1).toNat,
   ⟨rfl, 0, X.length, by simp, Nat.zero_le _, Nat.le_refl _, fun y hy => by simp at hy, fun y hy => by simp at hy⟩, ?_⟩
  rintro _ B ⟨rfl, i, j, rfl, hij, hj, hlo, hhi⟩
  dsimp only
  refine ift.of (fun hlt => ?_) (fun hlt => ?_)
  ·have hlt : i < j := by have := of_decide_eq_true hlt; omega
   rw [Qc2 (by omega)]
   have hh : (A.length + i + (A.length + j)) / 2 = A.length + (i + j) / 2 := by omega
   rw [hh]
   have hc1 : i ≤ (i + j) / 2 := by omega
   have hc2 : (i + j) / 2 < j := by omega
   generalize (i + j) / 2 = c at *
   have hcl : c < X.length := by omega
   have hPc := hPX _ (List.getElem_mem hcl)
   have hpm := QcT sX hcl
   have eX := Qev hcl
   have lt : (X.take c).length = c := by rw [List.length_take]; omega
   refine ⟨_, Heap.le.refl _, ?_⟩
   refine cmp0 h (by simp only [List.length_append]; omega) (A := A ++ X) (x := y) (D := D) (by simp) (by simp) (A2 := A ++ X.take c) (y := X[c]) (D2 := X.drop (c + 1) ++ [y] ++ D) ?_ ?_ hPy hPc ?_
   ·conv => lhs; rw [eX]
    simp only [List.append_assoc, List.cons_append]
   ·simp only [List.length_append, lt]
   refine ift.of (fun hd => ?_) (fun hd => ?_)
   ·have hd : ¬ κ y X[c] < 0 := by simpa using hd
    rw [Qi (by omega) (by omega)]
    refine ⟨⟨rfl, c + 1, j, pr (by omega) (by omega), by omega, hj, fun x hx => ?_, hhi⟩, by first | omega | (dsimp only; omega)⟩
    rw [List.take_add_one, List.getElem?_eq_getElem hcl, Option.toList_some] at hx
    rcases List.mem_append.1 hx with hx | hx
    ·intro hyx
     exact hd ((h.lin.tr y x X[c] hPy (hPX x (QP hx)) hPc (by omega) (hpm.1 x hx).le).2 (.inl hyx))
    ·rw [List.mem_singleton.1 hx]; exact hd
   ·have hd : κ y X[c] < 0 := by simpa using hd
    refine ⟨⟨rfl, i, c, rfl, hc1, by omega, hlo, fun x hx => ?_⟩, by first | omega | (dsimp only; omega)⟩
    rw [List.drop_eq_getElem_cons hcl] at hx
    rcases List.mem_cons.1 hx with rfl | hx
    ·exact hd
    ·exact (h.lin.tr y X[c] x hPy hPc (hPX x (Qap hx)) (by omega) (hpm.2 x hx).le).2 (.inl hd)
  ·have hij : i = j := by have := of_decide_eq_false hlt; omega
   subst hij
   have hX12 : X = X.take i ++ X.drop i := (List.take_append_drop ..).symm
   have l1 : (X.take i).length = i := by rw [List.length_take]; omega
   have fin : K (arr H0 b sp (A ++ (X.take i ++ y :: X.drop i) ++ D)) := by
    refine k _ ?_ (ins2 h.lin (by rw [← hX12]; exact sX) hPy (by rw [← hX12]; exact hPX) hlo hhi (by rw [← hX12]; exact fun x hx => hι x hx y (List.mem_cons_self ..)))
    have p1 : (X.take i ++ y :: X.drop i).Perm (y :: (X.take i ++ X.drop i)) := List.perm_middle
    rw [← hX12] at p1
    exact p1.trans (List.perm_append_comm (l₁ := [y]))
   generalize X.take i = X1 at *
   generalize X.drop i = X2 at *
   subst hX12
   refine ⟨fun z B => ∃ U V : List (TE × G), X2 = U ++ V ∧ z = ((A.length + i + U.length : Nat) : Int) ∧ B = arr H0 b sp (A ++ X1 ++ U ++ y :: (V ++ D)), fun z _ => z.toNat, ⟨X2, [], by simp, by simp only [List.length_append]; omega, by simp only [List.append_assoc, List.cons_append, List.nil_append, List.append_nil, List.singleton_append]⟩, ?_⟩
   rintro z B ⟨U, V, rfl, rfl, rfl⟩
   simp only [List.length_append, List.length_singleton] at l1 hn hj
   refine ift.of (fun hlt => ?_) (fun hlt => ?_)
   ·have hlt := of_decide_eq_true hlt
    have hne : U ≠ [] := fun e => by subst e; simp at hlt
    obtain ⟨U', u, rfl⟩ := Qge hne
    simp only [List.length_append, List.length_singleton] at hn hlt ⊢
    have w4 : w .i64 (((A.length + i + (U'.length + 1) : Nat) : Int) - 1) = ((A.length + i + U'.length : Nat) : Int) := by rw [Qi (by omega) (by omega)]; omega
    rw [w4]
    refine ⟨fun _ B => B = arr H0 b sp ((A ++ X1 ++ U') ++ y :: ([] ++ u :: (V ++ D))), ?_, ?_⟩
    ·show dr _ _
     refine swp2 (J := fun _ B => B = arr H0 b sp ((A ++ X1 ++ U') ++ y :: ([] ++ u :: (V ++ D)))) h.s (A := A ++ X1 ++ U') (x := u) (B := []) (y := y) (D := V ++ D) ?_ ?_ ?_ ?_ rfl
     ·first | (simp only [List.length_append, List.length_nil]; done) | (simp only [List.length_append, List.length_nil]; omega)
     ·simp only [List.append_assoc, List.cons_append, List.nil_append]
     ·simp only [List.length_append]; omega
     ·first | (simp only [List.length_append, List.length_nil]; done) | (simp only [List.length_append, List.length_nil]; omega)
    rintro _ B rfl
    refine ⟨⟨U', u :: V, by simp, rfl, by simp only [List.append_assoc, List.cons_append, List.nil_append]⟩, by first | omega | (dsimp only; omega)⟩
   ·have hlt := of_decide_eq_false hlt
    have hU : U = [] := List.length_eq_zero_iff.1 (by omega)
    subst hU
    simpa only [List.append_assoc, List.cons_append, List.nil_append, List.append_nil] using fin
 -- many and many
 have hx2 : X.length ≠ 1 := fun e => by rw [e] at hone; simp at hone
 have hy2 : Y.length ≠ 1 := fun e => by rw [e] at hone2; simp at hone2
 clear hone hone2
 have hmid : w .i64 (sShr .u64 (w .u64 (w .i64 ((A.length : Int) + ((A.length + X.length + Y.length : Nat) : Int)))) 1) = ((A.length + (X.length + Y.length) / 2 : Nat) : Int) := by
  rw [Qc2 (by omega)]; omega
 rw [hmid]
 have hf1 : 2 ≤ (X.length + Y.length) / 2 := by omega
 have hf2 : 2 * ((X.length + Y.length) / 2) ≤ X.length + Y.length := by omega
 have hf3 : X.length + Y.length ≤ 2 * ((X.length + Y.length) / 2) + 1 := by omega
 generalize (X.length + Y.length) / 2 = F at *
 have wn : w .i64 (((A.length + F : Nat) : Int) + ((A.length + X.length : Nat) : Int)) = ((A.length + F + (A.length + X.length) : Nat) : Int) := by rw [Qi (by omega) (by omega)]; omega
 have wp : w .i64 (((A.length + F + (A.length + X.length) : Nat) : Int) - 1) = ((A.length + F + (A.length + X.length) - 1 : Nat) : Int) := by rw [Qi (by omega) (by omega)]; omega
 rw [wn, wp]
 have ws : w .i64 (((A.length + F + (A.length + X.length) : Nat) : Int) - ((A.length + X.length + Y.length : Nat) : Int)) = ((A.length + F : Nat) : Int) - ((Y.length : Nat) : Int) := by rw [Qi (by omega) (by omega)]; omega
 rw [ws]
 -- from where to where
 refine ⟨fun x B => B = arr H0 b sp (A ++ X ++ Y ++ D) ∧ ∃ lo hi : Nat, x = (((A.length + lo : Nat) : Int), ((A.length + hi : Nat) : Int)) ∧ lo ≤ hi ∧ hi ≤ X.length ∧ hi ≤ F ∧ F ≤ lo + Y.length ∧ (lo = 0 ∨ F = lo + Y.length) ∧ (hi = X.length ∨ hi = F), ift.of (fun hgt => ?_) (fun hgt => ?_), ?_⟩
 ·have hgt := of_decide_eq_true hgt
  exact ⟨rfl, F - Y.length, F, pr (by omega) (by omega), by omega, by omega, by omega, by omega, .inr (by omega), .inr rfl⟩
 ·have hgt := of_decide_eq_false hgt
  exact ⟨rfl, 0, X.length, pr (by omega) (by omega), by omega, by omega, by omega, by omega, .inl rfl, .inl rfl⟩
 rintro _ B ⟨rfl, lo, hi, rfl, hlh, hhX, hhF, hFl, hlo, hhi⟩
 have idx : ∀ c : Nat, c < X.length → c < F → F < c + 1 + Y.length → F - 1 - c < Y.length := fun c _ _ _ => by omega
 refine ⟨fun x B => B = arr H0 b sp (A ++ X ++ Y ++ D) ∧ ∃ i j : Nat, x = (((A.length + i : Nat) : Int), ((A.length + j : Nat) : Int)) ∧ lo ≤ i ∧ i ≤ j ∧ j ≤ hi ∧
  (lo < i → ∃ x y, X[i - 1]? = some x ∧ Y[F - i]? = some y ∧ ¬ κ y x < 0) ∧ (j < hi → ∃ x y, X[j]? = some x ∧ Y[F - 1 - j]? = some y ∧ κ y x < 0), fun x _ => (x.2 - x.1).toNat,
  ⟨rfl, lo, hi, rfl, Nat.le_refl _, hlh, Nat.le_refl _, fun hh => absurd hh (Nat.lt_irrefl _), fun hh => absurd hh (Nat.lt_irrefl _)⟩, ?_⟩
 rintro _ B ⟨rfl, i, j, rfl, hli, hij, hjh, hA, hB⟩
 dsimp only
 refine ift.of (fun hlt => ?_) (fun hlt => ?_)
 ·have hlt : i < j := by have := of_decide_eq_true hlt; omega
  rw [Qc2 (by omega)]
  have hh : (A.length + i + (A.length + j)) / 2 = A.length + (i + j) / 2 := by omega
  rw [hh]
  have hc1 : i ≤ (i + j) / 2 := by omega
  have hc2 : (i + j) / 2 < j := by omega
  generalize (i + j) / 2 = c at *
  have hcX : c < X.length := by omega
  have hcY : F - 1 - c < Y.length := by omega
  have wq : w .i64 (((A.length + F + (A.length + X.length) - 1 : Nat) : Int) - ((A.length + c : Nat) : Int)) = ((A.length + X.length + (F - 1 - c) : Nat) : Int) := by
   have hcF : c < F := by omega
   exact Qib hcF (by omega) (by omega)
  rw [wq]
  have eX := Qev hcX
  have eY := Qev hcY
  have ltX : (X.take c).length = c := by rw [List.length_take]; omega
  have ltY : (Y.take (F - 1 - c)).length = F - 1 - c := by rw [List.length_take]; omega
  refine ⟨_, Heap.le.refl _, ?_⟩
  refine cmp0 h (by simp only [List.length_append]; omega) (A := A ++ X ++ Y.take (F - 1 - c)) (x := Y[F - 1 - c]) (D := Y.drop (F - 1 - c + 1) ++ D) ?_ ?_ (A2 := A ++ X.take c) (y := X[c]) (D2 := X.drop (c + 1) ++ Y ++ D) ?_ ?_ (hPY _ (List.getElem_mem hcY)) (hPX _ (List.getElem_mem hcX)) ?_
  ·conv => lhs; rw [eY]
   simp only [List.append_assoc, List.cons_append]
  ·simp only [List.length_append, ltY]
  ·conv => lhs; rw [eX]
   simp only [List.append_assoc, List.cons_append]
  ·simp only [List.length_append, ltX]
  refine ift.of (fun hd => ?_) (fun hd => ?_)
  ·have hd : ¬ κ Y[F - 1 - c] X[c] < 0 := by simpa using hd
   rw [Qi (by omega) (by omega)]
   refine ⟨⟨rfl, c + 1, j, pr (by omega) (by omega), by omega, by omega, hjh, fun _ => ⟨X[c], Y[F - 1 - c], List.getElem?_eq_getElem hcX, ?_, hd⟩, hB⟩, by first | omega | (dsimp only; omega)⟩
   rw [show F - (c + 1) = F - 1 - c by omega]; exact List.getElem?_eq_getElem hcY
  ·have hd : κ Y[F - 1 - c] X[c] < 0 := by simpa using hd
   exact ⟨⟨rfl, i, c, rfl, hli, hc1, by omega, hA, fun _ => ⟨X[c], Y[F - 1 - c], List.getElem?_eq_getElem hcX, List.getElem?_eq_getElem hcY, hd⟩⟩, by first | omega | (dsimp only; omega)⟩
 ·have hij : i = j := by have := of_decide_eq_false hlt; omega
  subst hij
  have we : w .i64 (((A.length + F + (A.length + X.length) : Nat) : Int) - ((A.length + i : Nat) : Int)) = ((A.length + X.length + (F - i) : Nat) : Int) := by rw [Qi (by omega) (by omega)]; omega
  rw [we]
  have hFi : F - i ≤ Y.length := by omega
  have spX := Qdg sX i
  have spY := Qdg sY (F - i)
  have eX : X = X.take i ++ X.drop i := (List.take_append_drop ..).symm
  have eY : Y = Y.take (F - i) ++ Y.drop (F - i) := (List.take_append_drop ..).symm
  have l1 : (X.take i).length = i := by rw [List.length_take]; omega
  have l2 : (X.drop i).length = X.length - i := List.length_drop ..
  have l3 : (Y.take (F - i)).length = F - i := by rw [List.length_take]; omega
  have l4 : (Y.drop (F - i)).length = Y.length - (F - i) := List.length_drop ..
  -- what is ahead stands ahead
  have c1 : ∀ x ∈ X.take i, ∀ y ∈ Y.drop (F - i), Bf κ ι x y := by
   intro x hx y hy
   rcases Nat.lt_or_ge lo i with hlt | hge
   ·obtain ⟨x0, y0, hx0, hy0, hn0⟩ := hA hlt
    have hx0l : i - 1 < X.length := by omega
    obtain ⟨hy0l, hy0e⟩ := List.getElem?_eq_some_iff.1 hy0
    obtain ⟨_, hx0e⟩ := List.getElem?_eq_some_iff.1 hx0
    have m1 : x0 ∈ X := hx0e ▸ List.getElem_mem hx0l
    have m2 : y0 ∈ Y := hy0e ▸ List.getElem_mem hy0l
    have a1 : κ x x0 ≤ 0 := by
     have hx' : x ∈ X.take (i - 1 + 1) := by rw [show i - 1 + 1 = i by omega]; exact hx
     rw [List.take_add_one, hx0, Option.toList_some] at hx'
     rcases List.mem_append.1 hx' with hx' | hx'
     ·have := ((QcT sX hx0l).1 x hx').le; rw [hx0e] at this; exact this
     ·rw [List.mem_singleton.1 hx', h.lin.refl (hPX x0 m1)]; omega
    have a2 : κ y0 y ≤ 0 := by
     rw [List.drop_eq_getElem_cons hy0l, hy0e] at hy
     rcases List.mem_cons.1 hy with rfl | hy
     ·rw [h.lin.refl (hPY y m2)]; omega
     ·have := ((QcT sY hy0l).2 y hy).le; rw [hy0e] at this; exact this
    have a3 := h.lin.anti y0 x0 (hPY y0 m2) (hPX x0 m1)
    have a4 := (h.lin.tr x x0 y0 (hPX x (QP hx)) (hPX x0 m1) (hPY y0 m2) a1 (by omega)).1
    have a5 := (h.lin.tr x y0 y (hPX x (QP hx)) (hPY y0 m2) (hPY y (Qap hy)) a4 a2).1
    exact Bf.of a5 (hι x (QP hx) y (Qap hy))
   ·rcases hlo with h0 | h0
    ·have : i = 0 := by omega
     rw [this] at hx; simp at hx
    ·have : (Y.drop (F - i)).length = 0 := by omega
     rw [List.length_eq_zero_iff.1 this] at hy; cases hy
  have c2 : ∀ y ∈ Y.take (F - i), ∀ x ∈ X.drop i, Bf κ ι y x := by
   intro y hy x hx
   rcases Nat.lt_or_ge i hi with hlt | hge
   ·obtain ⟨x0, y0, hx0, hy0, hn0⟩ := hB hlt
    obtain ⟨hy0l, hy0e⟩ := List.getElem?_eq_some_iff.1 hy0
    obtain ⟨hx0l, hx0e⟩ := List.getElem?_eq_some_iff.1 hx0
    have m1 : x0 ∈ X := hx0e ▸ List.getElem_mem hx0l
    have m2 : y0 ∈ Y := hy0e ▸ List.getElem_mem hy0l
    have a1 : κ y y0 ≤ 0 := by
     have hy' : y ∈ Y.take (F - 1 - i + 1) := by rw [show F - 1 - i + 1 = F - i by omega]; exact hy
     rw [List.take_add_one, hy0, Option.toList_some] at hy'
     rcases List.mem_append.1 hy' with hy' | hy'
     ·have := ((QcT sY hy0l).1 y hy').le; rw [hy0e] at this; exact this
     ·rw [List.mem_singleton.1 hy', h.lin.refl (hPY y0 m2)]; omega
    have a2 : κ x0 x ≤ 0 := by
     rw [List.drop_eq_getElem_cons hx0l, hx0e] at hx
     rcases List.mem_cons.1 hx with rfl | hx
     ·rw [h.lin.refl (hPX x m1)]; omega
     ·have := ((QcT sX hx0l).2 x hx).le; rw [hx0e] at this; exact this
    have a4 := (h.lin.tr y y0 x0 (hPY y (QP hy)) (hPY y0 m2) (hPX x0 m1) a1 (by omega)).2 (.inr hn0)
    exact .inl ((h.lin.tr y x0 x (hPY y (QP hy)) (hPX x0 m1) (hPX x (Qap hx)) (by omega) a2).2 (.inl a4))
   ·rcases hhi with h0 | h0
    ·have : (X.drop i).length = 0 := by omega
     rw [List.length_eq_zero_iff.1 this] at hx; cases hx
    ·have : F - i = 0 := by omega
     rw [this] at hy; simp at hy
  have hP1 : ∀ x ∈ X.take i ++ Y.take (F - i), P x := fun x hx => by
   rcases List.mem_append.1 hx with hx | hx
   ·exact hPX x (QP hx)
   ·exact hPY x (QP hx)
  have hP2 : ∀ x ∈ X.drop i ++ Y.drop (F - i), P x := fun x hx => by
   rcases List.mem_append.1 hx with hx | hx
   ·exact hPX x (Qap hx)
   ·exact hPY x (Qap hx)
  have ι1 : ∀ x ∈ X.take i, ∀ y ∈ Y.take (F - i), ι x < ι y := fun x hx y hy => hι x (QP hx) y (QP hy)
  have ι2 : ∀ x ∈ X.drop i, ∀ y ∈ Y.drop (F - i), ι x < ι y := fun x hx y hy => hι x (Qap hx) y (Qap hy)
  have k2 : ∀ Z1 Z2 : List (TE × G), Z1.Perm (X.take i ++ Y.take (F - i)) → Z1.Pairwise (Bf κ ι) → Z2.Perm (X.drop i ++ Y.drop (F - i)) → Z2.Pairwise (Bf κ ι) → K (arr H0 b sp (A ++ (Z1 ++ Z2) ++ D)) := by
   intro Z1 Z2 p1 s1 p2 s2
   refine k _ ?_ (List.pairwise_append.2 ⟨s1, s2, fun u hu v hv => ?_⟩)
   ·have p3 := p1.append p2
    refine p3.trans ?_
    conv => rhs; rw [eX, eY]
    simp only [List.append_assoc]
    refine List.Perm.append_left _ ?_
    rw [← List.append_assoc, ← List.append_assoc]
    exact List.Perm.append_right _ List.perm_append_comm
   ·rcases List.mem_append.1 (p1.mem_iff.1 hu) with hu | hu
    ·rcases List.mem_append.1 (p2.mem_iff.1 hv) with hv | hv
     ·exact spX.2.2 u hu v hv
     ·exact c1 u hu v hv
    ·rcases List.mem_append.1 (p2.mem_iff.1 hv) with hv | hv
     ·exact c2 u hu v hv
     ·exact spY.2.2 u hu v hv
  generalize X.take i = X1 at *
  generalize X.drop i = X2 at *
  generalize Y.take (F - i) = Y1 at *
  generalize Y.drop (F - i) = Y2 at *
  have hlX : X.length = X1.length + X2.length := by rw [eX, List.length_append]
  have hlY : Y.length = Y1.length + Y2.length := by rw [eY, List.length_append]
  refine ⟨fun _ B => B = arr H0 b sp (A ++ X1 ++ Y1 ++ X2 ++ Y2 ++ D), ift.of (fun hr => ?_) (fun hr => ?_), ?_⟩
  ·simp only [Bool.and_eq_true, decide_eq_true_eq] at hr
   have e0 : A ++ X ++ Y ++ D = (A ++ X1) ++ X2 ++ Y1 ++ (Y2 ++ D) := by rw [eX, eY]; simp only [List.append_assoc]
   rw [e0]
   refine Qix h.s (A := A ++ X1) (X := X2) (Y := Y1) (D := Y2 ++ D) (by simp only [List.length_append]; omega) (fun e => by rw [e] at hlX; simp only [List.length_nil] at hlX; omega) (fun e => by rw [e] at l3; simp only [List.length_nil] at l3; omega) (by simp only [List.length_append]; omega) (by simp only [List.length_append]; omega) (by simp only [List.length_append]; omega) ?_
   simp only [List.append_assoc]
  ·simp only [Bool.and_eq_false_iff, decide_eq_false_iff_not] at hr
   rw [eX, eY]
   rcases hr with hr | hr
   ·have : X2 = [] := List.length_eq_zero_iff.1 (by omega)
    subst this
    simp only [List.append_assoc, List.nil_append, List.append_nil]
   ·have : Y1 = [] := List.length_eq_zero_iff.1 (by omega)
    subst this
    simp only [List.append_assoc, List.nil_append, List.append_nil]
  rintro _ B rfl
  refine ⟨fun _ B => ∃ Z1 : List (TE × G), Z1.Perm (X1 ++ Y1) ∧ Z1.Pairwise (Bf κ ι) ∧ B = arr H0 b sp (A ++ Z1 ++ X2 ++ Y2 ++ D), ift.of (fun hr => ?_) (fun hr => ?_), ?_⟩
  ·simp only [Bool.and_eq_true, decide_eq_true_eq] at hr
   have e0 : A ++ X1 ++ Y1 ++ X2 ++ Y2 ++ D = A ++ X1 ++ Y1 ++ (X2 ++ Y2 ++ D) := by simp only [List.append_assoc]
   rw [e0]
   refine ih (X := X1) (Y := Y1) (A := A) (D := X2 ++ Y2 ++ D) (by omega) (fun e => by rw [e] at l1; simp only [List.length_nil] at l1; omega) (fun e => by rw [e] at l3; simp only [List.length_nil] at l3; omega) rfl (by omega) (by omega) (by simp only [List.length_append]; omega) hP1 spX.1 spY.1 ι1 fun Z p1 s1 => ⟨Z, p1, s1, by simp only [List.append_assoc]⟩
  ·simp only [Bool.and_eq_false_iff, decide_eq_false_iff_not] at hr
   refine ⟨X1 ++ Y1, .refl _, ?_, by simp only [List.append_assoc]⟩
   rcases hr with hr | hr
   ·have : X1 = [] := List.length_eq_zero_iff.1 (by omega)
    subst this
    exact spY.1
   ·have : Y1 = [] := List.length_eq_zero_iff.1 (by omega)
    subst this
    rw [List.append_nil]; exact spX.1
  rintro _ B ⟨Z1, p1, s1, rfl⟩
  have hz1 := p1.length_eq
  rw [List.length_append] at hz1
  refine ift.of (fun hr => ?_) (fun hr => ?_)
  ·simp only [Bool.and_eq_true, decide_eq_true_eq] at hr
   have e0 : A ++ Z1 ++ X2 ++ Y2 ++ D = (A ++ Z1) ++ X2 ++ Y2 ++ D := by simp only [List.append_assoc]
   rw [e0]
   refine ih (X := X2) (Y := Y2) (A := A ++ Z1) (D := D) (by omega) (fun e => by rw [e] at hlX; simp only [List.length_nil] at hlX; omega) (fun e => by rw [e] at l4; simp only [List.length_nil] at l4; omega) (by simp only [List.length_append]; omega) (by simp only [List.length_append]; omega) (by simp only [List.length_append]; omega) (by simp only [List.length_append]; omega) hP2 spX.2.1 spY.2.1 ι2 fun Z p2 s2 => ?_
   have := k2 Z1 Z p1 s1 p2 s2
   simpa only [List.append_assoc] using this
  ·simp only [Bool.and_eq_false_iff, decide_eq_false_iff_not] at hr
   have s2 : (X2 ++ Y2).Pairwise (Bf κ ι) := by
    rcases hr with hr | hr
    ·have : X2 = [] := List.length_eq_zero_iff.1 (by omega)
     subst this
     exact spY.2.1
    ·have : Y2 = [] := List.length_eq_zero_iff.1 (by omega)
     subst this
     rw [List.append_nil]; exact spX.2.1
   have := k2 Z1 (X2 ++ Y2) p1 s1 (.refl _) s2
   simpa only [List.append_assoc] using this
theorem QgL (h : Where C H0 R s b n f P κ) {X Y A D : List (TE × G)} {a m e : Int} {K : Heap → Prop} (hX : X ≠ []) (hY : Y ≠ []) (ha : a = (A.length : Int)) (hm : m = ((A.length + X.length : Nat) : Int)) (he : e = ((A.length + X.length + Y.length : Nat) : Int)) (hn : A.length + X.length + Y.length + D.length = n)
 (hP : ∀ x ∈ X ++ Y, P x) (sX : X.Pairwise (Bf κ ι)) (sY : Y.Pairwise (Bf κ ι)) (hι : ∀ x ∈ X, ∀ y ∈ Y, ι x < ι y)
 (k : ∀ Z : List (TE × G), Z.Perm (X ++ Y) → Z.Pairwise (Bf κ ι) → K (arr H0 b sp (A ++ Z ++ D))) : Qg C s a m e f K (arr H0 b sp (A ++ X ++ Y ++ D)) :=
 Qhk h _ (Nat.le_refl _) hX hY ha hm he hn hP sX sY hι k
theorem QiK (h : Where C H0 R s b n f P κ) {L0 : List (TE × G)} {K : Heap → Prop} (hn : L0.length = n) (hP : ∀ x ∈ L0, P x) (hι : L0.Pairwise fun x y => ι x < ι y)
 (k : ∀ Z : List (TE × G), Z.Perm L0 → Z.Pairwise (Bf κ ι) → K (arr H0 b sp Z)) : QU C s (n : Int) f K (arr H0 b sp L0) := by
 have hsm := h.s.small
 apply Qaq
 unfold QQ
 refine ⟨fun x B => ∃ D0 R0 D : List (TE × G), L0 = D0 ++ R0 ∧ D.length = D0.length ∧ x = (((D.length : Nat) : Int), ((D.length + 20 : Nat) : Int)) ∧ B = arr H0 b sp (D ++ R0) ∧ ∀ Z', Ch κ ι 20 Z' R0 → Ch κ ι 20 (D ++ Z') L0, fun x _ => n - x.1.toNat,
  ⟨[], L0, [], rfl, rfl, rfl, rfl, fun Z' hz => hz⟩, ?_⟩
 rintro _ B ⟨D0, R0, D, hL, hD, rfl, rfl, hc⟩
 have hl : D.length + R0.length = n := by rw [← hn, hL, List.length_append, hD]
 have hP0 : ∀ x ∈ R0, P x := fun x hx => hP x (by rw [hL]; exact List.mem_append_right _ hx)
 have hι0 : R0.Pairwise fun x y => ι x < ι y := by rw [hL] at hι; exact (List.pairwise_append.1 hι).2.1
 dsimp only
 refine ift.of (fun hle => ?_) (fun hle => ?_)
 ·have hle := of_decide_eq_true hle
  have hR : R0 = R0.take 20 ++ R0.drop 20 := (List.take_append_drop ..).symm
  have l1 : (R0.take 20).length = 20 := by rw [List.length_take]; omega
  have hι1 := (Qdg hι0 20).1
  have hP1 : ∀ x ∈ R0.take 20, P x := fun x hx => hP0 x (QP hx)
  generalize R0.take 20 = X at *
  generalize R0.drop 20 = R1 at *
  subst hR
  rw [List.length_append] at hl
  rw [Qi (by omega) (by omega)]
  have e0 : D ++ (X ++ R1) = D ++ X ++ R1 := by simp only [List.append_assoc]
  rw [e0]
  refine Qgz h (A := D) (X := X) (D := R1) rfl (by omega) (by omega) hP1 hι1 fun Z p1 s1 => ?_
  have hz := p1.length_eq
  refine ⟨⟨D0 ++ X, R1, D ++ Z, by rw [hL]; simp only [List.append_assoc], by simp only [List.length_append]; omega, ?_, rfl, fun Z' hz' => ?_⟩, ?_⟩
  ·exact pr (by simp only [List.length_append]; omega) (by simp only [List.length_append]; omega)
  ·rw [List.append_assoc]
   exact hc _ (.cons l1 p1 s1 hz')
  ·first | omega | (dsimp only; omega)
 ·have hle := of_decide_eq_false hle
  have e0 : D ++ R0 = D ++ R0 ++ [] := by simp only [List.append_nil]
  rw [e0]
  refine Qgz h (A := D) (X := R0) (D := []) rfl (by omega) (by simp only [List.length_nil]; omega) hP0 hι0 fun Z p1 s1 => ?_
  rw [List.append_nil]
  have hch := hc Z (.last (by omega) p1 s1)
  clear hc e0 hle hι0 hP0 hl hD hL
  generalize D ++ Z = Z at hch
  refine ⟨fun x B => ∃ (bs : Nat) (Z : List (TE × G)), x = (bs : Int) ∧ 1 ≤ bs ∧ bs ≤ 281474976710656 ∧ B = arr H0 b sp Z ∧ Ch κ ι bs Z L0, fun x _ => n - x.toNat, ⟨20, Z, rfl, by omega, by omega, rfl, hch⟩, ?_⟩
  rintro _ B ⟨bs, Z, rfl, hb1, hb2, rfl, hch⟩
  refine ift.of (fun hlt => ?_) (fun hlt => ?_)
  ·have hlt : bs < n := by have := of_decide_eq_true hlt; omega
   have w2 : w .i64 (2 * (bs : Int)) = ((2 * bs : Nat) : Int) := by rw [Qi (by omega) (by omega)]; omega
   rw [w2]
   refine ⟨fun x B => ∃ D R D0 R0 : List (TE × G), L0 = D0 ++ R0 ∧ D.length = D0.length ∧ x = (((D.length : Nat) : Int), ((D.length + 2 * bs : Nat) : Int)) ∧ B = arr H0 b sp (D ++ R) ∧ Ch κ ι bs R R0 ∧ ∀ Z', Ch κ ι (2 * bs) Z' R0 → Ch κ ι (2 * bs) (D ++ Z') L0, fun x _ => n - x.1.toNat,
    ⟨[], Z, [], L0, rfl, rfl, pr rfl (by simp), rfl, hch, fun Z' hz => hz⟩, ?_⟩
   rintro _ B ⟨D, R, D0, R0, hL, hD, rfl, rfl, hR, hc⟩
   have hl : D.length + R0.length = n := by rw [← hn, hL, List.length_append, hD]
   have hP0 : ∀ x ∈ R0, P x := fun x hx => hP x (by rw [hL]; exact List.mem_append_right _ hx)
   have hι0 : R0.Pairwise fun x y => ι x < ι y := by rw [hL] at hι; exact (List.pairwise_append.1 hι).2.1
   have hrl := hR.perm.length_eq
   dsimp only
   have wa : w .i64 ((D.length : Int) + (bs : Int)) = ((D.length + bs : Nat) : Int) := by rw [Qi (by omega) (by omega)]; omega
   rw [wa]
   refine ift.of (fun hle => ?_) (fun hle => ?_)
   ·have hle := of_decide_eq_true hle
    obtain ⟨X, R1, X0, R2, rfl, rfl, lx, px, sx, hR2⟩ := hR.big (by omega)
    rw [List.length_append] at hl
    obtain ⟨Y, R1, Y0, R2, rfl, rfl, ly, py, sy, hR3⟩ := hR2.big (by omega)
    rw [List.length_append] at hl
    have hxl := px.length_eq
    have hyl := py.length_eq
    have hr3 := hR3.perm.length_eq
    have wb : w .i64 (((D.length + 2 * bs : Nat) : Int) + ((2 * bs : Nat) : Int)) = ((D.length + 2 * bs + 2 * bs : Nat) : Int) := by rw [Qi (by omega) (by omega)]; omega
    rw [wb]
    have e0 : D ++ (X ++ (Y ++ R1)) = D ++ X ++ Y ++ R1 := by simp only [List.append_assoc]
    rw [e0]
    have hιx := List.pairwise_append.1 hι0
    refine QgL h (A := D) (X := X) (Y := Y) (D := R1) (fun e => by rw [e] at hxl; simp only [List.length_nil] at hxl; omega) (fun e => by rw [e] at hyl; simp only [List.length_nil] at hyl; omega) rfl (by omega) (by omega) (by omega) (fun x hx => ?_) sx sy (fun x hx y hy => hιx.2.2 x (px.mem_iff.1 hx) y (List.mem_append_left _ (py.mem_iff.1 hy))) fun Z1 p1 s1 => ?_
    ·rcases List.mem_append.1 hx with hx | hx
     ·exact hP0 x (List.mem_append_left _ (px.mem_iff.1 hx))
     ·exact hP0 x (List.mem_append_right _ (List.mem_append_left _ (py.mem_iff.1 hx)))
    ·have hz := p1.length_eq
     rw [List.length_append] at hz
     refine ⟨⟨D ++ Z1, R1, D0 ++ X0 ++ Y0, R2, by rw [hL]; simp only [List.append_assoc], by simp only [List.length_append]; omega, ?_, rfl, hR3, fun Z' hz' => ?_⟩, ?_⟩
     ·exact pr (by simp only [List.length_append]; omega) (by simp only [List.length_append]; omega)
     ·rw [List.append_assoc]
      refine hc _ ?_
      rw [← List.append_assoc]
      exact .cons (by rw [List.length_append]; omega) (p1.trans (px.append py)) s1 hz'
     ·first | omega | (dsimp only; omega)
   ·have hle := of_decide_eq_false hle
    refine ⟨fun _ B => ∃ Z : List (TE × G), B = arr H0 b sp Z ∧ Ch κ ι (2 * bs) Z L0, ift.of (fun hlt2 => ?_) (fun hlt2 => ?_), ?_⟩
    ·have hlt2 := of_decide_eq_true hlt2
     obtain ⟨X, Y, X0, Y0, rfl, rfl, lx, px, sx, hR2⟩ := hR.big (by omega)
     rw [List.length_append] at hl
     have hxl := px.length_eq
     have hyl := hR2.perm.length_eq
     have sy := hR2.small (by omega)
     have hιx := List.pairwise_append.1 hι0
     have e0 : D ++ (X ++ Y) = D ++ X ++ Y ++ [] := by simp only [List.append_assoc, List.append_nil]
     rw [e0]
     refine QgL h (A := D) (X := X) (Y := Y) (D := []) (fun e => by rw [e] at hxl; simp only [List.length_nil] at hxl; omega) (fun e => by rw [e] at hyl; simp only [List.length_nil] at hyl; omega) rfl (by omega) (by omega) (by simp only [List.length_nil]; omega) (fun x hx => ?_) sx sy (fun x hx y hy => hιx.2.2 x (px.mem_iff.1 hx) y (hR2.perm.mem_iff.1 hy)) fun Z1 p1 s1 => ?_
     ·rcases List.mem_append.1 hx with hx | hx
      ·exact hP0 x (List.mem_append_left _ (px.mem_iff.1 hx))
      ·exact hP0 x (List.mem_append_right _ (hR2.perm.mem_iff.1 hx))
     ·refine ⟨D ++ Z1, by rw [List.append_nil], hc _ (.last (by rw [List.length_append]; omega) (p1.trans (px.append hR2.perm)) s1)⟩
    ·have hlt2 := of_decide_eq_false hlt2
     exact ⟨D ++ R, rfl, hc _ (.last (by omega) hR.perm (hR.all (by omega) (by omega)))⟩
    ·rintro _ B ⟨Z, rfl, hz⟩
     rw [Qi (by omega) (by omega)]
     exact ⟨⟨2 * bs, Z, by omega, by omega, by omega, rfl, hz⟩, by omega⟩
  ·have hlt : n ≤ bs := by have := of_decide_eq_false hlt; omega
   exact k Z hch.perm (hch.all (by omega) (by omega))
theorem Qhj (h : Where C H0 R s b n f P κ) {L0 : List (TE × G)} {K : Heap → Prop} (hn : L0.length = n) (hP : ∀ x ∈ L0, P x) (hι : L0.Pairwise fun x y => ι x < ι y)
 (k : ∀ Z : List (TE × G), Z.Perm L0 → Z.Pairwise (Bf κ ι) → K (arr H0 b sp Z)) : Qe C s f K (arr H0 b sp L0) := by
 apply QN
 unfold Qr
 rw [h.s.len]
 exact QiK h hn hP hι k
end
end Sx.SE
end

noncomputable section
set_option linter.unusedVariables false
set_option linter.unusedSimpArgs false
set_option maxRecDepth 10000
namespace Sx
section
open Go Go.Proofs
section
variable {C : Ctx} {H : Heap}
theorem Qj5 {A : Heap} {l : List V} {t : Sl} {H : Heap} {K : Sl → Heap → Prop} (hv : VRow A t l) (hle : A.le H) (hz : wids l ≤ 2513169434843) (k : ∀ t2 H2, Made H H2 l t2 → K t2 H2) : QbG C t K H := by
 have main : ∀ v : V, ∀ (A : Heap) (t : Sl) (H : Heap) (K : Sl → Heap → Prop), VRow A t v.l → A.le H → wids v.l ≤ 2513169434843 → (∀ t2 H2, Made H H2 v.l t2 → K t2 H2) → QbG C t K H := by
  refine fun v => V.rec_ (P := fun v => ∀ (A : Heap) (t : Sl) (H : Heap) (K : Sl → Heap → Prop), VRow A t v.l → A.le H → wids v.l ≤ 2513169434843 → (∀ t2 H2, Made H H2 v.l t2 → K t2 H2) → QbG C t K H) (fun v ih => ?_) v
  intro A t H K hv hle hz k
  apply Qgl
  unfold QeD
  have hl := hv.len
  have hll := Qgi v.l
  refine ⟨fun x D => ∃ (s : Sl) (ys : List TV), x = (s, (ys.length : Int)) ∧ Od H D v.l s ys, fun x _ => v.l.length - x.2.toNat,
   ⟨Sl.nil, [], rfl, Od.nil⟩, ?_⟩
  rintro _ D ⟨s, ys, rfl, ho⟩
  rw [hl]
  refine ift.of (fun h => ?_) (fun h => ?_)
  ·have hlt : ys.length < v.l.length := by have := of_decide_eq_true h; dsimp only at this; omega
   have hleD := hle.trans ho.own.le
   refine hv.ld hleD rfl hlt fun x hx => ?_
   have hmem := List.getElem_mem hlt
   have hsz := Qgj hmem
   have hxi := QbZ.1 hx
   intro b12 n12
   refine ⟨_, Heap.put_same .., by simp [Qb.c], ?_⟩
   rw [Heap.put_put]
   have hc : splice (Qb.c Qb.zero) (b12, 0).2 (Qb.c x) = Qb.c x := rfl
   rw [hc]
   show ldL (D.put b12 (.row (Qb.c x))) _ _
   refine ⟨x.L, by rw [Qhe]; rfl, ?_⟩
   refine ih _ hmem A _ _ _ hxi.2.2.2 (hleD.trans (Heap.le_put n12)) (by omega) fun t2 H2 hm => ?_
   refine ⟨_, hm.le _ _ (Heap.put_same ..), by show 0 + 3 < 4; omega, ?_⟩
   show ldT (H2.put b12 (.row ((Qb.c x).set (0 + 3) (slv t2)))) Qb.c (b12, 0) _
   have hc2 : (Qb.c x).set (0 + 3) (slv t2) = Qb.c { x with L := t2 } := rfl
   rw [hc2]
   refine ⟨{ x with L := t2 }, Qbc (Heap.put_same ..) fun j v hj => by simpa using hj, ?_⟩
   have hown : Own (H2.put b12 (.row (Qb.c { x with L := t2 }))) 4 s (ys.flatMap Qb.c) := by
    obtain ⟨q1, q2, q3, q4⟩ := ho.own.own
    refine ⟨q1, q2, q3, q4.imp id fun ⟨b, sp, p1, p2, p3⟩ => ⟨b, sp, p1, ?_, p3⟩⟩
    have hne : b ≠ b12 := fun e => by rw [e, n12] at p2; cases p2
    rw [Heap.put_ne _ _ _ hne]
    exact hm.le _ _ (by rw [Heap.put_ne _ _ _ hne]; exact p2)
   have hf := flat4 ys
   have hsl : s.len = ys.length := by have := ho.own.own.1; omega
   refine Qdd (zc := Qb.c Qb.zero) hown.off rfl (by dsimp only; omega) (by dsimp only; omega) fun r H3 h4 hr => ?_
   rw [Qi (by omega) (by omega)]
   have hs := ho.step n12 hlt hm (x := { x with L := t2 }) ⟨hxi.1, hxi.2.1, hxi.2.2.1⟩ rfl (fun z e hz he => by rw [Heap.put_ne _ _ _ hz]; exact he) h4
   refine ⟨⟨r, ys ++ [{ x with L := t2 }], ?_, hs⟩, by first | omega | (dsimp only; omega)⟩
   rw [List.length_append, List.length_singleton]; rfl
  ·have hn : ys.length = v.l.length := by
    have := of_decide_eq_false h; dsimp only at this
    have := ho.le
    omega
   exact k _ _ (ho.fin hn (by omega))
 exact main (.mk 0 0 [] l) A t H K hv hle hz k
end
end
section
open Go Go.Proofs
theorem Qfj {l : List V} {i : Nat} (h : i < l.length) : vsizes (l.take (i + 1)) = vsizes (l.take i) + vsize l[i] := by
 have e : ∀ a b : List V, vsizes (a ++ b) = vsizes a + vsizes b := by
  intro a
  induction a with
  | nil => intro b; simp [vsizes]
  | cons v a ih => intro b; simp only [List.cons_append, vsizes, ih]; omega
 rw [List.take_add_one, List.getElem?_eq_getElem h, Option.toList_some, e]; simp [vsizes]
section
variable {C : Ctx} {H : Heap}
theorem div50 {n : Nat} (h : n ≤ 140737488355328) : w .i64 (1 + w .i64 (Int.tdiv (n : Int) 50)) = ((1 + n / 50 : Nat) : Int) := by
 have e : Int.tdiv (n : Int) 50 = ((n / 50 : Nat) : Int) := by
  rw [Int.tdiv_eq_ediv_of_nonneg (by omega)]; omega
 rw [e, Qi (x := ((n / 50 : Nat) : Int)) (by omega) (by omega), Qi (by omega) (by omega)]; omega
theorem QgQ {v : V} {x : TV} {H : Heap} {m : Nat} {K : Int → Heap → Prop} (hv : VIs H v x) (hB : VB v) (h0 : 1 ≤ m) (hm : m ≤ 1000000) (k : ∀ r : Nat, 1 ≤ r → r ≤ 8796093022208 + m → (r < m → vsize v ≤ r) → K r H) : QS C x m K H := by
 refine V.rec_ (P := fun v => ∀ {x H} {m : Nat} {K : Int → Heap → Prop}, VIs H v x → VB v → 1 ≤ m → m ≤ 1000000 → (∀ r : Nat, 1 ≤ r → r ≤ 8796093022208 + m → (r < m → vsize v ≤ r) → K r H) → QS C x m K H) (fun v ih => ?_) v hv hB h0 hm k
 clear hv hB h0 hm k m
 intro x H m K hv hB h0 hm k
 apply QS.gh
 apply QeR
 unfold Qc7
 intro b1 n1
 have hr := hv.row
 have hl := hr.len
 have hbl := hB.l
 have hbs := hB.s
 have hsz : vsize v = vsizes v.l + 1 := by obtain ⟨k, n, s, l⟩ := v; rfl
 have hb1 : (H.put b1 (.row (Qb.c x))) b1 = some (true, .row (Qb.c x)) := Heap.put_same ..
 have hle1 := Heap.le_put n1 (g := .row (Qb.c x)) (m := true)
 generalize H.put b1 (.row (Qb.c x)) = H1 at *
 refine bxS hb1 ?_
 rw [hv.txt, div50 hbs]
 have hd : v.s.length / 50 ≤ 2814749767107 := by omega
 refine ⟨fun y A => A = H1 ∧ ∃ i n : Nat, y = ((n : Int), (i : Int)) ∧ i ≤ v.l.length ∧ 1 ≤ n ∧ n ≤ 8796093022208 + m ∧ (n < m → 1 + vsizes (v.l.take i) ≤ n), fun y _ => v.l.length - y.2.toNat,
  ⟨rfl, 0, _, rfl, Nat.zero_le _, by omega, by omega, fun _ => by simp [vsizes]⟩, ?_⟩
 rintro _ A ⟨rfl, i, n, rfl, hi, hn1, hn2, hn3⟩
 refine bxL hb1 ?_
 rw [hl]
 refine ift.of (fun h => ?_) (fun h => ?_)
 ·simp only [Bool.and_eq_true, decide_eq_true_eq] at h
  have hlt : i < v.l.length := by omega
  have hnm : n < m := by omega
  have hmem := List.getElem_mem hlt
  refine bxL hb1 ?_
  refine hr.ld hle1 rfl hlt fun y hy => ?_
  rw [Qi (x := (m : Int) - n) (by omega) (by omega), show (m : Int) - n = ((m - n : Nat) : Int) by omega]
  refine ih _ hmem (hy.le hle1) (hB.ls.mem hmem) (by omega) (by omega) fun r r1 r2 r3 => ?_
  rw [Qi (by omega) (by omega), Qi (by omega) (by omega)]
  refine ⟨⟨rfl, i + 1, n + r, by simp, by omega, by omega, by omega, fun hh => ?_⟩, by first | omega | (dsimp only; omega)⟩
  rw [Qfj hlt]
  have := r3 (by omega)
  have := hn3 hnm
  omega
 ·refine ⟨H, Gh.le hle1, k n hn1 hn2 fun hh => ?_⟩
  have hie : i = v.l.length := by
   have hnm := hh
   simp only [Bool.and_eq_false_iff, decide_eq_false_iff_not] at h
   omega
  have := hn3 hh
  rw [hie, List.take_length] at this
  omega
end
end
section
open Go Go.Proofs
/-- an entry: a row, and a number -/
abbrev En := List V × Int
def EnIs (A : Heap) (v : En) (x : Qa) : Prop := VRow A x.Row v.1 ∧ VBs v.1 ∧ v.1.length ≤ 140737488355328 ∧ x.N = v.2 ∧ -9223372036854775808 ≤ v.2 ∧ v.2 < 9223372036854775808
abbrev EnL (A : Heap) := SlIs (EnIs A) Qa.c A
theorem EnIs.le {A B : Heap} (hle : A.le B) {v : En} {x : Qa} (h : EnIs A v x) : EnIs B v x := ⟨h.1.le hle, h.2⟩
/-- beyond what may be -/
def outE (n : Int) : Bool := decide (n < -2147483647) || decide (n > 2147483647)
section
variable {C : Ctx} {H A : Heap}
theorem Qjw {n : Int} {K : Bool → Heap → Prop} (k : K (outE n) H) : QbY C n K H := by
 apply QgW; exact k
theorem Qki {n : Int} {K : Int → Heap → Prop} (k : K n H) : Qgt C n K H := by
 apply QhJ; exact k
theorem Qj1 {n : Int} {K : Int → Heap → Prop} (k : K (w .i64 (0 - n)) H) : QeY C n K H := by
 apply Qgr; exact k
theorem Qjp {v : V} {x : TV} {K : Bool → Heap → Prop} (hv : VIs H v x) (hB : VB v) (k : K (!(mayV v)) H) : Qa9 C x K H := by
 apply Qa9.gh
 apply Qfv
 unfold Qdz
 intro b1 n1
 have hle := Heap.le_put n1 (g := .row (Qb.c x)) (m := true)
 have h1 : (H.put b1 (.row (Qb.c x))) b1 = some (true, .row (Qb.c x)) := Heap.put_same ..
 generalize H.put b1 (.row (Qb.c x)) = H2 at *
 refine bxV h1 (Qcw (hv.le hle) hB ⟨H, Gh.le hle, ?_⟩)
 have : ((checkV v : Int) != 0) = !(mayV v) := by unfold mayV; rfl
 rw [this]; exact k
end
end
section
open Go Go.Proofs
theorem VLs {A : Heap} {t : Sl} {l : List V} (h : VRow A t l) (hb : l.length ≤ 140737488355328) : SlIs (VIs A) Qb.c A t l := by
 obtain ⟨xs, h1, h2, h3⟩ := h
 exact ⟨xs, h1, h2, h3.len, hb, fun i v x hv hx => h3.get i v x hv hx⟩
def fnv (b : Bool) : Value := .func (.func (if b then 31 else 27)) (List.toArray []) (List.toArray [])
def doE (b : Bool) (n : Int) : Int := if b then w .i64 (0 - n) else n
section
variable {C : Ctx} {H A : Heap}
theorem Qj8 {b : Bool} {n : Int} {Φ : Value → Heap → Prop} (k : Φ (.int .i64 (doE b n)) H) : callU Tryz.prog C (fnv b) [.int .i64 n] H Φ := by
 cases b with
 | true => exact ⟨31, [], [], rfl, QgD, Spec.mono (Qj1 (C := C) (n := n) (K := fun r H2 => Φ (.int .i64 r) H2) k) fun v H2 ⟨r, hv, hr⟩ => by rw [hv]; exact hr⟩
 | false => exact ⟨27, [], [], rfl, QhO, Spec.mono (Qki (C := C) (n := n) (K := fun r H2 => Φ (.int .i64 r) H2) k) fun v H2 ⟨r, hv, hr⟩ => by rw [hv]; exact hr⟩
theorem QjK {l : List V} {s : Sl} {K : Bool → Heap → Prop} (hs : VRow H s l) (hB : VBs l) (hl : l.length ≤ 140737488355328) (k : K (!(mayR l)) H) : Qf C s (.func (.func 46) (List.toArray []) (List.toArray []) : Value) K H := by
 apply QY
 unfold Qw
 apply Qac
 unfold QH
 have hS := VLs hs hl
 refine ⟨fun x D => D = H ∧ ∃ i : Nat, x = (i : Int) ∧ i ≤ l.length ∧ (l.take i).all mayV = true, fun x _ => l.length - x.toNat, ⟨rfl, 0, rfl, Nat.zero_le _, by simp⟩, ?_⟩
 rintro _ D ⟨rfl, i, rfl, hi, hq⟩
 rw [hS.len]
 refine ift.of (fun h => ?_) (fun h => ?_)
 ·have hlt : i < l.length := by have := of_decide_eq_true h; omega
  refine hS.ld (Heap.le.refl _) (fun _ => rfl) (by omega) rfl hlt fun x hx => cu QfC (Qjp hx (hB.mem (List.getElem_mem hlt)) ?_)
  refine ift.of (fun h2 => ?_) (fun h2 => ?_)
  ·have h3 : mayV l[i] = false := by simpa using h2
   rw [QjL (List.getElem_mem hlt) h3] at k
   show K (decide ((i : Int) ≥ 0)) D
   rw [decide_eq_true (by omega)]; exact k
  ·have h3 : mayV l[i] = true := by simpa using h2
   rw [Qi (by omega) (by omega)]
   refine ⟨⟨rfl, i + 1, by omega, by omega, ?_⟩, by first | omega | (dsimp only; omega)⟩
   rw [List.take_add_one, List.getElem?_eq_getElem hlt, List.all_append, hq]
   simp [h3]
 ·have hie : i = l.length := by have := of_decide_eq_false h; omega
  rw [hie, List.take_length] at hq
  have : mayR l = true := by unfold mayR; exact hq
  rw [this] at k
  exact k
end
/-- where all entries so far stand -/
structure SI (A : Heap) (b1 b3 b5 b7 yl : Nat) (S : List (En × Bool)) (E H : Heap) (k : Nat) : Prop where
 leE : E.le H
 off : E b1 = none ∧ E b3 = none ∧ E b5 = none ∧ E b7 = none ∧ E yl = none
 ne : b1 ≠ b3 ∧ b5 ≠ b7 ∧ b5 ≠ b1 ∧ b5 ≠ b3 ∧ b7 ≠ b1 ∧ b7 ≠ b3
 c1 : H b1 = some (true, .row [slv Sl.nil])
 c3 : H b3 = some (true, .row [.int .i64 0])
 c7 : H b7 = some (true, .row [.int .i64 (if (S.take k).any (fun x => outE x.1.2) then 80 else 0)])
 may : ∀ x ∈ S.take k, mayR x.1.1 = true
 ls : ∃ (s : Sl) (L : List (Qa × En)), H b5 = some (true, .row [slv s]) ∧ Own H 2 s (L.flatMap fun x => Qa.c x.1) ∧ Fresh E s ∧ (∀ p, s.p = some p → p.1 ≠ b1 ∧ p.1 ≠ b3 ∧ p.1 ≠ b5 ∧ p.1 ≠ b7 ∧ p.1 ≠ yl) ∧
  L.map (·.2) = (S.take k).map (fun x => (x.1.1, doE x.2 x.1.2)) ∧ ∀ x ∈ L, (VRow A x.1.Row x.2.1 ∧ VBs x.2.1 ∧ x.2.1.length ≤ 140737488355328) ∧ x.1.N = x.2.2
/-- a row may not be -/
structure SErr (b1 b3 : Nat) (S : List (En × Bool)) (E H : Heap) : Prop where
 leE : E.le H
 c1 : H b1 = some (true, .row [slv Sl.nil])
 c3 : H b3 = some (true, .row [.int .i64 4])
 bad : S.any (fun x => !(mayR x.1.1)) = true
def SY (A : Heap) (b1 b3 b5 b7 yl : Nat) (r : Loop) (S : List (En × Bool)) (us : List Value) (K : Bool → Heap → Prop) (H : Heap) : Prop :=
 ∃ (E : Heap) (k : Nat) (hk : k < S.length) (x : Qa), A.le E ∧ SI A b1 b3 b5 b7 yl S E H k ∧ H yl = some (true, Rf.lrec r .ready none) ∧ us = [.agg (Qa.c x).toArray, fnv S[k].2] ∧ EnIs A S[k].1 x ∧
  (∀ H', SI A b1 b3 b5 b7 yl S E H' (k + 1) → H' yl = some (true, Rf.lrec r .ready none) → K true H') ∧ (∀ H', SErr b1 b3 S E H' → H' yl = some (true, Rf.lrec r .done (some .ret)) → K false H')
theorem Qu {E H : Heap} {b : Nat} {g : GO} (h : E.le H) (hb : E b = none) : E.le (H.put b g) := fun x e hx => by
 have : x ≠ b := fun e' => by subst e'; rw [hb] at hx; cases hx
 rw [Heap.put_ne _ _ _ this]; exact h _ _ hx
theorem Own.put_off {H : Heap} {z : Nat} {s : Sl} {cs : List Value} {b : Nat} {g : GO} (h : Own H z s cs) (hb : ∀ p, s.p = some p → p.1 ≠ b) : Own (H.put b g) z s cs := by
 obtain ⟨h1, h2, h3, h4⟩ := h
 refine ⟨h1, h2, h3, ?_⟩
 rcases h4 with h4 | ⟨c, sp, q1, q2, q3⟩
 ·exact .inl h4
 ·exact .inr ⟨c, sp, q1, by rw [Heap.put_ne _ _ _ (hb _ q1)]; exact q2, q3⟩
theorem stI {H : Heap} {b : Nat} {c v : Value} {K : Heap → Prop} (h : H b = some (true, .row [c])) (k : K (H.put b (.row [v]))) : st (b, 0) v K H := by
 refine ⟨_, h, by simp, ?_⟩
 exact k
end
section
open Go Go.Proofs
def rdS (C : Ctx) (b1 b3 b5 b7 : Nat) : Nat → Loop → List Value → (Bool → Heap → Prop) → Heap → Prop :=
 fun yl15 r16 us K19 H20 => ∃ (u12 : Qa) (u13 : Value), us = [.agg (Qa.c u12).toArray, u13] ∧
 nw (Qa.c Qa.zero) (fun b38 H39 =>
 stT (b38, 0) (Qa.c u12) (fun H40 =>
 H40 yl15 = some (true, Rf.lrec r16 .ready none) ∧
 ldL (Heap.put H40 yl15 (Rf.lrec r16 .busy none)) ((b38, 0).1, (b38, 0).2 + 0) fun x43 =>
 Qf C x43 (.func (.func 46) (List.toArray []) (List.toArray []) : Value) (fun r45 H46 =>
 ift r45
 (st (b1, 0) (slv Sl.nil) (fun H48 =>
 st (b3, 0) (.int .i64 4) (fun H49 =>
 H49 yl15 = some (true, Rf.lrec r16 .busy none) ∧ K19 false (Heap.put H49 yl15 (Rf.lrec r16 .done (some .ret)))) H48) H46)
 (jn (α := Unit) (fun x51 H52 =>
 dr H52 fun Hs60 =>
 ldL Hs60 (b5, 0) fun x62 =>
 ldL Hs60 ((b38, 0).1, (b38, 0).2 + 0) fun x64 =>
 ldI Hs60 .i64 ((b38, 0).1, (b38, 0).2 + 1) fun x66 =>
 callU Tryz.prog C u13 [.int .i64 x66] H52 (fun v H70 => ∃ (r69 : Int), v = .int .i64 r69 ∧
 Heap.le Hs60 H70 ∧
 nw ((Qa.c (⟨x64, r69⟩ : Qa)) ++ []) (fun b72 H73 =>
 Heap.le Hs60 H73 ∧
 apS (Qa.c Qa.zero) 32 x62 (Sl.of (some (b72, 0)) 1 1) (fun r75 H76 =>
 Heap.le Hs60 H76 ∧
 st (b5, 0) (slv r75) (fun H77 =>
 H77 yl15 = some (true, Rf.lrec r16 .busy none) ∧ K19 true (Heap.put H77 yl15 (Rf.lrec r16 .ready none))) H76) H73) H70))
 (fun J50 => ldI H46 .i64 ((b38, 0).1, (b38, 0).2 + 1) fun x54 =>
 QbY C x54 (fun r56 H57 =>
 ift r56
 (st (b7, 0) (.int .i64 80) (fun H59 =>
 J50 () H59) H57)
 (J50 () H57)) H46))) (Heap.put H40 yl15 (Rf.lrec r16 .busy none))) H39) H20
section
variable {A E H : Heap} {b1 b3 b5 b7 yl : Nat} {S : List (En × Bool)} {k : Nat}
theorem SI.here (h : SI A b1 b3 b5 b7 yl S E H k) : H b1 ≠ none ∧ H b3 ≠ none ∧ H b5 ≠ none ∧ H b7 ≠ none := by
 obtain ⟨s, L, g5, _⟩ := h.ls
 exact ⟨by rw [h.c1]; simp, by rw [h.c3]; simp, by rw [g5]; simp, by rw [h.c7]; simp⟩
theorem SI.grow {b : Nat} {g : GO} (h : SI A b1 b3 b5 b7 yl S E H k) (n : H b = none) (hy : yl ≠ b) : SI A b1 b3 b5 b7 yl S (E.put b g) (H.put b g) k := by
 obtain ⟨k1, k3, k5, k7⟩ := h.here
 have q : ∀ c, H c ≠ none → c ≠ b := fun c hc e => hc (by rw [e]; exact n)
 obtain ⟨o1, o3, o5, o7, oy⟩ := h.off
 obtain ⟨s, L, g5, gO, gF, gN, gM, gV⟩ := h.ls
 have sb : ∀ p, s.p = some p → p.1 ≠ b := fun p hp => by
  obtain ⟨g', hg⟩ := gO.mine hp
  exact q _ (by rw [hg]; simp)
 refine ⟨fun x e hx => ?_, ⟨?_, ?_, ?_, ?_, ?_⟩, h.ne, ?_, ?_, ?_, h.may, s, L, ?_, gO.put_off sb, fun p hp => ?_, gN, gM, gV⟩
 ·by_cases hb : x = b
  ·subst hb; rw [Heap.put_same] at hx ⊢; exact hx
  ·rw [Heap.put_ne _ _ _ hb] at hx ⊢; exact h.leE _ _ hx
 ·rw [Heap.put_ne _ _ _ (q _ k1)]; exact o1
 ·rw [Heap.put_ne _ _ _ (q _ k3)]; exact o3
 ·rw [Heap.put_ne _ _ _ (q _ k5)]; exact o5
 ·rw [Heap.put_ne _ _ _ (q _ k7)]; exact o7
 ·rw [Heap.put_ne _ _ _ hy]; exact oy
 ·rw [Heap.put_ne _ _ _ (q _ k1)]; exact h.c1
 ·rw [Heap.put_ne _ _ _ (q _ k3)]; exact h.c3
 ·rw [Heap.put_ne _ _ _ (q _ k7)]; exact h.c7
 ·rw [Heap.put_ne _ _ _ (q _ k5)]; exact g5
 ·rw [Heap.put_ne _ _ _ (sb p hp)]; exact gF p hp
theorem SI.weak {E' : Heap} (h : SI A b1 b3 b5 b7 yl S E H k) (hle : E'.le E) : SI A b1 b3 b5 b7 yl S E' H k := by
 obtain ⟨o1, o3, o5, o7, oy⟩ := h.off
 obtain ⟨s, L, g5, gO, gF, gN, gM, gV⟩ := h.ls
 exact ⟨hle.trans h.leE, ⟨hle.none o1, hle.none o3, hle.none o5, hle.none o7, hle.none oy⟩, h.ne, h.c1, h.c3, h.c7, h.may, s, L, g5, gO, gF.le hle, gN, gM, gV⟩
theorem SI.puty {g : GO} (h : SI A b1 b3 b5 b7 yl S E H k) (hy : yl ≠ b1 ∧ yl ≠ b3 ∧ yl ≠ b5 ∧ yl ≠ b7) : SI A b1 b3 b5 b7 yl S E (H.put yl g) k := by
 obtain ⟨y1, y3, y5, y7⟩ := hy
 obtain ⟨s, L, g5, gO, gF, gN, gM, gV⟩ := h.ls
 refine ⟨Qu h.leE h.off.2.2.2.2, h.off, h.ne, ?_, ?_, ?_, h.may, s, L, ?_, gO.put_off fun p hp => (gN p hp).2.2.2.2, gF, gN, gM, gV⟩
 ·rw [Heap.put_ne _ _ _ y1.symm]; exact h.c1
 ·rw [Heap.put_ne _ _ _ y3.symm]; exact h.c3
 ·rw [Heap.put_ne _ _ _ y7.symm]; exact h.c7
 ·rw [Heap.put_ne _ _ _ y5.symm]; exact g5
end
theorem QjB {C : Ctx} {A H2 : Heap} {b1 b3 b5 b7 yl : Nat} {r : Loop} {S : List (En × Bool)} {us : List Value} {K : Bool → Heap → Prop} (hS : S.length ≤ 1000000) (hyb : yl ≠ b1 ∧ yl ≠ b3 ∧ yl ≠ b5 ∧ yl ≠ b7) (h : SY A b1 b3 b5 b7 yl r S us K H2) :
 H2 yl = some (true, Rf.lrec r .ready none) ∧ us.length = 2 ∧ rdS C b1 b3 b5 b7 yl r us K H2 := by
 obtain ⟨E, k, hk, x, hAE, hI, hry, hus, hx, hK, hKe⟩ := h
 refine ⟨hry, by rw [hus]; rfl, x, fnv S[k].2, hus, ?_⟩
 obtain ⟨y1, y3, y5, y7⟩ := hyb
 intro b38 n38
 refine nwT rfl ?_
 have ny : yl ≠ b38 := fun e => by rw [e, n38] at hry; cases hry
 have I40 := hI.grow (g := .row (Qa.c x)) n38 ny
 have l40 := Heap.le_put n38 (g := .row (Qa.c x)) (m := true)
 have hb : (H2.put b38 (.row (Qa.c x))) b38 = some (true, .row (Qa.c x)) := Heap.put_same ..
 have hbE : (E.put b38 (.row (Qa.c x))) b38 = some (true, .row (Qa.c x)) := Heap.put_same ..
 have hEE : E.le (E.put b38 (.row (Qa.c x))) := Heap.le_put (hI.leE.none n38)
 have hE38 := hI.leE.none n38
 generalize H2.put b38 (.row (Qa.c x)) = H40 at *
 generalize E.put b38 (.row (Qa.c x)) = E2 at *
 have hy40 := l40 _ _ hry
 refine ⟨hy40, ?_⟩
 have I41 := I40.puty (g := Rf.lrec r .busy none) ⟨y1, y3, y5, y7⟩
 have hy41 : (H40.put yl (Rf.lrec r .busy none)) yl = some (true, Rf.lrec r .busy none) := Heap.put_same ..
 generalize H40.put yl (Rf.lrec r .busy none) = H41 at *
 have hAE2 := hAE.trans hEE
 have hA41 := hAE2.trans I41.leE
 have hb41 := I41.leE _ _ hbE
 refine fL hb41 rfl (QjK (hx.1.le hA41) hx.2.1 hx.2.2.1 ?_)
 obtain ⟨n13, n57, n51, n53, n71, n73⟩ := I41.ne
 obtain ⟨o1, o3, o5, o7, oy⟩ := hI.off
 refine ift.of (fun h => ?_) (fun h => ?_)
 ·have hbad : mayR S[k].1.1 = false := by simpa using h
  refine stI I41.c1 (stI (c := .int .i64 0) (by rw [Heap.put_ne _ _ _ n13.symm]; exact I41.c3) ⟨?_, hKe _ ⟨?_, ?_, ?_, ?_⟩ (Heap.put_same ..)⟩)
  ·rw [Heap.put_ne _ _ _ y3, Heap.put_ne _ _ _ y1]; exact hy41
  ·exact Qu (Qu (Qu (hEE.trans I41.leE) o1) o3) oy
  ·rw [Heap.put_ne _ _ _ y1.symm, Heap.put_ne _ _ _ n13, Heap.put_same]
  ·rw [Heap.put_ne _ _ _ y3.symm, Heap.put_same]
  ·exact List.any_eq_true.2 ⟨S[k], List.getElem_mem hk, by rw [hbad]; rfl⟩
 have hmay : mayR S[k].1.1 = true := by simpa using h
 have hN : x.N = S[k].1.2 := hx.2.2.2.1
 have htk : S.take (k + 1) = S.take k ++ [S[k]] := by rw [List.take_add_one, List.getElem?_eq_getElem hk]; rfl
 refine ⟨fun _ Hx => Hx b7 = some (true, .row [.int .i64 (if (S.take (k + 1)).any (fun x => outE x.1.2) then 80 else 0)]) ∧ ∀ b, b ≠ b7 → Hx b = H41 b, ?_, ?_⟩
 ·refine fI hb41 rfl (Qjw ?_)
  refine ift.of (fun h => ?_) (fun h => ?_)
  ·refine stI I41.c7 ⟨?_, fun b hb => Heap.put_ne _ _ _ hb⟩
   have h : outE S[k].1.2 = true := by rw [← hN]; exact h
   rw [Heap.put_same, htk, List.any_append, if_pos (by simp [h])]
  ·have h : outE S[k].1.2 = false := by rw [← hN]; exact h
   refine ⟨?_, fun b _ => rfl⟩
   have e : ([S[k]].any fun x => outE x.1.2) = false := by simp [h]
   rw [htk, List.any_append, e, Bool.or_false]; exact I41.c7
 rintro _ Hx ⟨x7, xo⟩
 obtain ⟨s, L, g5, gO, gF, gN, gM, gV⟩ := I41.ls
 have gOx : Own Hx 2 s (L.flatMap fun x => Qa.c x.1) := by
  obtain ⟨z1, z2, z3, z4⟩ := gO
  refine ⟨z1, z2, z3, ?_⟩
  rcases z4 with z4 | ⟨c, sp, w1, w2, w3⟩
  ·exact .inl z4
  ·exact .inr ⟨c, sp, w1, by rw [xo _ (gN _ w1).2.2.2.1]; exact w2, w3⟩
 have leEx : E2.le Hx := fun b e hb => by
  have : b ≠ b7 := fun e' => by subst e'; rw [I41.off.2.2.2.1] at hb; cases hb
  rw [xo b this]; exact I41.leE _ _ hb
 have leOff : E2.le (Hx.off s) := Heap.le_off leEx gF
 have at_ : ∀ (b : Nat) (e : Bool × GO), Hx b = some e → (∀ p, s.p = some p → p.1 ≠ b) → (Hx.off s) b = some e := fun b e hb hn => Heap.off_some hb hn
 have x5 := at_ b5 _ (by rw [xo b5 n57]; exact g5) fun p hp => (gN p hp).2.2.1
 have xb := leOff _ _ hbE
 have hlL : L.length = k := by
  have := congrArg List.length gM
  simp only [List.length_map, List.length_take] at this; omega
 have hsl : s.len = L.length := by
  have h1 := gOx.1
  have h2 : (L.flatMap fun x => Qa.c x.1).length = L.length * 2 := by
   clear gO gOx gM gV h1 hlL
   induction L with
   | nil => rfl
   | cons y L ih => rw [List.flatMap_cons, List.length_append, ih, List.length_cons, show (Qa.c y.1).length = 2 from rfl]; omega
  omega
 refine ⟨Hx.off s, Heap.off_le s Hx, fL (j := 0) x5 rfl (fL xb rfl (fI xb rfl (Qj8 ⟨_, rfl, Heap.off_le s Hx, ?_⟩)))⟩
 intro b72 n72
 have l73 := Heap.le_put n72 (g := .row (Qa.c (⟨x.Row, doE S[k].2 x.N⟩ : Qa) ++ [])) (m := true)
 have h72 : (Hx.put b72 (.row (Qa.c (⟨x.Row, doE S[k].2 x.N⟩ : Qa) ++ []))) b72 = some (true, .row (Qa.c (⟨x.Row, doE S[k].2 x.N⟩ : Qa) ++ [])) := Heap.put_same ..
 generalize Hx.put b72 (.row (Qa.c (⟨x.Row, doE S[k].2 x.N⟩ : Qa) ++ [])) = H73 at *
 have l7 := (Heap.off_le s Hx).trans l73
 refine ⟨l7, ?_⟩
 have gO73 := gOx.le l73
 have l7o : (Hx.off s).le (H73.off s) := Heap.le_off l7 (Heap.off_fresh s Hx)
 refine Qf4 (ys := Qa.c (⟨x.Row, doE S[k].2 x.N⟩ : Qa)) gO73.off (.inr ⟨rfl, _, rfl, Qbc h72 fun j v hj => by simpa using hj⟩) rfl (by intro u hu; simp [Qa.c] at hu; rcases hu with rfl | rfl <;> rfl) (by show (s.len + 1) * 32 ≤ _; omega) (by show s.len + 1 ≤ _; omega) fun r' H76 hO hlen => ?_
 have l76 := l7o.trans hO.le
 refine ⟨l76, stI (l76 _ _ x5) ⟨?_, hK _ ?_ (Heap.put_same ..)⟩⟩
 ·have : (Hx.off s) yl = some (true, Rf.lrec r .busy none) := at_ yl _ (by rw [xo yl y7]; exact hy41) fun p hp => (gN p hp).2.2.2.2
  rw [Heap.put_ne _ _ _ y5]; exact l76 _ _ this
 have rN : ∀ b e, (Hx.off s) b = some e → ∀ p, r'.p = some p → p.1 ≠ b := fun b e hb p hp e' => by
  have := hO.fresh p hp
  rw [e', l7o _ _ hb] at this; cases this
 have x1 := at_ b1 _ (by rw [xo b1 n71.symm]; exact I41.c1) fun p hp => (gN p hp).1
 have x3 := at_ b3 _ (by rw [xo b3 n73.symm]; exact I41.c3) fun p hp => (gN p hp).2.1
 have x7' := at_ b7 _ x7 fun p hp => (gN p hp).2.2.2.1
 have xy := at_ yl _ (by rw [xo yl y7]; exact hy41) fun p hp => (gN p hp).2.2.2.2
 refine ⟨Qu (Qu ((hEE.trans leOff).trans l76) o5) oy, ⟨o1, o3, o5, o7, oy⟩, ⟨n13, n57, n51, n53, n71, n73⟩, ?_, ?_, ?_, ?_, r', L ++ [((⟨x.Row, doE S[k].2 x.N⟩ : Qa), (S[k].1.1, doE S[k].2 S[k].1.2))], ?_, ?_, ?_, ?_, ?_, ?_⟩
 ·rw [Heap.put_ne _ _ _ y1.symm, Heap.put_ne _ _ _ n51.symm]; exact l76 _ _ x1
 ·rw [Heap.put_ne _ _ _ y3.symm, Heap.put_ne _ _ _ n53.symm]; exact l76 _ _ x3
 ·rw [Heap.put_ne _ _ _ y7.symm, Heap.put_ne _ _ _ n57.symm]; exact l76 _ _ x7'
 ·intro z hz
  rw [htk] at hz
  rcases List.mem_append.1 hz with hz | hz
  ·exact hI.may z hz
  ·have : z = S[k] := by simpa using hz
   subst this; exact hmay
 ·rw [Heap.put_ne _ _ _ y5.symm, Heap.put_same]
 ·rw [List.flatMap_append]
  have := hO.own
  refine (Own.put_off (Own.put_off (cs := (L.flatMap fun x => Qa.c x.1) ++ Qa.c (⟨x.Row, doE S[k].2 x.N⟩ : Qa)) this fun p hp => rN b5 _ x5 p hp) fun p hp => rN yl _ xy p hp)
 ·exact hO.fresh.le ((hEE.trans leOff).trans l7o)
 ·exact fun p hp => ⟨rN b1 _ x1 p hp, rN b3 _ x3 p hp, rN b5 _ x5 p hp, rN b7 _ x7' p hp, rN yl _ xy p hp⟩
 ·rw [htk, List.map_append, List.map_append, gM]; rfl
 ·intro z hz
  rcases List.mem_append.1 hz with hz | hz
  ·exact gV z hz
  ·have : z = ((⟨x.Row, doE S[k].2 x.N⟩ : Qa), (S[k].1.1, doE S[k].2 S[k].1.2)) := by simpa using hz
   subst this
   exact ⟨⟨hx.1, hx.2.1, hx.2.2.1⟩, by show doE _ x.N = _; rw [hN]⟩
end
section
open Go Go.Proofs
/-- a part: entries, and whether they are turned -/
def PtIs (A : Heap) (v : List En × Bool) (x : Qc) : Prop := EnL A x.l_ v.1 ∧ x.do_ = fnv v.2
def seqS (ps : List (List En × Bool)) : List (En × Bool) := ps.flatMap fun p => p.1.map fun e => (e, p.2)
theorem QiD {ps : List (List En × Bool)} {p : List En × Bool} : seqS (ps ++ [p]) = seqS ps ++ p.1.map fun e => (e, p.2) := by unfold seqS; rw [List.flatMap_append]; simp
theorem QjV {ps : List (List En × Bool)} {i j : Nat} (hi : i < ps.length) (hj : j < ps[i].1.length) : (seqS ps)[(seqS (ps.take i)).length + j]? = some (ps[i].1[j], ps[i].2) := by
 have e : ps = ps.take i ++ ps[i] :: ps.drop (i + 1) := by rw [← List.drop_eq_getElem_cons hi, List.take_append_drop]
 have e2 : seqS ps = seqS (ps.take i) ++ ((ps[i].1.map fun e => (e, ps[i].2)) ++ seqS (ps.drop (i + 1))) := by
  conv => lhs; rw [e]
  unfold seqS; rw [List.flatMap_append, List.flatMap_cons]
 rw [e2, List.getElem?_append_right (by omega), Nat.add_sub_cancel_left, List.getElem?_append_left (by simpa using hj), List.getElem?_map, List.getElem?_eq_getElem hj]
 rfl
theorem QiE {ps : List (List En × Bool)} {i : Nat} (hi : i < ps.length) : (seqS (ps.take (i + 1))).length = (seqS (ps.take i)).length + ps[i].1.length := by
 rw [List.take_add_one, List.getElem?_eq_getElem hi]
 show (seqS (ps.take i ++ [ps[i]])).length = _
 rw [QiD, List.length_append, List.length_map]
theorem QjG (b : Bool) : (fnv b).oneCell' = true := by cases b <;> rfl
theorem fV {H : Heap} {b j : Nat} {m : Bool} {cs : List Value} {t : Value} {K : Value → Prop} (h : H b = some (m, .row cs)) (hj : cs[j]? = some t) (k : K t) : ldV H ((b, 0).1, (b, 0).2 + j) K := ⟨t, by rw [Qd4 h, Nat.zero_add]; exact hj, k⟩
theorem Qiw {C : Ctx} {A H : Heap} {b1 b3 b5 b7 b9 : Nat} {pl : Sl} {ps : List (List En × Bool)} {nx rt : Nat → Heap → Prop} (hP : SlIs (PtIs A) Qc.c A pl ps) (hS : (seqS ps).length ≤ 1000000)
 (hA : A.le H) (h9 : A b9 = some (true, .row [slv pl])) (off : A b1 = none ∧ A b3 = none ∧ A b5 = none ∧ A b7 = none) (ne : b1 ≠ b3 ∧ b5 ≠ b7 ∧ b5 ≠ b1 ∧ b5 ≠ b3 ∧ b7 ≠ b1 ∧ b7 ≠ b3)
 (c1 : H b1 = some (true, .row [slv Sl.nil])) (c3 : H b3 = some (true, .row [.int .i64 0])) (c5 : H b5 = some (true, .row [slv Sl.nil])) (c7 : H b7 = some (true, .row [.int .i64 0]))
 (hn : ∀ D yl E H', A.le E → E D = some (true, .obj (.deferred (some []))) → A D = none → D ≠ b1 → D ≠ b3 → D ≠ b5 → D ≠ b7 → SI A b1 b3 b5 b7 yl (seqS ps) E H' (seqS ps).length → nx D H')
 (hr : ∀ D E H', A.le E → E D = some (true, .obj (.deferred (some []))) → A D = none → D ≠ b1 → D ≠ b3 → SErr b1 b3 (seqS ps) E H' → rt D H') :
 Rf.rng Tryz.prog C (.func (.func 64) (List.toArray []) (List.toArray [pv (some (b9, 0))])) 2 H (rdS C b1 b3 b5 b7) nx rt := by
 refine ⟨64, [pv (some (b9, 0))], rfl, QfB, fun D yl r hD hyl hne => ⟨SY A b1 b3 b5 b7 yl r (seqS ps), fun us K H2 hY => ?_, fun hy => ?_⟩⟩
 all_goals
  have hyb : yl ≠ b1 ∧ yl ≠ b3 ∧ yl ≠ b5 ∧ yl ≠ b7 := ⟨fun e => (by rw [e, c1] at hyl; cases hyl), fun e => (by rw [e, c3] at hyl; cases hyl), fun e => (by rw [e, c5] at hyl; cases hyl), fun e => (by rw [e, c7] at hyl; cases hyl)⟩
  have hDb : D ≠ b1 ∧ D ≠ b3 ∧ D ≠ b5 ∧ D ≠ b7 := ⟨fun e => (by rw [e, c1] at hD; cases hD), fun e => (by rw [e, c3] at hD; cases hD), fun e => (by rw [e, c5] at hD; cases hD), fun e => (by rw [e, c7] at hD; cases hD)⟩
 ·exact QjB hS hyb hY
 have hAD := hA.none hD
 have hAy := hA.none hyl
 have lD := Heap.le_put hAD (g := .obj (.deferred (some []))) (m := true)
 have e0D : (A.put D (.obj (.deferred (some [])))) D = some (true, .obj (.deferred (some []))) := Heap.put_same ..
 have y0 : (A.put D (.obj (.deferred (some [])))) yl = none := by rw [Heap.put_ne _ _ _ hne.symm]; exact hAy
 have hle0 : (A.put D (.obj (.deferred (some [])))).le (H.put D (.obj (.deferred (some [])))) := fun x e hx => by
  by_cases hb : x = D
  ·subst hb; rw [Heap.put_same] at hx ⊢; exact hx
  ·rw [Heap.put_ne _ _ _ hb] at hx ⊢; exact hA _ _ hx
 have I0 : SI A b1 b3 b5 b7 yl (seqS ps) (A.put D (.obj (.deferred (some [])))) ((H.put D (.obj (.deferred (some [])))).put yl (Rf.lrec r .ready none)) 0 := by
  obtain ⟨d1, d3, d5, d7⟩ := hDb
  obtain ⟨y1, y3, y5, y7⟩ := hyb
  obtain ⟨f1, f3, f5, f7⟩ := off
  refine ⟨Qu hle0 y0, ⟨?_, ?_, ?_, ?_, y0⟩, ne, ?_, ?_, ?_, fun x hx => (by simp at hx), Sl.nil, [], ?_, Own.nil _ _, Fresh.nil _, fun p hp => (by cases hp), rfl, fun x hx => (by cases hx)⟩
  ·rw [Heap.put_ne _ _ _ d1.symm]; exact f1
  ·rw [Heap.put_ne _ _ _ d3.symm]; exact f3
  ·rw [Heap.put_ne _ _ _ d5.symm]; exact f5
  ·rw [Heap.put_ne _ _ _ d7.symm]; exact f7
  ·rw [Heap.put_ne _ _ _ y1.symm, Heap.put_ne _ _ _ d1.symm]; exact c1
  ·rw [Heap.put_ne _ _ _ y3.symm, Heap.put_ne _ _ _ d3.symm]; exact c3
  ·rw [Heap.put_ne _ _ _ y7.symm, Heap.put_ne _ _ _ d7.symm]; exact c7
  ·rw [Heap.put_ne _ _ _ y5.symm, Heap.put_ne _ _ _ d5.symm]; exact c5
 have hy1 : ((H.put D (.obj (.deferred (some [])))).put yl (Rf.lrec r .ready none)) yl = some (true, Rf.lrec r .ready none) := Heap.put_same ..
 generalize (H.put D (.obj (.deferred (some [])))).put yl (Rf.lrec r .ready none) = H1 at *
 generalize A.put D (.obj (.deferred (some []))) = E0 at *
 clear hle0
 refine Spec.mono (Qfu C hy (b9, 0) (fun H4 => ∃ st pend, H4 yl = some (true, Rf.lrec r st pend) ∧ st ≠ .busy ∧ (pend = none ∧ nx D (H4.put yl (Rf.lrec r .exhausted none)) ∨ pend = some .ret ∧ rt D (H4.put yl (Rf.lrec r .exhausted (some .ret))))) H1 ?_) fun u H4 h => h.2
 unfold Qdy
 refine fL (j := 0) (I0.leE _ _ (lD _ _ h9)) rfl ?_
 have hPl := hP.len
 have hPb := hP.bd
 refine ⟨fun x H' => ∃ i : Nat, x = (i : Int) ∧ i ≤ ps.length ∧ SI A b1 b3 b5 b7 yl (seqS ps) E0 H' (seqS (ps.take i)).length ∧ H' yl = some (true, Rf.lrec r .ready none), fun x _ => ps.length - x.toNat, ⟨0, rfl, Nat.zero_le _, I0, hy1⟩, ?_⟩
 rintro _ H5 ⟨i, rfl, hi, I5, hy5⟩
 rw [hPl]
 refine ift.of (fun h => ?_) (fun h => ?_)
 ·have hlt : i < ps.length := by have := of_decide_eq_true h; omega
  refine hP.ld (lD.trans I5.leE) (z := 2) (fun _ => rfl) (by omega) rfl hlt fun x12 hx12 => ?_
  intro b14 n14
  refine ⟨by rw [List.all_eq_true]; intro u hu; simp [Qc.c] at hu; rcases hu with rfl | rfl; · rfl
             ·rw [hx12.2]; exact QjG _, nwT rfl ?_⟩
  have ny : yl ≠ b14 := fun e => by rw [e, n14] at hy5; cases hy5
  have I14 := I5.grow (g := .row (Qc.c x12)) n14 ny
  have l14 := Heap.le_put n14 (g := .row (Qc.c x12)) (m := true)
  have e14 : (E0.put b14 (.row (Qc.c x12))) b14 = some (true, .row (Qc.c x12)) := Heap.put_same ..
  have le14 : E0.le (E0.put b14 (.row (Qc.c x12))) := Heap.le_put (I5.leE.none n14)
  have hy14 := l14 _ _ hy5
  generalize H5.put b14 (.row (Qc.c x12)) = H16 at *
  generalize E0.put b14 (.row (Qc.c x12)) = E14 at *
  refine fL (I14.leE _ _ e14) rfl ?_
  have hEl := hx12.1.len
  have hEb := hx12.1.bd
  refine ⟨fun x H' => ∃ j : Nat, x = (j : Int) ∧ j ≤ ps[i].1.length ∧ SI A b1 b3 b5 b7 yl (seqS ps) E14 H' ((seqS (ps.take i)).length + j) ∧ H' yl = some (true, Rf.lrec r .ready none), fun x _ => ps[i].1.length - x.toNat, ⟨0, rfl, Nat.zero_le _, I14, hy14⟩, ?_⟩
  rintro _ H21 ⟨j, rfl, hj, I21, hy21⟩
  rw [hEl]
  refine ift.of (fun h2 => ?_) (fun h2 => ?_)
  ·have hlt2 : j < ps[i].1.length := by have := of_decide_eq_true h2; omega
   have hAE := lD.trans le14
   refine hx12.1.ld (hAE.trans I21.leE) (z := 2) (fun _ => rfl) (by omega) rfl hlt2 fun x28 hx28 => ?_
   intro b30 n30
   refine nwT rfl ?_
   have ny3 : yl ≠ b30 := fun e => by rw [e, n30] at hy21; cases hy21
   have I30 := I21.grow (g := .row (Qa.c x28)) n30 ny3
   have l30 := Heap.le_put n30 (g := .row (Qa.c x28)) (m := true)
   have e30 : (H21.put b30 (.row (Qa.c x28))) b30 = some (true, .row (Qa.c x28)) := Heap.put_same ..
   have le30 : E14.le (E14.put b30 (.row (Qa.c x28))) := Heap.le_put (I21.leE.none n30)
   have hy30 := l30 _ _ hy21
   generalize H21.put b30 (.row (Qa.c x28)) = H32 at *
   generalize E14.put b30 (.row (Qa.c x28)) = E30 at *
   have at_ := QjV hlt hlt2
   obtain ⟨hk, hgk⟩ := List.getElem?_eq_some_iff.1 at_
   refine bxT e30 (fV (I30.leE _ _ (le30 _ _ e14)) rfl ?_)
   refine ⟨E30, _, hk, x28, hAE.trans le30, I30, hy30, by rw [hgk, hx12.2], by rw [hgk]; exact hx28, fun H' hI' hy' => ?_, fun H' hE' hy' => ?_⟩
   ·refine QA rfl ?_
    rw [Qi (by omega) (by omega)]
    exact ⟨⟨j + 1, by omega, by omega, hI'.weak le30, hy'⟩, by first | omega | (dsimp only; omega)⟩
   ·refine QaU rfl ⟨.done, some .ret, hy', by decide, .inr ⟨rfl, ?_⟩⟩
    refine hr D E0 _ lD e0D hAD hDb.1 hDb.2.1 ⟨Qu ((le14.trans le30).trans hE'.leE) (I5.off.2.2.2.2), ?_, ?_, hE'.bad⟩
    ·rw [Heap.put_ne _ _ _ hyb.1.symm]; exact hE'.c1
    ·rw [Heap.put_ne _ _ _ hyb.2.1.symm]; exact hE'.c3
  ·have hje : j = ps[i].1.length := by have := of_decide_eq_false h2; omega
   rw [Qi (by omega) (by omega)]
   refine ⟨⟨i + 1, by omega, by omega, ?_, hy21⟩, by first | omega | (dsimp only; omega)⟩
   rw [QiE hlt, ← hje]
   exact I21.weak le14
 ·have hie : i = ps.length := by have := of_decide_eq_false h; omega
  refine ⟨.ready, none, hy5, by decide, .inl ⟨rfl, ?_⟩⟩
  refine hn D yl E0 _ lD e0D hAD hDb.1 hDb.2.1 hDb.2.2.1 hDb.2.2.2 ?_
  have := I5.puty (g := Rf.lrec r .exhausted none) hyb
  rw [hie, List.take_length] at this
  exact this
end
section
open Go
/-- how often a row is there -/
def totE : List (List V × Int) → List V → Int
 | [], _ => 0
 | e :: es, r => (if sameVs e.1 r then e.2 else 0) + totE es r
theorem Qcb (a b : List (List V × Int)) (r : List V) : totE (a ++ b) r = totE a r + totE b r := by
 induction a with
 | nil => simp [totE]
 | cons e a ih => simp only [List.cons_append, totE, ih]; omega
theorem QgN {a b : List (List V × Int)} (h : a.Perm b) (r : List V) : totE a r = totE b r := by
 induction h with
 | nil => rfl
 | cons e _ ih => simp only [totE, ih]
 | swap e f l => simp only [totE]; omega
 | trans _ _ h1 h2 => rw [h1, h2]
theorem QaE {a : List (List V × Int)} {r : List V} (h : ∀ e ∈ a, e.1 ≠ r) : totE a r = 0 := by
 induction a with
 | nil => rfl
 | cons e a ih =>
  have h1 : sameVs e.1 r = false := by
   cases hb : sameVs e.1 r with
   | false => rfl
   | true => exact absurd (Qbo.1 hb) (h e (List.mem_cons_self ..))
  simp only [totE, h1, ih fun e he => h e (List.mem_cons_of_mem _ he)]
  rfl
theorem Qgg {r : List V} {m : Int} : totE [(r, m)] r = m := by
 simp only [totE, Qbo.2 rfl, if_true]; omega
theorem QiP {r q : List V} {m : Int} (h : r ≠ q) : totE [(r, m)] q = 0 := QaE fun e he => by
 have : e = (r, m) := by simpa using he
 subst this; exact h
/-- the rows that are there, rising, each once, with how often -/
structure IsSum (es out : List (List V × Int)) : Prop where
 rise : out.Pairwise fun a b => cmpR a.1 b.1 < 0
 mem : ∀ r n, (r, n) ∈ out ↔ (∃ e ∈ es, e.1 = r) ∧ n = totE es r
theorem IsSum.nil : IsSum [] [] := ⟨List.Pairwise.nil, fun r n => by simp⟩
theorem Qc3 {a : List V} : ¬ cmpR a a < 0 := by have := Lin.row.refl (a := a) trivial; omega
theorem Qi6 {a b : List V} (h : cmpR a b < 0) : ¬ cmpR b a < 0 := by have := Lin.row.anti a b trivial trivial; omega
theorem Qd6 : ∀ {a b : List (List V × Int)}, a.Pairwise (fun x y => cmpR x.1 y.1 < 0) → b.Pairwise (fun x y => cmpR x.1 y.1 < 0) → (∀ x, x ∈ a ↔ x ∈ b) → a = b
 | [], [], _, _, _ => rfl
 | [], y :: b, _, _, h => absurd ((h y).2 (List.mem_cons_self ..)) (by simp)
 | x :: a, [], _, _, h => absurd ((h x).1 (List.mem_cons_self ..)) (by simp)
 | x :: a, y :: b, ha, hb, h => by
  have ha' := List.pairwise_cons.1 ha
  have hb' := List.pairwise_cons.1 hb
  have e : x = y := by
   have h1 := (h x).1 (List.mem_cons_self ..)
   have h2 := (h y).2 (List.mem_cons_self ..)
   rcases List.mem_cons.1 h1 with h1 | h1
   ·exact h1
   ·rcases List.mem_cons.1 h2 with h2 | h2
    ·exact h2.symm
    ·exact absurd (hb'.1 x h1) (Qi6 (ha'.1 y h2))
  subst e
  rw [Qd6 ha'.2 hb'.2 fun z => ?_]
  constructor
  ·intro hz
   rcases List.mem_cons.1 ((h z).1 (List.mem_cons_of_mem _ hz)) with h1 | h1
   ·subst h1; exact absurd (ha'.1 z hz) Qc3
   ·exact h1
  ·intro hz
   rcases List.mem_cons.1 ((h z).2 (List.mem_cons_of_mem _ hz)) with h1 | h1
   ·subst h1; exact absurd (hb'.1 z hz) Qc3
   ·exact h1
theorem IsSum.uniq {es a b : List (List V × Int)} (h1 : IsSum es a) (h2 : IsSum es b) : a = b :=
 Qd6 h1.rise h2.rise fun x => by obtain ⟨r, n⟩ := x; rw [h1.mem, h2.mem]
theorem IsSum.perm {es fs out : List (List V × Int)} (h : IsSum es out) (hp : es.Perm fs) : IsSum fs out :=
 ⟨h.rise, fun r n => by rw [h.mem, QgN hp]; constructor <;> rintro ⟨⟨e, he, hr⟩, hn⟩ <;> refine ⟨⟨e, ?_, hr⟩, hn⟩; exact hp.mem_iff.1 he; exact hp.mem_iff.2 he⟩
/-- a row that is greater than all that are there -/
theorem IsSum.step {es out G : List (List V × Int)} {r : List V} (h : IsSum es out) (h1 : ∀ e ∈ es, cmpR e.1 r < 0) (h2 : ∀ e ∈ G, e.1 = r) (h3 : G ≠ []) : IsSum (es ++ G) (out ++ [(r, totE G r)]) := by
 have hr0 : ∀ e ∈ es, e.1 ≠ r := fun e he e' => by have := h1 e he; rw [e'] at this; exact Qc3 this
 refine ⟨List.pairwise_append.2 ⟨h.rise, by simp, fun a ha b hb => ?_⟩, fun q n => ?_⟩
 ·have : b = (r, totE G r) := by simpa using hb
  subst this
  obtain ⟨⟨e, he, hr⟩, _⟩ := (h.mem a.1 a.2).1 ha
  rw [← hr]; exact h1 e he
 ·rw [List.mem_append, Qcb]
  constructor
  ·rintro (hq | hq)
   ·obtain ⟨⟨e, he, hr⟩, hn⟩ := (h.mem q n).1 hq
    refine ⟨⟨e, List.mem_append_left _ he, hr⟩, ?_⟩
    rw [hn, QaE (a := G) fun g hg e' => hr0 e he (by rw [hr, ← e', h2 g hg])]; omega
   ·have hq : q = r ∧ n = totE G r := by simpa using hq
    obtain ⟨rfl, rfl⟩ := hq
    obtain ⟨g, hg⟩ := List.exists_mem_of_ne_nil G h3
    refine ⟨⟨g, List.mem_append_right _ hg, h2 g hg⟩, ?_⟩
    rw [QaE (a := es) hr0]; omega
  ·rintro ⟨⟨e, he, hr⟩, hn⟩
   by_cases hq : q = r
   ·subst hq
    rw [QaE (a := es) hr0] at hn
    exact .inr (by simp; omega)
   ·have hg0 : totE G q = 0 := QaE fun g hg e' => hq (by rw [← e', h2 g hg])
    rw [hg0] at hn
    refine .inl ((h.mem q n).2 ⟨⟨e, ?_, hr⟩, by omega⟩)
    rcases List.mem_append.1 he with he | he
    ·exact he
    ·exact absurd (by rw [← hr, h2 e he]) hq
/-- an entry whose row is there already -/
theorem IsSum.add {es A B : List (List V × Int)} {r : List V} {n m : Int} (h : IsSum es (A ++ (r, n) :: B)) : IsSum (es ++ [(r, m)]) (A ++ (r, n + m) :: B) := by
 have hp := List.pairwise_append.1 h.rise
 have hpb := List.pairwise_cons.1 hp.2.1
 refine ⟨List.pairwise_append.2 ⟨hp.1, List.pairwise_cons.2 ⟨hpb.1, hpb.2⟩, fun a ha b hb => ?_⟩, fun q k => ?_⟩
 ·rcases List.mem_cons.1 hb with rfl | hb
  ·exact hp.2.2 a ha (r, n) (List.mem_cons_self ..)
  ·exact hp.2.2 a ha b (List.mem_cons_of_mem _ hb)
 ·have hr := (h.mem r n).1 (List.mem_append_right _ (List.mem_cons_self ..))
  have nA : ∀ k, (r, k) ∉ A := fun k hk => Qc3 (hp.2.2 (r, k) hk (r, n) (List.mem_cons_self ..))
  have nB : ∀ k, (r, k) ∉ B := fun k hk => Qc3 (hpb.1 (r, k) hk)
  rw [Qcb]
  by_cases hq : q = r
  ·subst hq
   rw [Qgg, ← hr.2]
   constructor
   ·intro hk
    rcases List.mem_append.1 hk with hk | hk
    ·exact absurd hk (nA k)
    ·rcases List.mem_cons.1 hk with hk | hk
     ·injection hk with _ hk
      obtain ⟨e, he, hre⟩ := hr.1
      exact ⟨⟨e, List.mem_append_left _ he, hre⟩, hk⟩
     ·exact absurd hk (nB k)
   ·rintro ⟨_, rfl⟩
    exact List.mem_append_right _ (List.mem_cons_self ..)
  ·rw [QiP fun e => hq e.symm]
   have e1 : (q, k) ∈ A ++ (r, n + m) :: B ↔ (q, k) ∈ A ++ (r, n) :: B := by
    simp only [List.mem_append, List.mem_cons, Prod.mk.injEq, hq, false_and, false_or]
   rw [e1, h.mem]
   constructor
   ·rintro ⟨⟨e, he, hre⟩, hn⟩; exact ⟨⟨e, List.mem_append_left _ he, hre⟩, by omega⟩
   ·rintro ⟨⟨e, he, hre⟩, hn⟩
    refine ⟨⟨e, ?_, hre⟩, by omega⟩
    rcases List.mem_append.1 he with he | he
    ·exact he
    ·have : e = (r, m) := by simpa using he
     subst this; exact absurd hre.symm hq
/-- an entry whose row is new -/
theorem IsSum.ins {es A B : List (List V × Int)} {r : List V} {m : Int} (h : IsSum es (A ++ B)) (hA : ∀ a ∈ A, cmpR a.1 r < 0) (hB : ∀ b ∈ B, cmpR r b.1 < 0) : IsSum (es ++ [(r, m)]) (A ++ (r, m) :: B) := by
 have hp := List.pairwise_append.1 h.rise
 have nr : ∀ e ∈ es, e.1 ≠ r := fun e he e' => by
  have := (h.mem r (totE es r)).2 ⟨⟨e, he, e'⟩, rfl⟩
  rcases List.mem_append.1 this with this | this
  ·exact Qc3 (hA _ this)
  ·exact Qc3 (hB _ this)
 refine ⟨List.pairwise_append.2 ⟨hp.1, List.pairwise_cons.2 ⟨hB, hp.2.1⟩, fun a ha b hb => ?_⟩, fun q k => ?_⟩
 ·rcases List.mem_cons.1 hb with rfl | hb
  ·exact hA a ha
  ·exact hp.2.2 a ha b hb
 ·have e1 : (q, k) ∈ A ++ (r, m) :: B ↔ (q = r ∧ k = m) ∨ (q, k) ∈ A ++ B := by
   simp only [List.mem_append, List.mem_cons, Prod.mk.injEq]
   constructor
   ·rintro (h | h | h)
    ·exact .inr (.inl h)
    ·exact .inl h
    ·exact .inr (.inr h)
   ·rintro (h | h | h)
    ·exact .inr (.inl h)
    ·exact .inl h
    ·exact .inr (.inr h)
  rw [e1, h.mem, Qcb]
  by_cases hq : q = r
  ·subst hq
   rw [Qgg, QaE nr]
   constructor
   ·rintro (⟨_, rfl⟩ | ⟨⟨e, he, hre⟩, _⟩)
    ·exact ⟨⟨_, List.mem_append_right _ (List.mem_cons_self ..), rfl⟩, by omega⟩
    ·exact absurd hre (nr e he)
   ·rintro ⟨_, hk⟩; exact .inl ⟨rfl, by omega⟩
  ·rw [QiP fun e => hq e.symm]
   constructor
   ·rintro (⟨h1, _⟩ | ⟨⟨e, he, hre⟩, hn⟩)
    ·exact absurd h1 hq
    ·exact ⟨⟨e, List.mem_append_left _ he, hre⟩, by omega⟩
   ·rintro ⟨⟨e, he, hre⟩, hn⟩
    refine .inr ⟨⟨e, ?_, hre⟩, by omega⟩
    rcases List.mem_append.1 he with he | he
    ·exact he
    ·have : e = (r, m) := by simpa using he
     subst this; exact absurd hre.symm hq
end
section
open Go Go.Proofs
/-- X, and what a call made -/
def Heap.plus (X H H2 : Heap) : Heap := fun b => match X b with | some e => some e | none => Heap.new H H2 b
theorem Heap.plus_l {X H H2 : Heap} : X.le (Heap.plus X H H2) := fun b e h => by unfold Heap.plus; rw [h]
theorem Heap.plus_le {X H H2 : Heap} (hX : X.le H) (h : H.le H2) : (Heap.plus X H H2).le H2 := fun b e hb => by
 unfold Heap.plus at hb
 split at hb
 ·rename_i e' he; injection hb with hb; subst hb; exact h _ _ (hX _ _ he)
 ·exact (Heap.new_inv hb).2
theorem Heap.plus_none {X H H2 : Heap} {b : Nat} (hX : X b = none) (h : H b ≠ none) : Heap.plus X H H2 b = none := by
 unfold Heap.plus; rw [hX]
 cases hn : Heap.new H H2 b with
 | none => rfl
 | some e => exact absurd (Heap.new_inv hn).1 h
theorem Made.sub {X H H2 : Heap} {l : List V} {t : Sl} (h : Made H H2 l t) (hX : X.le H) : Made X (Heap.plus X H H2) l t := by
 have key : ∀ b e, H b = none → H2 b = some e → X b = none ∧ Heap.plus X H H2 b = some e := fun b e hb he => by
  have hx := hX.none hb
  refine ⟨hx, ?_⟩
  unfold Heap.plus; rw [hx]; exact Heap.new_some he hb
 refine ⟨Heap.plus_l, h.row.le fun b e hb => ?_, ?_, h.cp⟩
 ·obtain ⟨h1, h2⟩ := Heap.new_inv hb
  obtain ⟨h3, h4⟩ := key b e h1 h2
  exact Heap.new_some h4 h3
 ·obtain ⟨k, hk⟩ := h.sp
  exact ⟨k, hk.to fun b e h1 h2 => key b e h1 h2⟩
/-- X, and a slice's block -/
def Heap.withS (X : Heap) (s : Sl) (H : Heap) : Heap := fun b => if s.p.map (fun p => p.1) = some b then H b else X b
theorem Heap.withS_le {X H : Heap} {s : Sl} (h : X.le H) : (X.withS s H).le H := fun b e hb => by
 unfold Heap.withS at hb
 split at hb
 ·exact hb
 ·exact h _ _ hb
theorem OwnF.sub {X G H : Heap} {z : Nat} {s : Sl} {cs : List Value} (h : OwnF G H z s cs) (hX : X.le G) : OwnF X (X.withS s H) z s cs := by
 have hf := h.fresh.le hX
 refine ⟨fun b e hb => ?_, ?_, hf⟩
 ·unfold Heap.withS
  rw [if_neg]
  ·exact hb
  ·intro hh
   obtain ⟨p, hp, rfl⟩ := Option.map_eq_some_iff.1 hh
   rw [hf p hp] at hb; cases hb
 ·obtain ⟨h1, h2, h3, h4⟩ := h.own
  refine ⟨h1, h2, h3, ?_⟩
  rcases h4 with h4 | ⟨b, sp, q1, q2, q3⟩
  ·exact .inl h4
  ·refine .inr ⟨b, sp, q1, ?_, q3⟩
   unfold Heap.withS
   rw [if_pos (by rw [q1]; rfl)]; exact q2
/-- a list of entries that grows, each row a copy -/
structure OgE (H B : Heap) (es : List En) (s : Sl) (ys : List Qa) : Prop where
 own : OwnF H B 2 s (ys.flatMap Qa.c)
 len : ys.length = es.length
 done : ∀ (j : Nat) (e : En) (y : Qa), es[j]? = some e → ys[j]? = some y → Made H (B.off s) e.1 y.Row ∧ y.N = e.2
theorem OgE.nil {H : Heap} : OgE H H [] Sl.nil [] := ⟨OwnF.nil H 2, rfl, fun j e y he => by simp at he⟩
theorem OgE.step {H B B2 B4 : Heap} {es : List En} {s r t : Sl} {ys : List Qa} {l : List V} {n : Int} (h : OgE H B es s ys) (hm : Made B B2 l t) (h4 : OwnF (B2.off s) B4 2 r (ys.flatMap Qa.c ++ Qa.c (⟨t, n⟩ : Qa))) : OgE H B4 (es ++ [(l, n)]) r (ys ++ [(⟨t, n⟩ : Qa)]) := by
 have hoff : H.le (B2.off s) := Heap.le_off (h.own.le.trans hm.le) h.own.fresh
 have h34 : (B2.off s).le (B4.off r) := Heap.le_off h4.le h4.fresh
 have h12 : (B.off s).le (B2.off s) := Heap.le_off ((Heap.off_le s B).trans hm.le) (Heap.off_fresh s B)
 refine ⟨?_, by simp [h.len], fun j e y hl hy => ?_⟩
 ·rw [List.flatMap_append]
  have := h4.down hoff
  simpa using this
 ·by_cases hj : j < ys.length
  ·rw [List.getElem?_append_left hj] at hy
   rw [List.getElem?_append_left (by rw [← h.len]; exact hj)] at hl
   obtain ⟨q1, q2⟩ := h.done j e y hl hy
   exact ⟨q1.up (h12.trans h34), q2⟩
  ·have hjl := (List.getElem?_eq_some_iff.1 hy).1
   rw [List.length_append, List.length_singleton] at hjl
   have hje : j = ys.length := by omega
   subst hje
   rw [List.getElem?_append_right (Nat.le_refl _), Nat.sub_self] at hy
   rw [List.getElem?_append_right (by rw [h.len]; exact Nat.le_refl _), h.len, Nat.sub_self] at hl
   simp only [List.getElem?_cons_zero, Option.some.injEq] at hy hl
   subst hy; subst hl
   exact ⟨(hm.off h.own.le h.own.fresh fun p hp => h.own.own.mine hp).up h34, rfl⟩
end
section
open Go Go.Proofs
theorem QiI {C : Ctx} {s : Sl} {f : Value} {H : Heap} {K : Heap → Prop} (h : s.len = 0) (k : K H) : Qe C s f K H := by
 apply QN
 unfold Qr
 rw [h]
 apply Qaq
 unfold QQ
 refine ⟨fun x B => x = (0, 20) ∧ B = H, fun _ _ => 0, ⟨rfl, rfl⟩, ?_⟩
 rintro _ B ⟨rfl, rfl⟩
 refine QA rfl ?_
 apply Q7
 unfold QC
 refine ⟨fun x D => x = 1 ∧ D = B, fun _ _ => 0, ⟨rfl, rfl⟩, ?_⟩
 rintro _ D ⟨rfl, hD⟩
 subst hD
 refine QA rfl ?_
 refine ⟨fun x E => x = 20 ∧ E = D, fun _ _ => 0, ⟨rfl, rfl⟩, ?_⟩
 rintro _ E ⟨rfl, hE⟩
 subst hE
 exact QA rfl k
theorem Qj4 {C : Ctx} {A : Heap} {l : List V} {t : Sl} {H : Heap} {K : Sl → Heap → Prop} (hv : VRow A t l) (hle : A.le H) (hz : wids l ≤ 2513169434843) (k : ∀ t2 H2, Made H H2 l t2 → K t2 H2) : QbI C t K H := by
 have main : ∀ v : V, ∀ (A : Heap) (t : Sl) (H : Heap) (K : Sl → Heap → Prop), VRow A t v.l → A.le H → wids v.l ≤ 2513169434843 → (∀ t2 H2, Made H H2 v.l t2 → K t2 H2) → QbI C t K H := by
  refine fun v => V.rec_ (P := fun v => ∀ (A : Heap) (t : Sl) (H : Heap) (K : Sl → Heap → Prop), VRow A t v.l → A.le H → wids v.l ≤ 2513169434843 → (∀ t2 H2, Made H H2 v.l t2 → K t2 H2) → QbI C t K H) (fun v ih => ?_) v
  intro A t H K hv hle hz k
  apply QgX
  unfold Qfg
  have hl := hv.len
  have hll := Qgi v.l
  refine ift.of (fun h => ?_) (fun h => ?_)
  ·simp only [beq_iff_eq] at h
   have : v.l = [] := List.length_eq_zero_iff.1 (by omega)
   refine k _ _ ?_
   rw [this]; exact Made.nil rfl
  ·simp only [beq_eq_false_iff_ne] at h
   obtain ⟨xs, r1, r2, r3⟩ := hv
   refine Qhr (QcP hle r1) r2 (by omega) (by omega) fun b sp cap B hB nb hcap => ?_
   rw [hl] at hcap ⊢
   refine ⟨fun x D => ∃ (i : Nat) (ys : List TV) (E : Heap), x = (i : Int) ∧ i ≤ v.l.length ∧ D = E.put b (.row (ys.flatMap Qb.c ++ sp)) ∧ Ow A H E b i v.l xs ys, fun x _ => v.l.length - x.toNat,
    ⟨0, xs, B, rfl, Nat.zero_le _, rfl, hB, hle.trans hB, nb, by omega, by omega, r3, fun _ _ => rfl, fun j v x hj => by omega⟩, ?_⟩
   rintro _ D ⟨i, ys, E, rfl, hi, rfl, ho⟩
   have hlen : (Sl.of (some (b, 0)) v.l.length cap).len = v.l.length := rfl
   refine ift.of (fun h => ?_) (fun h => ?_)
   ·have hlt : i < v.l.length := by have := of_decide_eq_true h; omega
    have hi2 : i < ys.length := by rw [ho.len]; exact hlt
    have hyx := ho.rest i (Nat.le_refl _)
    rw [List.getElem?_eq_getElem hi2] at hyx
    have hold := QbZ.1 (ho.old.get i _ _ (List.getElem?_eq_getElem hlt) hyx.symm)
    have hmem := List.getElem_mem hlt
    have hsz := Qgj hmem
    have e0 : 0 + ((i : Int).toNat) * 4 + 3 = i * 4 + 3 := by omega
    have hf := flat4 ys
    refine ⟨(b, 0), rfl, rfl, by omega, by rw [hlen]; omega, ?_⟩
    refine ⟨ys[i].L, ?_, ?_⟩
    ·show rd _ (b, 0 + ((i : Int).toNat) * 4 + 3) = _
     rw [e0, Qhe, List.getElem?_append_left (by omega)]
     exact QdT Qb.c 4 TV.c_len ys i _ (List.getElem?_eq_getElem hi2) 3 _ rfl
    ·refine ih _ hmem A _ _ _ hold.2.2.2 (ho.ale.trans (Heap.le_put ho.nb)) (by omega) fun t2 H2 hm => ?_
     obtain ⟨s1, s2⟩ := ho.step hlt hi2 hm
     refine ⟨(b, 0), rfl, rfl, by omega, by rw [hlen]; omega, ?_⟩
     refine ⟨_, hm.le _ _ (Heap.put_same ..), ?_, ?_⟩
     ·show 0 + ((i : Int).toNat) * 4 + 3 < _
      rw [e0, List.length_append, hf]; omega
     ·show _ ∧ _
      have e1 : (b, 0 + ((i : Int).toNat) * 4 + 3).2 = i * 4 + 3 := e0
      rw [Qi (by omega) (by omega)]
      refine ⟨⟨i + 1, _, _, by omega, by omega, ?_, s1⟩, by first | omega | (dsimp only; omega)⟩
      rw [← s2, ← QjW ys i hi2]
      show H2.put b (.row ((List.flatMap Qb.c ys ++ sp).set (0 + ((i : Int).toNat) * 4 + 3) (slv t2))) = _
      rw [e0]
   ·have hie : i = v.l.length := by have := of_decide_eq_false h; omega
    refine k _ _ ?_
    have := ho.fin (sp := sp) (cap := cap) hie (ho.le.none ho.nb) (by omega) (by omega)
    rw [hie] at this
    exact this
 exact main (.mk 0 0 [] l) A t H K hv hle hz k
/-- what an entry's row is -/
def Rw (A : Heap) (x : Qa × En) : Prop := (VRow A x.1.Row x.2.1 ∧ VBs x.2.1 ∧ x.2.1.length ≤ 140737488355328) ∧ x.1.N = x.2.2
theorem sums2R {C : Ctx} {A H : Heap} {x y : Qa × En} {K : Int → Heap → Prop} (hx : Rw A x) (hy : Rw A y) (hA : A.le H) (k : K (cmpR x.2.1 y.2.1) H) : QaN C x.1 y.1 K H := by
 apply QaN.gh
 apply Qfw
 unfold QdA
 refine box2 fun b1 b3 H4 hle h1 h3 => fL h1 rfl (fL h3 rfl ?_)
 have hA4 := hA.trans hle
 exact Qb7 (hx.1.1.le hA4) (hy.1.1.le hA4) hx.1.2.2 hy.1.2.2 hx.1.2.1 hy.1.2.1 ⟨H, Gh.le hle, k⟩
/-- entries put into their order, in place -/
theorem sortE {C : Ctx} {A H : Heap} {s : Sl} {L : List (Qa × En)} {K : Heap → Prop} (hA : A.le H) (hO : Own H 2 s (L.flatMap fun x => Qa.c x.1)) (hF : Fresh A s) (hR : ∀ x ∈ L, Rw A x) (hl : s.len = L.length) (hn : L.length ≤ 1000000)
 (k : ∀ (Z : List (Qa × En)) (H2 : Heap), Z.Perm L → Z.Pairwise (fun x y => cmpR x.2.1 y.2.1 ≤ 0) → Own H2 2 s (Z.flatMap fun x => Qa.c x.1) → (∀ b, (∀ p, s.p = some p → p.1 ≠ b) → H2 b = H b) → K H2) :
 Qe C s (.func (.func 49) (List.toArray []) (List.toArray []) : Value) K H := by
 have hO' := hO
 obtain ⟨o1, o2, o3, o4 | ⟨b, sp, hp, hb, hc⟩⟩ := hO
 ·refine QiI (by omega) (k L H (List.Perm.refl _) ?_ hO' fun _ _ => rfl)
  have : L = [] := List.length_eq_zero_iff.1 (by omega)
  rw [this]; exact List.Pairwise.nil
 have hL0 : (L.zipIdx.map fun e => (e.1.1, (e.1.2, e.2))).flatMap SE.enc = L.flatMap fun x => Qa.c x.1 := by
  rw [List.flatMap_map]
  have : ∀ (L : List (Qa × En)) (m : Nat), (L.zipIdx m).flatMap (fun e => SE.enc (e.1.1, (e.1.2, e.2))) = L.flatMap fun x => Qa.c x.1 := by
   intro L
   induction L with
   | nil => intro m; rfl
   | cons x L ih => intro m; rw [List.zipIdx_cons, List.flatMap_cons, List.flatMap_cons, ih]; rfl
  exact this L 0
 have harr : SE.arr H b sp (L.zipIdx.map fun e => (e.1.1, (e.1.2, e.2))) = H := by
  unfold SE.arr
  rw [hL0]
  funext c
  by_cases hcb : c = b
  ·subst hcb; rw [Heap.put_same, hb]
  ·rw [Heap.put_ne _ _ _ hcb]
 have hlen : (L.zipIdx.map fun e => (e.1.1, (e.1.2, e.2))).length = L.length := by simp
 have hmem : ∀ e ∈ L.zipIdx.map (fun e => (e.1.1, (e.1.2, e.2))), Rw A (e.1, e.2.1) := fun e he => by
  obtain ⟨⟨x, i⟩, hx, rfl⟩ := List.mem_map.1 he
  exact hR x (List.mem_of_getElem? (List.mem_zipIdx_iff_getElem?.1 hx))
 have hι : (L.zipIdx.map fun e => (e.1.1, (e.1.2, e.2))).Pairwise fun x y => x.2.2 < y.2.2 := by
  rw [List.pairwise_map]
  have : ∀ (L : List (Qa × En)) (m : Nat), (L.zipIdx m).Pairwise fun x y => x.2 < y.2 := by
   intro L
   induction L with
   | nil => intro m; exact List.Pairwise.nil
   | cons x L ih =>
    intro m
    rw [List.zipIdx_cons]
    refine List.pairwise_cons.2 ⟨fun y hy => ?_, ih _⟩
    have := List.le_snd_of_mem_zipIdx hy
    show m < y.2
    omega
  exact this L 0
 rw [← harr]
 refine SE.Qhj (R := A) (P := fun e : Qa × (En × Nat) => Rw A (e.1, e.2.1)) (κ := fun a c => cmpR a.2.1.1 c.2.1.1) (ι := fun e => e.2.2) (n := L.length) ⟨⟨hp, o2, hl, by omega⟩, hA, hF _ hp, ⟨fun B hB x y hx hy Φ hΦ => ?_⟩, (Lin.row.comp fun e : Qa × (En × Nat) => e.2.1.1).sub fun _ _ => trivial⟩ hlen hmem hι fun Z hZp hZs => ?_
 ·have h := sums2R (C := C) (x := (x.1, x.2.1)) (y := (y.1, y.2.1)) (K := fun r H2 => Φ (.int .i64 r) H2) hx hy hB hΦ
  unfold QaN at h
  refine ⟨49, [], [], rfl, QfD, ?_⟩
  exact Spec.mono h fun v H2 hh => by obtain ⟨r, hv, hr⟩ := hh; rw [hv]; exact hr
 ·have hperm : (Z.map fun e => (e.1, e.2.1)).Perm L := by
   have := hZp.map (fun e : Qa × (En × Nat) => (e.1, e.2.1))
   rw [List.map_map] at this
   have e : (L.zipIdx.map ((fun e : Qa × (En × Nat) => (e.1, e.2.1)) ∘ fun e => (e.1.1, (e.1.2, e.2)))) = L := by
    have : ((fun e : Qa × (En × Nat) => (e.1, e.2.1)) ∘ fun e : (Qa × En) × Nat => (e.1.1, (e.1.2, e.2))) = Prod.fst := by funext e; rfl
    rw [this]; exact List.zipIdx_map_fst 0 L
   rw [e] at this; exact this
  have hZl : Z.length = L.length := by rw [← hperm.length_eq, List.length_map]
  have hcells : Z.flatMap SE.enc = (Z.map fun e => (e.1, e.2.1)).flatMap fun x => Qa.c x.1 := by
   rw [List.flatMap_map]; rfl
  refine k (Z.map fun e => (e.1, e.2.1)) _ hperm ?_ ⟨?_, o2, o3, .inr ⟨b, sp, hp, ?_, ?_⟩⟩ fun c hc' => ?_
  ·rw [List.pairwise_map]
   exact hZs.imp fun h => h.le
  ·rw [← hcells, SE.Qbh, hZl, hl]
  ·unfold SE.arr; rw [Heap.put_same, hcells]
  ·rw [← hcells, List.length_append, SE.Qbh, hZl]
   rw [List.length_append, o1] at hc
   rw [← hl]; exact hc
  ·have : c ≠ b := fun e => hc' _ hp (by rw [e])
   unfold SE.arr
   rw [Heap.put_ne _ _ _ this]
/-- a function's end: its results in cells, the mark -/
theorem Qhu {X B : Heap} {D b1 b3 : Nat} {s : Sl} {e : Int} {K : Sl → Int → Heap → Prop} (hX : X.le B) (x1 : X b1 = none) (x3 : X b3 = none) (xD : X D = none) (d1 : D ≠ b1) (d3 : D ≠ b3) (n13 : b1 ≠ b3) (hD : B D = some (true, .obj (.deferred (some []))))
 (h1 : B b1 = some (true, .row [slv s])) (h3 : B b3 = some (true, .row [.int .i64 e])) (k : ∀ H0, X.le H0 → K s e H0) : Rf.mk1 B D (fun Hm => ldL Hm (b1, 0) fun x => ldI Hm .i64 (b3, 0) fun y => K x y Hm) := by
 have l1 := Heap.le_put x1 (g := .row [slv s]) (m := true)
 have x3' : (X.put b1 (.row [slv s])) b3 = none := by rw [Heap.put_ne _ _ _ n13.symm]; exact x3
 have l3 := Heap.le_put x3' (g := .row [.int .i64 e]) (m := true)
 have r1 : ((X.put b1 (.row [slv s])).put b3 (.row [.int .i64 e])) b1 = some (true, .row [slv s]) := by rw [Heap.put_ne _ _ _ n13, Heap.put_same]
 have r3 : ((X.put b1 (.row [slv s])).put b3 (.row [.int .i64 e])) b3 = some (true, .row [.int .i64 e]) := Heap.put_same ..
 refine ⟨(X.put b1 (.row [slv s])).put b3 (.row [.int .i64 e]), fun b v hb => ?_, ?_, hD, ?_⟩
 ·by_cases h : b = b3
  ·subst h; rw [r3] at hb; injection hb with hb; subst hb; exact h3
  ·by_cases h' : b = b1
   ·subst h'; rw [r1] at hb; injection hb with hb; subst hb; exact h1
   ·rw [Heap.put_ne _ _ _ h, Heap.put_ne _ _ _ h'] at hb; exact hX _ _ hb
 ·rw [Heap.put_ne _ _ _ d3, Heap.put_ne _ _ _ d1]; exact xD
 ·exact fL (j := 0) r1 rfl (fI (j := 0) r3 rfl (k _ (l1.trans l3)))
end
section
open Go Go.Proofs
def RwE (A : Heap) (v : En) (x : Qa) : Prop := (VRow A x.Row v.1 ∧ VBs v.1 ∧ v.1.length ≤ 140737488355328) ∧ x.N = v.2
theorem QiO {r : List V} : ∀ {l : List En}, (∀ e ∈ l, -2147483647 ≤ e.2 ∧ e.2 ≤ 2147483647) → -(2147483647 * (l.length : Int)) ≤ totE l r ∧ totE l r ≤ 2147483647 * (l.length : Int)
 | [], _ => by simp [totE]
 | e :: l, h => by
  have h1 := h e (List.mem_cons_self ..)
  have h2 := QiO (r := r) fun x hx => h x (List.mem_cons_of_mem _ hx)
  simp only [totE, List.length_cons]
  split <;> omega
theorem QiQ {r : List V} {l : List En} {e : En} (h : e.1 = r) : totE (l ++ [e]) r = totE l r + e.2 := by
 rw [Qcb]
 have : totE [e] r = e.2 := by obtain ⟨a, b⟩ := e; have : a = r := h; subst this; exact Qgg
 rw [this]
theorem Qi3 {C : Ctx} {A F B : Heap} {b5 : Nat} {t : Sl} {R : List En} {post : Int × Int → Heap → Prop} (hAF : A.le F) (hF : F.le B) (h5 : B b5 = some (true, .row [slv t])) (hR : SlIs (RwE A) Qa.c F t R) (hne : 0 < R.length) (hl : R.length ≤ 1000000)
 (hmay : ∀ e ∈ R, mayR e.1 = true) (hN : ∀ e ∈ R, -2147483647 ≤ e.2 ∧ e.2 ≤ 2147483647)
 (hp : ∀ j : Nat, 0 < j → j ≤ R.length → (∀ i, (h : i < R.length) → i < j → R[i].1 = R[0].1) → (∀ h : j < R.length, R[j].1 ≠ R[0].1) → post ((j : Int), totE (R.take j) R[0].1) B) :
 lp (α := Int × Int) (0, 0) B (fun x126 J127 H128 =>
  jn (α := Bool) (fun x130 H131 =>
  ift x130
  (ldL H131 (b5, 0) fun x160 =>
  ixa x160 x126.1 fun p162 =>
  ldI H131 .i64 ((p162.1, p162.2 + (x126.1 : Int).toNat * 2).1, (p162.1, p162.2 + (x126.1 : Int).toNat * 2).2 + 1) fun x167 =>
  J127 ((w .i64 (x126.1 + 1)), (w .i64 (x126.2 + x167))) H131)
  (post x126 H131))
  (fun J129 => dr H128 fun Hs133 =>
  ldL Hs133 (b5, 0) fun x135 =>
  ift (decide ((x126.1 : Int) < (Sl.len x135 : Int)))
  (ldL Hs133 (b5, 0) fun x138 =>
  ixa x138 0 fun p140 =>
  ldL Hs133 ((p140.1, p140.2 + (0 : Int).toNat * 2).1, (p140.1, p140.2 + (0 : Int).toNat * 2).2 + 0) fun x145 =>
  ldL Hs133 (b5, 0) fun x147 =>
  ixa x147 x126.1 fun p149 =>
  ldL Hs133 ((p149.1, p149.2 + (x126.1 : Int).toNat * 2).1, (p149.1, p149.2 + (x126.1 : Int).toNat * 2).2 + 0) fun x154 =>
  QG C x145 x154 (fun r157 H158 =>
  Heap.le Hs133 H158 ∧
  J129 ((r157 : Int) == 0) H158) H128)
  (J129 false H128))) := by
 have hAB := hAF.trans hF
 refine ⟨fun x D => D = B ∧ ∃ j : Nat, x.1 = (j : Int) ∧ j ≤ R.length ∧ (∀ i, (h : i < R.length) → i < j → R[i].1 = R[0].1) ∧ x.2 = totE (R.take j) R[0].1, fun x _ => R.length - x.1.toNat, ⟨rfl, 0, rfl, Nat.zero_le _, fun i h hi => by omega, by simp [totE]⟩, ?_⟩
 rintro ⟨_, _⟩ D ⟨rfl, j, rfl, hj, hq, rfl⟩
 refine jb (P := ∃ h : j < R.length, R[j].1 = R[0].1) D ?_ fun b hb => ?_
 ·refine ⟨D, Heap.le.refl _, fL (j := 0) h5 rfl ?_⟩
  rw [hR.len]
  refine ift.of (fun h => ?_) (fun h => ⟨rfl, ?_⟩)
  ·have hlt : j < R.length := by have : (j : Int) < R.length := of_decide_eq_true h; omega
   refine fL (j := 0) h5 rfl (SlIs.fL hR hF (z := 2) (fun _ => rfl) (by omega) (i := 0) rfl hne (j := 0) (f := fun y => y.Row) (fun _ => rfl) fun y1 hy1 => ?_)
   refine fL (j := 0) h5 rfl (SlIs.fL hR hF (z := 2) (fun _ => rfl) (by omega) rfl hlt (j := 0) (f := fun y => y.Row) (fun _ => rfl) fun y2 hy2 => ?_)
   refine Qb7 (hy1.1.1.le hAB) (hy2.1.1.le hAB) hy1.1.2.2 hy2.1.2.2 hy1.1.2.1 hy2.1.2.1 ⟨Heap.le.refl _, rfl, ?_⟩
   have hz := QdR (hmay _ (List.getElem_mem hne)) (hmay _ (List.getElem_mem hlt))
   rw [beq_iff_eq, hz]
   exact ⟨fun e => ⟨hlt, e.symm⟩, fun ⟨_, e⟩ => e.symm⟩
  ·have hlt : ¬ j < R.length := by have : ¬ (j : Int) < R.length := of_decide_eq_false h; omega
   exact ⟨fun e => (nomatch e), fun ⟨e, _⟩ => absurd e hlt⟩
 refine ift.of (fun h => ?_) (fun h => ?_)
 ·obtain ⟨hlt, hr⟩ := hb.1 h
  refine fL (j := 0) h5 rfl (SlIs.fI hR hF (z := 2) (fun _ => rfl) (by omega) rfl hlt (j := 1) (f := fun y => y.N) (fun _ => rfl) fun y hy => ?_)
  rw [hy.2]
  have hbd := QiO (r := R[0].1) (l := R.take j) fun e he => hN e (List.mem_of_mem_take he)
  have hn1 := hN _ (List.getElem_mem hlt)
  rw [List.length_take, Nat.min_eq_left hj] at hbd
  rw [Qi (by omega) (by omega), Qi (by dsimp only; omega) (by dsimp only; omega)]
  refine ⟨⟨rfl, j + 1, rfl, by omega, fun i hi hij => ?_, ?_⟩, by first | omega | (dsimp only; omega)⟩
  ·by_cases he : i = j
   ·subst he; exact hr
   ·exact hq i hi (by omega)
  ·rw [List.take_add_one, List.getElem?_eq_getElem hlt]
   exact (QiQ hr).symm
 ·have hno : ¬ ∃ h : j < R.length, R[j].1 = R[0].1 := fun e => by rw [hb.2 e] at h; cases h
  refine hp j ?_ hj hq fun hlt e => hno ⟨hlt, e⟩
  rcases Nat.eq_zero_or_pos j with h0 | h0
  ·subst h0; exact absurd ⟨hne, rfl⟩ hno
  ·exact h0
end
section
open Go Go.Proofs
def nxS (C : Ctx) (b1 b3 b5 b7 : Nat) (K : Sl → Int → Heap → Prop) : Nat → Heap → Prop :=
 fun D14 H227 =>
 ldI H227 .i64 (b7, 0) fun x84 =>
 ift ((x84 : Int) != 0)
 (dr H227 fun Hs87 =>
 (ldI H227 .i64 (b7, 0) fun x90 =>
 Heap.le Hs87 H227 ∧
 st (b1, 0) (slv Sl.nil) (fun H93 =>
 Heap.le Hs87 H93 ∧
 st (b3, 0) (.int .i64 x90) (fun H94 =>
 Rf.mk1 H94 D14 (fun Hm95 =>
 ldL Hm95 (b1, 0) fun x99 => ldI Hm95 .i64 (b3, 0) fun x101 =>
 K x99 x101 Hm95)) H93) H227) ∧
 (st (b1, 0) (slv Sl.nil) (fun H104 =>
 Heap.le Hs87 H104 ∧
 ldI H104 .i64 (b7, 0) fun x106 =>
 Heap.le Hs87 H104 ∧
 st (b3, 0) (.int .i64 x106) (fun H108 =>
 Rf.mk1 H108 D14 (fun Hm109 =>
 ldL Hm109 (b1, 0) fun x113 => ldI Hm109 .i64 (b3, 0) fun x115 =>
 K x113 x115 Hm109)) H104) H227))
 (ldL H227 (b5, 0) fun x117 =>
 Qe C x117 (.func (.func 49) (List.toArray []) (List.toArray []) : Value) (fun H119 =>
 lp (α := Sl) Sl.nil H119 (fun x120 J121 H122 =>
 ldL H122 (b5, 0) fun x123 =>
 ift (decide (((Sl.len x123 : Int) : Int) > 0))
 (lp (α := Int × Int) (0, 0) H122 (fun x126 J127 H128 =>
 jn (α := Bool) (fun x130 H131 =>
 ift x130
 (ldL H131 (b5, 0) fun x160 =>
 ixa x160 x126.1 fun p162 =>
 ldI H131 .i64 ((p162.1, p162.2 + (x126.1 : Int).toNat * 2).1, (p162.1, p162.2 + (x126.1 : Int).toNat * 2).2 + 1) fun x167 =>
 J127 ((w .i64 (x126.1 + 1)), (w .i64 (x126.2 + x167))) H131)
 (QbY C x126.2 (fun r169 H170 =>
 ift r169
 (st (b1, 0) (slv Sl.nil) (fun H172 =>
 st (b3, 0) (.int .i64 80) (fun H173 =>
 Rf.mk1 H173 D14 (fun Hm174 =>
 ldL Hm174 (b1, 0) fun x178 => ldI Hm174 .i64 (b3, 0) fun x180 =>
 K x178 x180 Hm174)) H172) H170)
 (jn (α := Sl) (fun x183 H184 =>
 ldL H184 (b5, 0) fun x200 =>
 slL x200 x126.1 (Sl.len x200 : Int) (Sl.cap x200 : Int) 2 fun t202 =>
 st (b5, 0) (slv t202) (fun H208 =>
 J121 x183 H208) H184)
 (fun J182 => ift ((x126.2 : Int) != 0)
 (ldL H170 (b5, 0) fun x187 =>
 ixa x187 0 fun p189 =>
 ldL H170 ((p189.1, p189.2 + (0 : Int).toNat * 2).1, (p189.1, p189.2 + (0 : Int).toNat * 2).2 + 0) fun x194 =>
 QbI C x194 (fun r196 H197 =>
 apd (Qa.c Qa.zero) 32 x120 ((Qa.c (⟨r196, x126.2⟩ : Qa)) ++ []) 1 (fun r198 H199 =>
 J182 r198 H199) H197) H170)
 (J182 x120 H170)))) H131))
 (fun J129 => dr H128 fun Hs133 =>
 ldL Hs133 (b5, 0) fun x135 =>
 ift (decide ((x126.1 : Int) < (Sl.len x135 : Int)))
 (ldL Hs133 (b5, 0) fun x138 =>
 ixa x138 0 fun p140 =>
 ldL Hs133 ((p140.1, p140.2 + (0 : Int).toNat * 2).1, (p140.1, p140.2 + (0 : Int).toNat * 2).2 + 0) fun x145 =>
 ldL Hs133 (b5, 0) fun x147 =>
 ixa x147 x126.1 fun p149 =>
 ldL Hs133 ((p149.1, p149.2 + (x126.1 : Int).toNat * 2).1, (p149.1, p149.2 + (x126.1 : Int).toNat * 2).2 + 0) fun x154 =>
 QG C x145 x154 (fun r157 H158 =>
 Heap.le Hs133 H158 ∧
 J129 ((r157 : Int) == 0) H158) H128)
 (J129 false H128))))
 (st (b1, 0) (slv x120) (fun H209 =>
 st (b3, 0) (.int .i64 0) (fun H210 =>
 Rf.mk1 H210 D14 (fun Hm211 =>
 ldL Hm211 (b1, 0) fun x215 => ldI Hm211 .i64 (b3, 0) fun x217 =>
 K x215 x217 Hm211)) H209) H122))) H227)
theorem OgE.up {H B B2 : Heap} {es : List En} {s : Sl} {ys : List Qa} (h : OgE H B es s ys) (hle : B.le B2) : OgE H B2 es s ys :=
 ⟨h.own.up hle, h.len, fun j e y a b => by
  obtain ⟨q1, q2⟩ := h.done j e y a b
  exact ⟨q1.up (Heap.le_off ((Heap.off_le s B).trans hle) (Heap.off_fresh s B)), q2⟩⟩
theorem Heap.withS_none {X H : Heap} {s : Sl} {b : Nat} (h : X b = none) (hn : ∀ p, s.p = some p → p.1 ≠ b) : X.withS s H b = none := by
 unfold Heap.withS
 rw [if_neg]
 ·exact h
 ·intro hh
  obtain ⟨p, hp, e⟩ := Option.map_eq_some_iff.1 hh
  exact hn p hp e
open Classical in
noncomputable def lenAt (b : Nat) (H : Heap) : Nat := if h : ∃ t : Sl, H b = some (true, .row [slv t]) then (Classical.choose h).len else 0
theorem QjX {s t : Sl} (h : slv s = slv t) : s.len = t.len := by
 unfold slv at h
 injection h with _ h _
theorem Qhv {b : Nat} {H : Heap} {t : Sl} (h : H b = some (true, .row [slv t])) : lenAt b H = t.len := by
 unfold lenAt
 have hex : ∃ t : Sl, H b = some (true, .row [slv t]) := ⟨t, h⟩
 rw [dif_pos hex]
 have := h.symm.trans (Classical.choose_spec hex)
 injection this with this; injection this with _ this; injection this with this; injection this with this
 exact (QjX this).symm
theorem QfG : ∀ L : List (Qa × En), (L.flatMap fun x => Qa.c x.1).length = L.length * 2
 | [] => rfl
 | y :: L => by rw [List.flatMap_cons, List.length_append, QfG L, List.length_cons, show (Qa.c y.1).length = 2 from rfl]; omega
/-- the rest of a list of entries -/
theorem SlIs.dropE {A F : Heap} {t : Sl} {R : List En} {j : Nat} {K : Sl → Prop} (h : SlIs (RwE A) Qa.c F t R) (hj : j ≤ R.length) (hc : t.len ≤ t.cap) (k : ∀ t', SlIs (RwE A) Qa.c F t' (R.drop j) → t'.len ≤ t'.cap → t'.len = t.len - j → K t') :
 slL t (j : Int) (Sl.len t : Int) (Sl.cap t : Int) 2 K := by
 obtain ⟨xs, h1, h2, h3, h4, h5⟩ := h
 have fl : ∀ xs : List Qa, (xs.flatMap Qa.c).length = xs.length * 2 := by
  intro xs
  induction xs with
  | nil => rfl
  | cons x xs ih => rw [List.flatMap_cons, List.length_append, ih, List.length_cons, show (Qa.c x).length = 2 from rfl]; omega
 have fd : ∀ (xs : List Qa) (n : Nat), n ≤ xs.length → (xs.flatMap Qa.c).drop (n * 2) = (xs.drop n).flatMap Qa.c := by
  intro xs
  induction xs with
  | nil => intro n hn; have : n = 0 := by simpa using hn
           subst this; rfl
  | cons x xs ih =>
   intro n hn
   cases n with
   | zero => simp
   | succ n =>
    rw [List.flatMap_cons, List.drop_append, show (Qa.c x).length = 2 from rfl, List.drop_of_length_le (by rw [show (Qa.c x).length = 2 from rfl]; omega), List.nil_append, show (n + 1) * 2 - 2 = n * 2 by omega, ih n (by simpa using hn)]
    rfl
 refine ⟨by omega, by omega, by omega, by omega, _, rfl, k _ ?_ ?_ ?_⟩
 ·have hs := QhQ (hr := h1) (lo := (j : Int)) (hi := (Sl.len t : Int)) (mx := (Sl.cap t : Int)) (z := 2) (by omega) (by omega) (by omega) (by rw [fl]; omega)
  have e0 : ((j : Int)).toNat = j := by omega
  rw [e0, fd xs j (by omega)] at hs
  have e1 : (((xs.drop j).flatMap Qa.c).take (((Sl.len t : Int) - (j : Int)).toNat * 2)) = (xs.drop j).flatMap Qa.c := List.take_of_length_le (by rw [fl, List.length_drop]; omega)
  rw [e1] at hs
  refine ⟨xs.drop j, ?_, ?_, by simp [h3], by rw [List.length_drop]; omega, fun i v x hv hx => ?_⟩
  ·rw [e0]; exact hs
  ·show ((Sl.len t : Int) - (j : Int)).toNat = _
   rw [List.length_drop]; omega
  ·rw [List.getElem?_drop] at hv hx; exact h5 _ v x hv hx
 ·show ((Sl.len t : Int) - (j : Int)).toNat ≤ ((Sl.cap t : Int) - (j : Int)).toNat
  omega
 ·show ((Sl.len t : Int) - (j : Int)).toNat = _
  omega
/-- where the sorted entries' sums stand -/
structure NX (A F : Heap) (D b1 b3 b5 : Nat) (R : List En) (m : Nat) (out : List En) (cs : Sl) (B : Heap) : Prop where
 le : m ≤ R.length
 few : out.length ≤ m
 hF : F.le B
 c1 : B b1 = some (true, .row [slv Sl.nil])
 c3 : B b3 = some (true, .row [.int .i64 0])
 sum : IsSum (R.take m) out
 ok : out.any (fun o => outE o.2) = false
 lt : ∀ x ∈ R.take m, ∀ y ∈ R.drop m, cmpR x.1 y.1 < 0
 t : ∃ t : Sl, B b5 = some (true, .row [slv t]) ∧ SlIs (RwE A) Qa.c F t (R.drop m) ∧ t.len ≤ t.cap
 fr : Fresh F cs ∧ ∀ p, cs.p = some p → p.1 ≠ b1 ∧ p.1 ≠ b3 ∧ p.1 ≠ b5
 og : ∃ (Bs : Heap) (ys : List Qa), OgE A Bs (out.filter fun o => !(o.2 == 0)) cs ys ∧ Bs.le B ∧ Bs b1 = none ∧ Bs b3 = none ∧ Bs b5 = none ∧ Bs D = none
/-- a row's entries, added: what is known then -/
theorem QjH {R out : List En} {m j : Nat} (hm : m < R.length) (hj0 : 0 < j) (hj : j ≤ (R.drop m).length) (hs : IsSum (R.take m) out) (hlt : ∀ x ∈ R.take m, ∀ y ∈ R.drop m, cmpR x.1 y.1 < 0) (hso : R.Pairwise fun x y => cmpR x.1 y.1 ≤ 0) (hmay : ∀ e ∈ R, mayR e.1 = true)
 (hq : ∀ i, (h : i < (R.drop m).length) → i < j → (R.drop m)[i].1 = (R.drop m)[0].1) (hstop : ∀ h : j < (R.drop m).length, (R.drop m)[j].1 ≠ (R.drop m)[0].1) :
 IsSum (R.take (m + j)) (out ++ [((R.drop m)[0].1, totE ((R.drop m).take j) (R.drop m)[0].1)]) ∧ (∀ x ∈ R.take (m + j), ∀ y ∈ R.drop (m + j), cmpR x.1 y.1 < 0) := by
 have e1 : R.take (m + j) = R.take m ++ (R.drop m).take j := by rw [List.take_add]
 have h0 : 0 < (R.drop m).length := by omega
 have hG : ∀ e ∈ (R.drop m).take j, e.1 = (R.drop m)[0].1 := fun e he => by
  obtain ⟨i, hi, rfl⟩ := List.getElem_of_mem he
  rw [List.length_take] at hi
  rw [List.getElem_take]
  exact hq i (by omega) (by omega)
 have hso2 : (R.drop m).Pairwise fun x y => cmpR x.1 y.1 ≤ 0 := hso.sublist (List.drop_sublist _ _)
 have hmay2 : ∀ e ∈ R.drop m, mayR e.1 = true := fun e he => hmay e (List.mem_of_mem_drop he)
 refine ⟨?_, ?_⟩
 ·rw [e1]
  refine hs.step (fun e he => hlt e he _ (List.getElem_mem h0)) hG fun e => ?_
  have := congrArg List.length e
  rw [List.length_take] at this
  simp only [List.length_nil] at this; omega
 ·rw [e1, ← List.drop_drop]
  intro x hx y hy
  rcases List.mem_append.1 hx with hx | hx
  ·exact hlt x hx y (List.mem_of_mem_drop hy)
  ·rw [hG x hx]
   obtain ⟨i, hi, rfl⟩ := List.getElem_of_mem hy
   rw [List.length_drop] at hi
   rw [show (List.drop j (R.drop m))[i] = (R.drop m)[j + i]'(by omega) from List.getElem_drop ..]
   have hjl : j < (R.drop m).length := by omega
   have hp := List.pairwise_iff_getElem.1 hso2
   have h1 : cmpR (R.drop m)[0].1 (R.drop m)[j].1 ≤ 0 := hp 0 j h0 hjl hj0
   have hne : cmpR (R.drop m)[0].1 (R.drop m)[j].1 ≠ 0 := fun e => hstop hjl ((QdR (hmay2 _ (List.getElem_mem h0)) (hmay2 _ (List.getElem_mem hjl))).1 e).symm
   by_cases hi0 : i = 0
   ·subst hi0
    have e0 : (R.drop m)[j + 0] = (R.drop m)[j] := rfl
    rw [e0]; omega
   ·have h2 : cmpR (R.drop m)[j].1 (R.drop m)[j + i].1 ≤ 0 := hp j (j + i) hjl (by omega) (by omega)
    exact (Lin.row.tr _ _ _ trivial trivial trivial h1 h2).2 (.inl (by omega))
end
section
open Go Go.Proofs
/-- what is left of all entries -/
def esS (S : List (En × Bool)) : List En := S.map fun x => (x.1.1, doE x.2 x.1.2)
theorem Qkj {C : Ctx} {A E H' : Heap} {D b1 b3 b5 b7 yl : Nat} {S : List (En × Bool)} {K : Sl → Int → Heap → Prop} (hAE : A.le E) (hED : E D = some (true, .obj (.deferred (some [])))) (hAD : A D = none) (d1 : D ≠ b1) (d3 : D ≠ b3) (d5 : D ≠ b5) (hS : S.length ≤ 1000000)
 (hsz : ∀ x ∈ S, wids x.1.1 ≤ 2513169434843) (hbd : ∀ x ∈ S, outE x.1.2 = false → -2147483647 ≤ doE x.2 x.1.2 ∧ doE x.2 x.1.2 ≤ 2147483647) (I : SI A b1 b3 b5 b7 yl S E H' S.length)
 (kout : S.any (fun x => outE x.1.2) = true → ∀ H0, A.le H0 → K Sl.nil 80 H0)
 (kover : S.any (fun x => outE x.1.2) = false → (∃ r, (∃ e ∈ esS S, e.1 = r) ∧ outE (totE (esS S) r) = true) → ∀ H0, A.le H0 → K Sl.nil 80 H0)
 (kok : S.any (fun x => outE x.1.2) = false → ∀ out cs ys H0, IsSum (esS S) out → out.any (fun o => outE o.2) = false → OgE A H0 (out.filter fun o => !(o.2 == 0)) cs ys → K cs 0 H0) :
 nxS C b1 b3 b5 b7 K D H' := by
 obtain ⟨o1, o3, o5, o7, oy⟩ := I.off
 obtain ⟨n13, n57, n51, n53, n71, n73⟩ := I.ne
 have A1 := hAE.none o1
 have A3 := hAE.none o3
 have A5 := hAE.none o5
 obtain ⟨s, L, g5, gO, gF, gN, gM, gV⟩ := I.ls
 rw [List.take_length] at gM
 have c7 := I.c7
 have hmayS := I.may
 rw [List.take_length] at c7 hmayS
 have hgM : L.map (·.2) = esS S := gM
 refine fI (j := 0) c7 rfl ?_
 cases hb : S.any (fun x => outE x.1.2) with
 | true =>
  rw [hb, if_pos rfl] at c7
  rw [if_pos rfl]
  refine QaU rfl ?_
  have fin : ∀ B, E.le B → B b1 = some (true, .row [slv Sl.nil]) → B b3 = some (true, .row [.int .i64 80]) → Rf.mk1 B D (fun Hm => ldL Hm (b1, 0) fun x => ldI Hm .i64 (b3, 0) fun y => K x y Hm) := fun B hB h1 h3 => Qhu (hAE.trans hB) A1 A3 hAD d1 d3 n13 (hB _ _ hED) h1 h3 (kout hb)
  have l1 : E.le (H'.put b1 (.row [slv Sl.nil])) := Qu I.leE o1
  have c3' : (H'.put b1 (.row [slv Sl.nil])) b3 = some (true, .row [.int .i64 0]) := by rw [Heap.put_ne _ _ _ n13.symm]; exact I.c3
  have c7' : (H'.put b1 (.row [slv Sl.nil])) b7 = some (true, .row [.int .i64 80]) := by rw [Heap.put_ne _ _ _ n71]; exact c7
  refine ⟨E, I.leE, fI (j := 0) c7 rfl ⟨I.leE, stI I.c1 ⟨l1, stI c3' (fin _ (Qu l1 o3) ?_ (Heap.put_same ..))⟩⟩, stI I.c1 ⟨l1, fI (j := 0) c7' rfl ⟨l1, stI c3' (fin _ (Qu l1 o3) ?_ (Heap.put_same ..))⟩⟩⟩
  all_goals rw [Heap.put_ne _ _ _ n13, Heap.put_same]
 | false =>
 rw [if_neg (by simp)]
 refine QA rfl ?_
 refine fL (j := 0) g5 rfl ?_
 have hlL : L.length = S.length := by
  have := congrArg List.length gM
  simpa using this
 have hsl : s.len = L.length := by
  have h1 := gO.1
  rw [QfG] at h1; omega
 refine sortE (A := A) (hAE.trans I.leE) gO (gF.le hAE) gV hsl (by omega) fun Z H2 hZp hZs hO2 hsame => ?_
 have hE2 : E.le H2 := fun b e hx => by
  rw [hsame b fun p hp e' => by have := gF p hp; rw [e', hx] at this; cases this]
  exact I.leE _ _ hx
 have hOF := OwnF.sub (X := E) (⟨hE2, hO2, gF⟩ : OwnF E H2 2 s _) (Heap.le.refl E)
 have hF2 : (E.withS s H2).le H2 := Heap.withS_le hE2
 have F1 := Heap.withS_none (H := H2) o1 fun p hp => (gN p hp).1
 have F3 := Heap.withS_none (H := H2) o3 fun p hp => (gN p hp).2.1
 have F5 := Heap.withS_none (H := H2) o5 fun p hp => (gN p hp).2.2.1
 have hEF := hOF.le
 have hrd := hOF.own.rdsl
 generalize E.withS s H2 = F at *
 have hAF := hAE.trans hEF
 have hFD := hEF _ _ hED
 have s1 : H2 b1 = some (true, .row [slv Sl.nil]) := by rw [hsame b1 fun p hp => (gN p hp).1]; exact I.c1
 have s3 : H2 b3 = some (true, .row [.int .i64 0]) := by rw [hsame b3 fun p hp => (gN p hp).2.1]; exact I.c3
 have s5 : H2 b5 = some (true, .row [slv s]) := by rw [hsame b5 fun p hp => (gN p hp).2.2.1]; exact g5
 have hperm : (Z.map (·.2)).Perm (esS S) := by rw [← hgM]; exact hZp.map _
 have hZl : Z.length = S.length := by rw [hZp.length_eq]; exact hlL
 have hRl : (Z.map (·.2)).length = S.length := by rw [List.length_map]; exact hZl
 have hR0 : SlIs (RwE A) Qa.c F s (Z.map (·.2)) := by
  refine ⟨Z.map (·.1), ?_, by rw [List.length_map]; omega, by simp, by rw [hRl]; omega, fun i v x hv hx => ?_⟩
  ·rw [List.flatMap_map]; exact hrd
  ·rw [List.getElem?_map] at hv hx
   cases hz : Z[i]? with
   | none => rw [hz] at hv; cases hv
   | some z =>
    rw [hz] at hv hx
    injection hv with hv; injection hx with hx; subst hv; subst hx
    exact gV z (hZp.mem_iff.1 (List.mem_of_getElem? hz))
 have hso : (Z.map (·.2)).Pairwise fun x y => cmpR x.1 y.1 ≤ 0 := by rw [List.pairwise_map]; exact hZs
 have hfrom : ∀ e ∈ Z.map (·.2), ∃ x ∈ S, e = (x.1.1, doE x.2 x.1.2) := fun e he => by
  obtain ⟨x, hx, rfl⟩ := List.mem_map.1 (hperm.mem_iff.1 he)
  exact ⟨x, hx, rfl⟩
 have hmay : ∀ e ∈ Z.map (·.2), mayR e.1 = true := fun e he => by
  obtain ⟨x, hx, rfl⟩ := hfrom e he; exact hmayS x hx
 have hN : ∀ e ∈ Z.map (·.2), -2147483647 ≤ e.2 ∧ e.2 ≤ 2147483647 := fun e he => by
  obtain ⟨x, hx, rfl⟩ := hfrom e he
  refine hbd x hx ?_
  cases ho : outE x.1.2 with
  | false => rfl
  | true => rw [List.any_eq_true.2 ⟨x, hx, ho⟩] at hb; cases hb
 have hvz : ∀ e ∈ Z.map (·.2), wids e.1 ≤ 2513169434843 := fun e he => by
  obtain ⟨x, hx, rfl⟩ := hfrom e he; exact hsz x hx
 have hscap : s.len ≤ s.cap := hO2.2.2.1
 generalize Z.map (·.2) = R at *
 refine ⟨fun cs B => ∃ m out, NX A F D b1 b3 b5 R m out cs B, fun _ B => lenAt b5 B, ⟨0, [], ⟨Nat.zero_le _, Nat.zero_le _, hF2, s1, s3, by simpa using IsSum.nil, rfl, fun x hx => by simp at hx, ⟨s, s5, hR0, hscap⟩, ⟨Fresh.nil _, fun p hp => by cases hp⟩, A, [], OgE.nil, hAF.trans hF2, A1, A3, A5, hAD⟩⟩, ?_⟩
 rintro cs B ⟨m, out, N⟩
 obtain ⟨t, t5, tR, tc⟩ := N.t
 obtain ⟨Bs, ys, gOg, gB, gB1, gB3, gB5, gBD⟩ := N.og
 have hAB := hAF.trans N.hF
 have htl : t.len = R.length - m := by rw [tR.len, List.length_drop]
 refine fL (j := 0) t5 rfl ?_
 refine ift.of (fun h => ?_) (fun h => ?_)
 ·have hpos : 0 < t.len := by have : (0 : Int) < (t.len : Int) := of_decide_eq_true h; omega
  have hm : m < R.length := by omega
  have hne : 0 < (R.drop m).length := by rw [List.length_drop]; omega
  refine Qi3 (A := A) hAF N.hF t5 tR hne (by rw [List.length_drop]; omega) (fun e he => hmay e (List.mem_of_mem_drop he)) (fun e he => hN e (List.mem_of_mem_drop he)) fun j hj0 hjl hq hstop => ?_
  obtain ⟨g1, g2⟩ := QjH hm hj0 hjl N.sum N.lt hso hmay hq hstop
  have hrow := List.getElem_mem hne
  have hrowR := List.mem_of_mem_drop hrow
  generalize hr0 : (R.drop m)[0].1 = r0 at *
  generalize hsum : totE ((R.drop m).take j) r0 = sum at *
  refine Qjw ?_
  refine ift.of (fun ho => ?_) (fun ho => ?_)
  ·have c3' : (B.put b1 (.row [slv Sl.nil])) b3 = some (true, .row [.int .i64 0]) := by rw [Heap.put_ne _ _ _ n13.symm]; exact N.c3
   refine stI N.c1 (stI c3' (Qhu (X := A) (Qu (Qu hAB A1) A3) A1 A3 hAD d1 d3 n13 ?_ ?_ (Heap.put_same ..) (kover hb ⟨r0, ?_, ?_⟩)))
   ·rw [Heap.put_ne _ _ _ d3, Heap.put_ne _ _ _ d1]; exact N.hF _ _ hFD
   ·rw [Heap.put_ne _ _ _ n13, Heap.put_same]
   ·exact ⟨_, hperm.mem_iff.1 hrowR, hr0⟩
   ·have h1 := (g1.mem r0 sum).1 (List.mem_append_right _ (List.mem_singleton.2 rfl))
    have h2 : totE (R.drop (m + j)) r0 = 0 := QaE fun e he e' => by
     have hin : (r0, sum) ∈ out ++ [(r0, sum)] := List.mem_append_right _ (List.mem_singleton.2 rfl)
     obtain ⟨x, hx, hxr⟩ := h1.1
     have := g2 x hx e he
     rw [hxr, e'] at this; exact Qc3 this
    have h3 : totE (esS S) r0 = sum := by
     rw [← QgN hperm, ← List.take_append_drop (m + j) R, Qcb, h2, ← h1.2]; omega
    rw [h3]; exact ho
  have ho' : outE sum = false := ho
  refine ⟨fun cs' B' => F.le B' ∧ B' b1 = some (true, .row [slv Sl.nil]) ∧ B' b3 = some (true, .row [.int .i64 0]) ∧ B' b5 = some (true, .row [slv t]) ∧ (Fresh F cs' ∧ ∀ p, cs'.p = some p → p.1 ≠ b1 ∧ p.1 ≠ b3 ∧ p.1 ≠ b5) ∧ ∃ (Bs : Heap) (ys : List Qa), OgE A Bs ((out ++ [(r0, sum)]).filter fun o => !(o.2 == 0)) cs' ys ∧ Bs.le B' ∧ Bs b1 = none ∧ Bs b3 = none ∧ Bs b5 = none ∧ Bs D = none, ?_, ?_⟩
  ·refine ift.of (fun hz => ?_) (fun hz => ?_)
   ·have hz0 : (sum == 0) = false := by simpa using hz
    refine fL (j := 0) t5 rfl (SlIs.fL tR N.hF (z := 2) (fun _ => rfl) (by omega) (i := 0) rfl hne (j := 0) (f := fun y => y.Row) (fun _ => rfl) fun y1 hy1 => ?_)
    have hy := hy1.1.1
    rw [hr0] at hy
    refine Qj4 hy hAB (by rw [← hr0]; exact hvz _ hrowR) fun t2 H197 hm2 => ?_
    have hcsH : Own H197 2 cs (ys.flatMap Qa.c) := (gOg.own.own.le gB).le hm2.le
    have hysl : cs.len ≤ R.length := by
     have h1 := gOg.own.own.1
     have h2 : (ys.flatMap Qa.c).length = ys.length * 2 := by
      have : ∀ ys : List Qa, (ys.flatMap Qa.c).length = ys.length * 2 := by
       intro ys
       induction ys with
       | nil => rfl
       | cons y ys ih => rw [List.flatMap_cons, List.length_append, ih, List.length_cons, show (Qa.c y).length = 2 from rfl]; omega
      exact this ys
     have h3 := gOg.len
     have h4 : (out.filter fun o => !(o.2 == 0)).length ≤ out.length := List.length_filter_le ..
     have h5 := N.few
     have h6 := N.le
     omega
    refine Qdd (ys := Qa.c (⟨t2, sum⟩ : Qa)) (m := 1) hcsH.off rfl (by show (cs.len + 1) * 32 ≤ _; omega) (by omega) fun r' H199 hO hlen => ?_
    have hX := Heap.plus_le gB hm2.le
    have hm3 := hm2.sub gB
    have hXoff : ((Heap.plus Bs B H197).off cs).le (H197.off cs) := Heap.le_off ((Heap.off_le _ _).trans hX) (Heap.off_fresh cs _)
    have hO' := hO.sub hXoff
    have hFo : F.le (H197.off cs) := Heap.le_off (N.hF.trans hm2.le) N.fr.1
    have at_ : ∀ (b : Nat) (e : Bool × GO), B b = some e → (∀ p, cs.p = some p → p.1 ≠ b) → (H197.off cs) b = some e := fun b e hb hn => Heap.off_some (hm2.le _ _ hb) hn
    have x1 := at_ b1 _ N.c1 fun p hp => (N.fr.2 p hp).1
    have x3 := at_ b3 _ N.c3 fun p hp => (N.fr.2 p hp).2.1
    have x5 := at_ b5 _ t5 fun p hp => (N.fr.2 p hp).2.2
    have xD := hFo _ _ hFD
    have rN : ∀ b e, (H197.off cs) b = some e → ∀ p, r'.p = some p → p.1 ≠ b := fun b e hb p hp e' => by
     have := hO.fresh p hp
     rw [e', hb] at this; cases this
    have nn : ∀ b e, B b = some e → Bs b = none → (H197.off cs) b = some e → (((Heap.plus Bs B H197).off cs).withS r' H199) b = none := fun b e hb hbs hbo => Heap.withS_none ((Heap.off_le cs _).none (Heap.plus_none hbs (by rw [hb]; simp))) (rN b e hbo)
    refine ⟨hFo.trans hO.le, hO.le _ _ x1, hO.le _ _ x3, hO.le _ _ x5, ⟨hO.fresh.le hFo, fun p hp => ⟨rN b1 _ x1 p hp, rN b3 _ x3 p hp, rN b5 _ x5 p hp⟩⟩, _, ys ++ [(⟨t2, sum⟩ : Qa)], ?_, Heap.withS_le (hXoff.trans hO.le), nn b1 _ N.c1 gB1 x1, nn b3 _ N.c3 gB3 x3, nn b5 _ t5 gB5 x5, nn D _ (N.hF _ _ hFD) gBD xD⟩
    have := gOg.step hm3 hO'
    rw [List.filter_append]
    have e2 : ([(r0, sum)].filter fun o : En => !(o.2 == 0)) = [(r0, sum)] := by simp [hz0]
    rw [e2]; exact this
   ·have hz0 : (sum == 0) = true := by simpa using hz
    refine ⟨N.hF, N.c1, N.c3, t5, N.fr, Bs, ys, ?_, gB, gB1, gB3, gB5, gBD⟩
    rw [List.filter_append]
    have e2 : ([(r0, sum)].filter fun o : En => !(o.2 == 0)) = [] := by simp [hz0]
    rw [e2, List.append_nil]; exact gOg
  rintro cs' B' ⟨k1, k2, k3, k4, k5, Bs', ys', k6, k7, k8, k9, k10, k11⟩
  refine fL (j := 0) k4 rfl (tR.dropE hjl tc fun t' ht' htc htl' => ?_)
  refine stI k4 ⟨⟨m + j, out ++ [(r0, sum)], ⟨?_, by rw [List.length_append, List.length_singleton]; have := N.few; omega, Qu k1 F5, ?_, ?_, g1, ?_, g2, ⟨t', Heap.put_same .., ?_, htc⟩, k5, Bs', ys', k6, Qu k7 k10, k8, k9, k10, k11⟩⟩, ?_⟩
  ·rw [List.length_drop] at hjl; omega
  ·rw [Heap.put_ne _ _ _ n51.symm]; exact k2
  ·rw [Heap.put_ne _ _ _ n53.symm]; exact k3
  ·rw [List.any_append, N.ok]; simp [ho']
  ·rw [List.drop_drop] at ht'; exact ht'
  ·show lenAt b5 (B'.put b5 (.row [slv t'])) < lenAt b5 B
   rw [Qhv (Heap.put_same ..), Qhv t5, htl']; omega
 ·have hz : t.len = 0 := by have : ¬ (0 : Int) < (t.len : Int) := of_decide_eq_false h; omega
  have hme : m = R.length := by have := N.le; omega
  have c3' : (B.put b1 (.row [slv cs])) b3 = some (true, .row [.int .i64 0]) := by rw [Heap.put_ne _ _ _ n13.symm]; exact N.c3
  refine stI N.c1 (stI c3' (Qhu (X := Bs) (Qu (Qu gB gB1) gB3) gB1 gB3 gBD d1 d3 n13 ?_ ?_ (Heap.put_same ..) fun H0 hH0 => kok hb out cs ys H0 ?_ N.ok (gOg.up hH0)))
  ·rw [Heap.put_ne _ _ _ d3, Heap.put_ne _ _ _ d1]; exact N.hF _ _ hFD
  ·rw [Heap.put_ne _ _ _ n13, Heap.put_same]
  ·have := N.sum
   rw [hme, List.take_length] at this
   exact this.perm hperm
end
section
open Go Go.Proofs
theorem OgE.down {H0 H B : Heap} {es : List En} {s : Sl} {ys : List Qa} (h : OgE H B es s ys) (hle : H0.le H) : OgE H0 B es s ys :=
 ⟨h.own.down hle, h.len, fun j e y a b => ⟨(h.done j e y a b).1.down hle, (h.done j e y a b).2⟩⟩
/-- what sums tells -/
structure SumsK (S : List (En × Bool)) (H : Heap) (K : Sl → Int → Heap → Prop) : Prop where
 bad : S.any (fun x => !(mayR x.1.1)) = true → ∀ H0, H.le H0 → K Sl.nil 4 H0
 out : (∀ x ∈ S, mayR x.1.1 = true) → S.any (fun x => outE x.1.2) = true → ∀ H0, H.le H0 → K Sl.nil 80 H0
 over : (∀ x ∈ S, mayR x.1.1 = true) → S.any (fun x => outE x.1.2) = false → (∃ r, (∃ e ∈ esS S, e.1 = r) ∧ outE (totE (esS S) r) = true) → ∀ H0, H.le H0 → K Sl.nil 80 H0
 ok : (∀ x ∈ S, mayR x.1.1 = true) → S.any (fun x => outE x.1.2) = false → ∀ out cs ys H0, IsSum (esS S) out → out.any (fun o => outE o.2) = false → OgE H H0 (out.filter fun o => !(o.2 == 0)) cs ys → K cs 0 H0
theorem QiM {C : Ctx} {H : Heap} {pl : Sl} {ps : List (List En × Bool)} {K : Sl → Int → Heap → Prop} (hP : SlIs (PtIs H) Qc.c H pl ps) (hS : (seqS ps).length ≤ 1000000)
 (hsz : ∀ x ∈ seqS ps, wids x.1.1 ≤ 2513169434843) (k : SumsK (seqS ps) H K) : QcM C pl K H := by
 have hbd : ∀ x ∈ seqS ps, outE x.1.2 = false → -2147483647 ≤ doE x.2 x.1.2 ∧ doE x.2 x.1.2 ≤ 2147483647 := fun x _ ho => by
  unfold outE at ho
  have h1 : ¬ x.1.2 < -2147483647 := fun h => by rw [decide_eq_true h] at ho; cases ho
  have h2 : ¬ x.1.2 > 2147483647 := fun h => by rw [decide_eq_true h, Bool.or_true] at ho; cases ho
  unfold doE
  split
  ·rw [Qi (by omega) (by omega)]; omega
  ·omega
 apply Qgq
 unfold QeI
 intro b1 n1 b3 n3 b5 n5 b7 n7
 have q31 : b3 ≠ b1 := fun e => by rw [e, Heap.put_same] at n3; cases n3
 have m3 : H b3 = none := by rw [Heap.put_ne _ _ _ q31] at n3; exact n3
 have q53 : b5 ≠ b3 := fun e => by rw [e, Heap.put_same] at n5; cases n5
 have m5 : (H.put b1 (.row [slv Sl.nil])) b5 = none := by rw [Heap.put_ne _ _ _ q53] at n5; exact n5
 have q51 : b5 ≠ b1 := fun e => by rw [e, Heap.put_same] at m5; cases m5
 have m5 : H b5 = none := by rw [Heap.put_ne _ _ _ q51] at m5; exact m5
 have q75 : b7 ≠ b5 := fun e => by rw [e, Heap.put_same] at n7; cases n7
 have m7 := n7
 rw [Heap.put_ne _ _ _ q75] at m7
 have q73 : b7 ≠ b3 := fun e => by rw [e, Heap.put_same] at m7; cases m7
 rw [Heap.put_ne _ _ _ q73] at m7
 have q71 : b7 ≠ b1 := fun e => by rw [e, Heap.put_same] at m7; cases m7
 rw [Heap.put_ne _ _ _ q71] at m7
 have le8 : H.le ((((H.put b1 (.row [slv Sl.nil])).put b3 (.row [.int .i64 0])).put b5 (.row [slv Sl.nil])).put b7 (.row [.int .i64 0])) := (((Heap.le_put n1).trans (Heap.le_put n3)).trans (Heap.le_put n5)).trans (Heap.le_put n7)
 have c1 : ((((H.put b1 (.row [slv Sl.nil])).put b3 (.row [.int .i64 0])).put b5 (.row [slv Sl.nil])).put b7 (.row [.int .i64 0])) b1 = some (true, .row [slv Sl.nil]) := by rw [Heap.put_ne _ _ _ q71.symm, Heap.put_ne _ _ _ q51.symm, Heap.put_ne _ _ _ q31.symm, Heap.put_same]
 have c3 : ((((H.put b1 (.row [slv Sl.nil])).put b3 (.row [.int .i64 0])).put b5 (.row [slv Sl.nil])).put b7 (.row [.int .i64 0])) b3 = some (true, .row [.int .i64 0]) := by rw [Heap.put_ne _ _ _ q73.symm, Heap.put_ne _ _ _ q53.symm, Heap.put_same]
 have c5 : ((((H.put b1 (.row [slv Sl.nil])).put b3 (.row [.int .i64 0])).put b5 (.row [slv Sl.nil])).put b7 (.row [.int .i64 0])) b5 = some (true, .row [slv Sl.nil]) := by rw [Heap.put_ne _ _ _ q75.symm, Heap.put_same]
 have c7 : ((((H.put b1 (.row [slv Sl.nil])).put b3 (.row [.int .i64 0])).put b5 (.row [slv Sl.nil])).put b7 (.row [.int .i64 0])) b7 = some (true, .row [.int .i64 0]) := Heap.put_same ..
 generalize (((H.put b1 (.row [slv Sl.nil])).put b3 (.row [.int .i64 0])).put b5 (.row [slv Sl.nil])).put b7 (.row [.int .i64 0]) = H8 at *
 refine stI c7 ?_
 have le9 : H.le (H8.put b7 (.row [.int .i64 0])) := Qu le8 m7
 have c1 : (H8.put b7 (.row [.int .i64 0])) b1 = some (true, .row [slv Sl.nil]) := by rw [Heap.put_ne _ _ _ q71.symm]; exact c1
 have c3 : (H8.put b7 (.row [.int .i64 0])) b3 = some (true, .row [.int .i64 0]) := by rw [Heap.put_ne _ _ _ q73.symm]; exact c3
 have c5 : (H8.put b7 (.row [.int .i64 0])) b5 = some (true, .row [slv Sl.nil]) := by rw [Heap.put_ne _ _ _ q75.symm]; exact c5
 have c7 : (H8.put b7 (.row [.int .i64 0])) b7 = some (true, .row [.int .i64 0]) := Heap.put_same ..
 generalize H8.put b7 (.row [.int .i64 0]) = H9 at *
 apply Qgp
 unfold QeH
 intro b9 n9
 have m9 := le9.none n9
 have r1 : b1 ≠ b9 := fun e => by rw [e, n9] at c1; cases c1
 have r3 : b3 ≠ b9 := fun e => by rw [e, n9] at c3; cases c3
 have r5 : b5 ≠ b9 := fun e => by rw [e, n9] at c5; cases c5
 have r7 : b7 ≠ b9 := fun e => by rw [e, n9] at c7; cases c7
 have lA : H.le (H.put b9 (.row [slv pl])) := Heap.le_put m9
 have A9 : (H.put b9 (.row [slv pl])) b9 = some (true, .row [slv pl]) := Heap.put_same ..
 have a1 : (H.put b9 (.row [slv pl])) b1 = none := by rw [Heap.put_ne _ _ _ r1]; exact n1
 have a3 : (H.put b9 (.row [slv pl])) b3 = none := by rw [Heap.put_ne _ _ _ r3]; exact m3
 have a5 : (H.put b9 (.row [slv pl])) b5 = none := by rw [Heap.put_ne _ _ _ r5]; exact m5
 have a7 : (H.put b9 (.row [slv pl])) b7 = none := by rw [Heap.put_ne _ _ _ r7]; exact m7
 have lA11 : (H.put b9 (.row [slv pl])).le (H9.put b9 (.row [slv pl])) := fun x e hx => by
  by_cases hb : x = b9
  ·subst hb; rw [Heap.put_same] at hx ⊢; exact hx
  ·rw [Heap.put_ne _ _ _ hb] at hx ⊢; exact le9 _ _ hx
 have c1 : (H9.put b9 (.row [slv pl])) b1 = some (true, .row [slv Sl.nil]) := by rw [Heap.put_ne _ _ _ r1]; exact c1
 have c3 : (H9.put b9 (.row [slv pl])) b3 = some (true, .row [.int .i64 0]) := by rw [Heap.put_ne _ _ _ r3]; exact c3
 have c5 : (H9.put b9 (.row [slv pl])) b5 = some (true, .row [slv Sl.nil]) := by rw [Heap.put_ne _ _ _ r5]; exact c5
 have c7 : (H9.put b9 (.row [slv pl])) b7 = some (true, .row [.int .i64 0]) := by rw [Heap.put_ne _ _ _ r7]; exact c7
 have hPA : SlIs (PtIs (H.put b9 (.row [slv pl]))) Qc.c (H.put b9 (.row [slv pl])) pl ps := hP.le lA fun v _ x hx => ⟨hx.1.le lA fun _ _ _ h => h.le lA, hx.2⟩
 generalize H.put b9 (.row [slv pl]) = A at *
 generalize H9.put b9 (.row [slv pl]) = H11 at *
 refine Qiw (C := C) (nx := nxS C b1 b3 b5 b7 K) hPA hS lA11 A9 ⟨a1, a3, a5, a7⟩ ⟨q31.symm, q75.symm, q51, q53, q71, q73⟩ c1 c3 c5 c7 (fun D yl E H' hAE hED hAD d1 d3 d5 d7 I => ?_) fun D E H' hAE hED hAD d1 d3 he => ?_
 ·have hmay : ∀ x ∈ seqS ps, mayR x.1.1 = true := by have := I.may; rw [List.take_length] at this; exact this
  exact Qkj hAE hED hAD d1 d3 d5 hS hsz hbd I (fun h H0 hH => k.out hmay h H0 (lA.trans hH)) (fun h h2 H0 hH => k.over hmay h h2 H0 (lA.trans hH)) fun h out cs ys H0 g1 g2 g3 => k.ok hmay h out cs ys H0 g1 g2 (g3.down lA)
 ·exact Qhu (X := A) (hAE.trans he.leE) a1 a3 hAD d1 d3 q31.symm (he.leE _ _ hED) he.c1 he.c3 fun H0 hH => k.bad he.bad H0 (lA.trans hH)
end
section
open Go Go.Proofs
theorem SumsK.up {S : List (En × Bool)} {H H2 : Heap} {K : Sl → Int → Heap → Prop} (k : SumsK S H K) (hle : H.le H2) : SumsK S H2 K :=
 ⟨fun h H0 hH => k.bad h H0 (hle.trans hH), fun h h2 H0 hH => k.out h h2 H0 (hle.trans hH), fun h h2 h3 H0 hH => k.over h h2 h3 H0 (hle.trans hH), fun h h2 out cs ys H0 g1 g2 g3 => k.ok h h2 out cs ys H0 g1 g2 (g3.down hle)⟩
section
variable {C : Ctx} {H A : Heap}
theorem parts2 {a b : Sl} {la lb : List En} {tb : Bool} {c : Nat} {m : Bool} {cap : Nat} (ha : EnL H a la) (hb : EnL H b lb) (h : H c = some (m, .row (Qc.c (⟨a, fnv false⟩ : Qc) ++ Qc.c (⟨b, fnv tb⟩ : Qc) ++ []))) :
 SlIs (PtIs H) Qc.c H (Sl.of (some (c, 0)) 2 cap) [(la, false), (lb, tb)] := by
 refine ⟨[(⟨a, fnv false⟩ : Qc), (⟨b, fnv tb⟩ : Qc)], .inr ⟨rfl, _, rfl, Qbc h fun j v hj => by simpa using hj⟩, rfl, rfl, by simp, fun i v x hv hx => ?_⟩
 match i with
 | 0 => simp at hv hx; subst hv; subst hx; exact ⟨ha, rfl⟩
 | 1 => simp at hv hx; subst hv; subst hx; exact ⟨hb, rfl⟩
 | i + 2 => simp at hv
theorem EnL.le {B : Heap} {s : Sl} {l : List En} (h : EnL A s l) (hle : A.le B) : EnL B s l := SlIs.le hle h fun _ _ _ h => h.le hle
theorem QjP {a b : Sl} {la lb : List En} {K : Sl → Int → Heap → Prop} (ha : EnL H a la) (hb : EnL H b lb) (hn : la.length + lb.length ≤ 1000000) (hsz : ∀ x ∈ la ++ lb, wids x.1 ≤ 2513169434843) (k : SumsK (seqS [(la, false), (lb, false)]) H K) : Qde C a b K H := by
 apply QgV
 unfold Qff
 intro b1 n1
 have hle := Heap.le_put n1 (g := .row (Qc.c (⟨a, fnv false⟩ : Qc) ++ Qc.c (⟨b, fnv false⟩ : Qc) ++ [])) (m := true)
 exact QiM (parts2 (ha.le hle) (hb.le hle) (Heap.put_same ..)) (by simp [seqS]; omega) (fun x hx => by
  simp [seqS] at hx
  rcases hx with ⟨r, n, h, rfl⟩ | ⟨r, n, h, rfl⟩
  ·exact hsz (r, n) (List.mem_append_left _ h)
  ·exact hsz (r, n) (List.mem_append_right _ h)) (k.up hle)
/-- entries alike, one by one -/
theorem Qh8 {s t : Sl} {l m : List En} {K : Bool → Heap → Prop} (hs : EnL A s l) (ht : EnL A t m) (hA : A.le H) (k : ∀ b, (b = true ↔ l = m) → K b H) : Qa2 C s t K H := by
 apply Qa2.gh
 apply QfY
 unfold Qec
 have i1 := nlen hs ht
 refine ift.of (fun h => ?_) (fun h => ?_)
 ·exact ⟨H, Gh.refl _, k _ ⟨fun e => (nomatch e), fun e => absurd (by rw [e]) (i1.1 h)⟩⟩
 have hq := n3 i1 h
 refine lpEq (l := l) (m := m) hs.bd fun i D J hD hi hh hJ => ?_
 rw [hs.len]
 refine ift.of (fun h => ?_) (fun h => ?_)
 ·have hlt : i < l.length := by have := of_decide_eq_true h; omega
  have hlt2 : i < m.length := by omega
  have hAD := hA.trans hD
  refine jb (P := ¬ (l[i].2 = m[i].2 ∧ l[i].1 = m[i].1)) D ?_ fun b hb => ?_
  ·refine ⟨D, Heap.le.refl _, SlIs.fI hs hAD (z := 2) (fun _ => rfl) (by omega) rfl hlt (j := 1) (f := fun y => y.N) (fun _ => rfl) fun y1 hy1 => SlIs.fI ht hAD (z := 2) (fun _ => rfl) (by omega) rfl hlt2 (j := 1) (f := fun y => y.N) (fun _ => rfl) fun y2 hy2 => ?_⟩
   have j1 := niq hy1.2.2.2.1 hy2.2.2.2.1
   refine ift.of (fun h => ⟨rfl, n1 j1 h⟩) fun h => ?_
   refine SlIs.fL hs hAD (z := 2) (fun _ => rfl) (by omega) rfl hlt (j := 0) (f := fun y => y.Row) (fun _ => rfl) fun y3 hy3 => SlIs.fL ht hAD (z := 2) (fun _ => rfl) (by omega) rfl hlt2 (j := 0) (f := fun y => y.Row) (fun _ => rfl) fun y4 hy4 => ?_
   refine QfF (hy3.1.le hAD) (hy4.1.le hAD) hy3.2.2.1 hy3.2.1 ⟨Heap.le.refl _, rfl, n2 j1 h ?_⟩
   rw [Bool.not_eq_true', ← Bool.not_eq_true, Qbo]
  have he : l[i] = m[i] ↔ l[i].2 = m[i].2 ∧ l[i].1 = m[i].1 := ⟨fun e => by rw [e]; exact ⟨rfl, rfl⟩, fun ⟨e1, e2⟩ => Prod.ext e2 e1⟩
  rw [← he] at hb
  refine ift.of (fun h => ?_) (fun h => ?_)
  ·exact ⟨H, Gh.le hD, k _ ⟨fun e => (nomatch e), fun e => absurd e (Qj9 hlt hlt2 (hb.1 h))⟩⟩
  ·exact hJ hlt _ hD (Qj0 hlt hlt2 hh (n3 hb h))
 ·have hie : i = l.length := by have := of_decide_eq_false h; omega
  exact ⟨H, Gh.le hD, k _ ⟨fun _ => Qjq hie hq hh, fun _ => rfl⟩⟩
/-- the document's error of entries -/
def chkE (l : List En) : Int := if l.any (fun e => !(mayR e.1)) then 4 else if l.any (fun e => outE e.2) then 80 else 0
end
end
section
open Go Go.Proofs
section
variable {C : Ctx} {H A : Heap}
theorem QbJ : ∀ ys : List Qa, (ys.flatMap Qa.c).length = ys.length * 2
 | [] => rfl
 | y :: ys => by rw [List.flatMap_cons, List.length_append, QbJ ys, List.length_cons, show (Qa.c y).length = 2 from rfl]; omega
theorem OgE.slen {B : Heap} {es : List En} {s : Sl} {ys : List Qa} (h : OgE H B es s ys) : s.len = es.length := by
 have h1 := h.own.own.1
 rw [QbJ, h.len] at h1; omega
/-- owned entries are entries -/
theorem OgE.en {B : Heap} {es : List En} {s : Sl} {ys : List Qa} (h : OgE H B es s ys) (hb : ∀ e ∈ es, VBs e.1 ∧ e.1.length ≤ 140737488355328 ∧ -9223372036854775808 ≤ e.2 ∧ e.2 < 9223372036854775808) (hn : es.length ≤ 140737488355328) : EnL B s es :=
 ⟨ys, h.own.own.rdsl, by rw [h.slen, h.len], h.len.symm, hn, fun i v x hv hx => by
  obtain ⟨q1, q2⟩ := h.done i v x hv hx
  obtain ⟨b1, b2, b3, b4⟩ := hb v (List.mem_of_getElem? hv)
  exact ⟨q1.row2.le (Heap.off_le s B), b1, b2, q2, b3, b4⟩⟩
theorem Qi2 {s0 : Sl} {l : List En} {K : Sl → Heap → Prop} (hs : EnL A s0 l) (hA : A.le H) (hn : l.length ≤ 1000000) (hsz : ∀ x ∈ l, wids x.1 ≤ 2513169434843) (k : ∀ r ys H2, OgE H H2 l r ys → K r H2) : QcH C s0 K H := by
 apply Qfo
 unfold Qds
 refine ⟨fun x D => ∃ (i : Nat) (ys : List Qa), x.2 = (i : Int) ∧ i ≤ l.length ∧ OgE H D (l.take i) x.1 ys, fun x _ => l.length - x.2.toNat, ⟨0, [], rfl, Nat.zero_le _, OgE.nil⟩, ?_⟩
 rintro ⟨s, _⟩ D ⟨i, ys, rfl, hi, hg⟩
 rw [hs.len]
 refine ift.of (fun h => ?_) (fun h => ?_)
 ·have hlt : i < l.length := by have : (i : Int) < l.length := of_decide_eq_true h; omega
  have hHo : H.le (D.off s) := Heap.le_off hg.own.le hg.own.fresh
  have hAo := hA.trans hHo
  refine ⟨D.off s, Heap.off_le s D, SlIs.fL hs hAo (z := 2) (fun _ => rfl) (by omega) rfl hlt (j := 0) (f := fun y => y.Row) (fun _ => rfl) fun y1 hy1 => SlIs.fI hs hAo (z := 2) (fun _ => rfl) (by omega) rfl hlt (j := 1) (f := fun y => y.N) (fun _ => rfl) fun y2 hy2 => ?_⟩
  rw [hy2.2.2.2.1]
  refine Qj5 hy1.1 (hA.trans hg.own.le) (hsz _ (List.getElem_mem hlt)) fun t2 H23 hm => ⟨(Heap.off_le s D).trans hm.le, ?_⟩
  intro b25 n25
  have l26 := Heap.le_put n25 (g := .row (Qa.c (⟨t2, l[i].2⟩ : Qa) ++ [])) (m := true)
  have h26 : (H23.put b25 (.row (Qa.c (⟨t2, l[i].2⟩ : Qa) ++ []))) b25 = some (true, .row (Qa.c (⟨t2, l[i].2⟩ : Qa) ++ [])) := Heap.put_same ..
  generalize H23.put b25 (.row (Qa.c (⟨t2, l[i].2⟩ : Qa) ++ [])) = H26 at *
  have hm2 := hm.up l26
  refine ⟨(Heap.off_le s D).trans hm2.le, ?_⟩
  have hsl : s.len = i := by have h := hg.slen; rw [List.length_take, Nat.min_eq_left hi] at h; exact h
  refine Qf4 (ys := Qa.c (⟨t2, l[i].2⟩ : Qa)) (hg.own.own.le hm2.le).off (.inr ⟨rfl, _, rfl, Qbc h26 fun j v hj => by simpa using hj⟩) rfl (by intro u hu; simp [Qa.c] at hu; rcases hu with rfl | rfl <;> rfl) (by show (s.len + 1) * 32 ≤ _; omega) (by show s.len + 1 ≤ _; omega) fun r' H29 hO hlen => ?_
  refine ⟨(Heap.le_off ((Heap.off_le s D).trans hm2.le) (Heap.off_fresh s D)).trans hO.le, ?_⟩
  rw [Qi (by dsimp only; omega) (by dsimp only; omega)]
  refine ⟨⟨i + 1, ys ++ [(⟨t2, l[i].2⟩ : Qa)], rfl, by omega, ?_⟩, by first | omega | (dsimp only; omega)⟩
  rw [List.take_add_one, List.getElem?_eq_getElem hlt]
  exact hg.step (l := l[i].1) (n := l[i].2) hm2 hO
 ·have hie : i = l.length := by have : ¬ (i : Int) < l.length := of_decide_eq_false h; omega
  rw [hie, List.take_length] at hg
  exact k _ _ _ hg
theorem Qh0 {s0 : Sl} {l : List En} {K : Sl → Heap → Prop} (hs : EnL A s0 l) (hA : A.le H) (hn : l.length ≤ 1000000) (k : ∀ r H2, H.le H2 → EnL H2 r l → K r H2) : Qch C s0 K H := by
 apply QfV
 unfold Qd9
 refine ⟨fun x D => ∃ (i : Nat) (ys : List Qa), x.2 = (i : Int) ∧ i ≤ l.length ∧ OwnF H D 2 x.1 (ys.flatMap Qa.c) ∧ ys.length = i ∧ ∀ (j : Nat) (e : En) (y : Qa), l[j]? = some e → ys[j]? = some y → EnIs A e y, fun x _ => l.length - x.2.toNat, ⟨0, [], rfl, Nat.zero_le _, OwnF.nil H 2, rfl, fun j e y _ hy => by simp at hy⟩, ?_⟩
 rintro ⟨s, _⟩ D ⟨i, ys, rfl, hi, hO, hyl, hy⟩
 rw [hs.len]
 have hsl : s.len = i := by have h1 : (ys.flatMap Qa.c).length = s.len * 2 := hO.own.1; rw [QbJ, hyl] at h1; omega
 refine ift.of (fun h => ?_) (fun h => ?_)
 ·have hlt : i < l.length := by have : (i : Int) < l.length := of_decide_eq_true h; omega
  have hHo : H.le (D.off s) := Heap.le_off hO.le hO.fresh
  have hAo := hA.trans hHo
  refine ⟨D.off s, Heap.off_le s D, SlIs.fL hs hAo (z := 2) (fun _ => rfl) (by omega) rfl hlt (j := 0) (f := fun y => y.Row) (fun _ => rfl) fun y1 hy1 => SlIs.fI hs hAo (z := 2) (fun _ => rfl) (by omega) rfl hlt (j := 1) (f := fun y => y.N) (fun _ => rfl) fun y2 hy2 => ?_⟩
  intro b25 n25
  have l26 := Heap.le_put n25 (g := .row (Qa.c (⟨y1.Row, y2.N⟩ : Qa) ++ [])) (m := true)
  have h26 : (D.put b25 (.row (Qa.c (⟨y1.Row, y2.N⟩ : Qa) ++ []))) b25 = some (true, .row (Qa.c (⟨y1.Row, y2.N⟩ : Qa) ++ [])) := Heap.put_same ..
  generalize D.put b25 (.row (Qa.c (⟨y1.Row, y2.N⟩ : Qa) ++ [])) = H26 at *
  refine ⟨(Heap.off_le s D).trans l26, ?_⟩
  refine Qf4 (ys := Qa.c (⟨y1.Row, y2.N⟩ : Qa)) (hO.own.le l26).off (.inr ⟨rfl, _, rfl, Qbc h26 fun j v hj => by simpa using hj⟩) rfl (by intro u hu; simp [Qa.c] at hu; rcases hu with rfl | rfl <;> rfl) (by show (s.len + 1) * 32 ≤ _; omega) (by show s.len + 1 ≤ _; omega) fun r' H29 hO2 hlen => ?_
  have lo := Heap.le_off ((Heap.off_le s D).trans l26) (Heap.off_fresh s D)
  refine ⟨lo.trans hO2.le, ?_⟩
  rw [Qi (by dsimp only; omega) (by dsimp only; omega)]
  refine ⟨⟨i + 1, ys ++ [(⟨y1.Row, y2.N⟩ : Qa)], rfl, by omega, ?_, by simp [hyl], fun j e y he hj => ?_⟩, by first | omega | (dsimp only; omega)⟩
  ·rw [List.flatMap_append]
   have this : OwnF H H29 2 r' (List.flatMap Qa.c ys ++ Qa.c (⟨y1.Row, y2.N⟩ : Qa)) := hO2.down (hHo.trans lo)
   simpa using this
  ·by_cases hj' : j < ys.length
   ·rw [List.getElem?_append_left hj'] at hj; exact hy j e y he hj
   ·have hjl := (List.getElem?_eq_some_iff.1 hj).1
    rw [List.length_append, List.length_singleton] at hjl
    have hje : j = i := by omega
    subst hje
    rw [List.getElem?_append_right (by omega), hyl, Nat.sub_self] at hj
    simp only [List.getElem?_cons_zero, Option.some.injEq] at hj
    rw [List.getElem?_eq_getElem hlt] at he
    have he := Option.some.inj he
    subst he; subst hj
    exact ⟨hy1.1, hy1.2.1, hy1.2.2.1, hy2.2.2.2.1, hy2.2.2.2.2⟩
 ·have hie : i = l.length := by have : ¬ (i : Int) < l.length := of_decide_eq_false h; omega
  subst hie
  exact k _ _ hO.le ⟨ys, hO.own.rdsl, by dsimp only; omega, hyl.symm, by omega, fun j e y he hj => (hy j e y he hj).le (hA.trans hO.le)⟩
end
end
section
open Go Go.Proofs
section
variable {C : Ctx} {H A X : Heap}
end
end
section
open Go Go.Proofs
section
variable {C : Ctx} {H A : Heap}
end
end
section
open Go Go.Proofs
theorem Qgs {a b c d : Int} (h : (decide (a < b) && decide (c < d)) = false) : b ≤ a ∨ d ≤ c := by
 rw [Bool.and_eq_false_iff] at h
 rcases h with h | h
 ·left; have := of_decide_eq_false h; omega
 ·right; have := of_decide_eq_false h; omega
theorem Qho {a b c d : Int} (h : (decide (a < b) && decide (c < d)) = true) : a < b ∧ c < d := by
 rw [Bool.and_eq_true] at h
 exact ⟨of_decide_eq_true h.1, of_decide_eq_true h.2⟩
theorem Qi5 {C : Ctx} {H A : Heap} {s : Sl} {l : List En} {K : Bool → Heap → Prop} (hs : EnL A s l) (hA : A.le H) (k : ∀ b, (b = false → l.length ≤ 500 ∧ ∀ e ∈ l, vsizes e.1 ≤ 500) → K b H) : QcI C s K H := by
 apply Qfp
 unfold Qdt
 have hb := hs.bd
 rw [hs.len]
 refine ⟨fun x D => D = H ∧ ∃ i n : Nat, x.1 = (n : Int) ∧ x.2 = (i : Int) ∧ i ≤ l.length ∧ n ≤ 562949953421312 ∧ l.length ≤ n ∧ (n < 500 → ∀ j, (h : j < l.length) → j < i → vsizes l[j].1 ≤ n), fun x _ => l.length - x.2.toNat, ⟨rfl, 0, l.length, rfl, rfl, Nat.zero_le _, by omega, Nat.le_refl _, fun _ j h hj => by omega⟩, ?_⟩
 rintro ⟨_, _⟩ D ⟨rfl, i, n, rfl, rfl, hi, hn, hln, hq⟩
 refine ift.of (fun h => ?_) (fun h => ?_)
 ·have h0 := Qho h
  have hlt : i < l.length := by have := h0.1; dsimp only at this; omega
  have hn5 : n < 500 := by have := h0.2; dsimp only at this; omega
  refine SlIs.fL hs hA (z := 2) (fun _ => rfl) (by omega) rfl hlt (j := 0) (f := fun y => y.Row) (fun _ => rfl) fun y1 hy1 => ?_
  have hrl := hy1.1.len
  have hrb := hy1.2.2.1
  rw [hrl, Qi (by dsimp only; omega) (by dsimp only; omega)]
  refine ⟨fun x E => E = D ∧ ∃ m n2 : Nat, x.1 = (n2 : Int) ∧ x.2 = (m : Int) ∧ m ≤ l[i].1.length ∧ n2 ≤ 562949953421312 ∧ n ≤ n2 ∧ (n2 < 500 → n + l[i].1.length + vsizes (l[i].1.take m) ≤ n2), fun x _ => l[i].1.length - x.2.toNat, ⟨rfl, 0, n + l[i].1.length, by dsimp only; omega, rfl, Nat.zero_le _, by omega, by omega, fun _ => by simp [vsizes]⟩, ?_⟩
  rintro ⟨_, _⟩ E ⟨rfl, m, n2, rfl, rfl, hm, hn2, hnn, hq2⟩
  refine SlIs.fL hs hA (z := 2) (fun _ => rfl) (by omega) rfl hlt (j := 0) (f := fun y => y.Row) (fun _ => rfl) fun y2 hy2 => ?_
  rw [hy2.1.len]
  refine ift.of (fun h => ?_) (fun h => ?_)
  ·have h1 := Qho h
   have hmt : m < l[i].1.length := by have := h1.1; dsimp only at this; omega
   have hn25 : n2 < 500 := by have := h1.2; dsimp only at this; omega
   refine SlIs.fL hs hA (z := 2) (fun _ => rfl) (by omega) rfl hlt (j := 0) (f := fun y => y.Row) (fun _ => rfl) fun y3 hy3 => ?_
   refine SlIs.ld (VLs hy3.1 hy3.2.2.1) hA (z := 4) (fun _ => rfl) (by omega) rfl hmt fun x hx => ?_
   refine QgQ (m := 500) (hx.le hA) (hy3.2.1.mem (List.getElem_mem hmt)) (by omega) (by omega) fun r r1 r2 r3 => ?_
   rw [Qi (by dsimp only; omega) (by dsimp only; omega), Qi (by dsimp only; omega) (by dsimp only; omega)]
   refine ⟨⟨rfl, m + 1, n2 + r, by dsimp only; omega, by dsimp only; omega, by omega, by omega, by omega, fun h5 => ?_⟩, by first | omega | (dsimp only; omega)⟩
   have h6 := hq2 hn25
   have h7 := r3 (by omega)
   rw [Qfj hmt]; omega
  ·have h1 := Qgs h
   dsimp only at h1
   rw [Qi (by dsimp only; omega) (by dsimp only; omega)]
   refine ⟨⟨rfl, i + 1, n2, rfl, by dsimp only; omega, by omega, hn2, by omega, fun h5 j hj hji => ?_⟩, by first | omega | (dsimp only; omega)⟩
   have hme : m = l[i].1.length := by omega
   have h6 := hq2 h5
   rw [hme, List.take_length] at h6
   by_cases he : j = i
   ·subst he; omega
   ·have := hq (by omega) j hj (by omega); omega
 ·have h1 := Qgs h
  dsimp only at h1
  refine k _ fun hf => ?_
  have hn5 : n < 500 := by have : ¬ (n : Int) ≥ 500 := of_decide_eq_false hf; omega
  have hie : i = l.length := by omega
  refine ⟨by omega, fun e he => ?_⟩
  obtain ⟨j, hj, rfl⟩ := List.getElem_of_mem he
  have := hq hn5 j hj (by omega); omega
end
section
open Go Go.Proofs
theorem Qgk : ∀ (ys : List Qa) (a : Nat), (ys.flatMap Qa.c).take (a * 2) = (ys.take a).flatMap Qa.c
 | [], a => by simp
 | y :: ys, 0 => by simp
 | y :: ys, a + 1 => by
  rw [List.flatMap_cons, List.take_succ_cons, List.flatMap_cons, List.take_append, show (Qa.c y).length = 2 from rfl, List.take_of_length_le (by rw [show (Qa.c y).length = 2 from rfl]; omega), show (a + 1) * 2 - 2 = a * 2 by omega, Qgk ys a]
theorem QhH : ∀ (ys : List Qa) (a : Nat), (ys.flatMap Qa.c).drop (a * 2) = (ys.drop a).flatMap Qa.c
 | [], a => by simp
 | y :: ys, 0 => by simp
 | y :: ys, a + 1 => by
  rw [List.flatMap_cons, List.drop_succ_cons, List.drop_append, show (Qa.c y).length = 2 from rfl, List.drop_of_length_le (by rw [show (Qa.c y).length = 2 from rfl]; omega), List.nil_append, show (a + 1) * 2 - 2 = a * 2 by omega, QhH ys a]
theorem QiV : ∀ (ys : List Qa) (i : Nat) (n : Int) (h : i < ys.length) (sp : List Value), ((ys.flatMap Qa.c) ++ sp).set (i * 2 + 1) (.int .i64 n) = ((ys.set i (⟨ys[i].Row, n⟩ : Qa)).flatMap Qa.c) ++ sp
 | [], i, n, h, sp => by simp at h
 | y :: ys, 0, n, h, sp => by simp [Qa.c]
 | y :: ys, i + 1, n, h, sp => by
  have ih := QiV ys i n (by simpa using h) sp
  have e : (i + 1) * 2 + 1 = (i * 2 + 1) + 1 + 1 := by omega
  rw [List.set_cons_succ, List.flatMap_cons, List.flatMap_cons, e]
  show (slv y.Row :: Value.int .i64 y.N :: (ys.flatMap Qa.c ++ sp)).set (i * 2 + 1 + 1 + 1) (.int .i64 n) = _
  rw [List.set_cons_succ, List.set_cons_succ, ih]
  rfl
theorem Qij {H : Heap} {s : Sl} {g : Nat} {o : GO} {x : Nat} (hp : s.p = some (g, x)) : (H.put g o).off s = H.off s := by
 funext b
 unfold Heap.off
 by_cases hb : g = b
 ·subst hb; rw [if_pos (by rw [hp]; rfl), if_pos (by rw [hp]; rfl)]
 ·rw [if_neg (by rw [hp]; simpa using hb), if_neg (by rw [hp]; simpa using hb), Heap.put_ne _ _ _ fun e => hb e.symm]
/-- an owned entry's number is set -/
theorem OgE.setN {H B : Heap} {es : List En} {s : Sl} {ys : List Qa} {i : Nat} {n : Int} {g : Nat} {c : List Value} (h : OgE H B es s ys) (hi : i < es.length) (hp : s.p = some (g, 0)) (hc : B g = some (true, .row c)) :
 OgE H (B.put g (.row (c.set (i * 2 + 1) (.int .i64 n)))) (es.set i (es[i].1, n)) s (ys.set i (⟨(ys[i]'(by rw [h.len]; exact hi)).Row, n⟩ : Qa)) := by
 have hi2 : i < ys.length := by rw [h.len]; exact hi
 obtain ⟨hle, ⟨q1, q2, q3, q4⟩, hf⟩ := h.own
 have hHg : H g = none := hf _ hp
 refine ⟨⟨Qu hle hHg, ⟨?_, q2, q3, ?_⟩, hf⟩, by simp [h.len], fun j e y he hy => ?_⟩
 ·rw [QbJ, List.length_set, ← QbJ]; exact q1
 ·rcases q4 with ⟨p0, _⟩ | ⟨g', sp, hp', hb, hcl⟩
  ·rw [p0] at hp; cases hp
  ·rw [hp] at hp'; injection hp' with hp'; injection hp' with hp' _; subst hp'
   rw [hc] at hb; injection hb with hb; injection hb with _ hb; injection hb with hb; subst hb
   refine .inr ⟨g, sp, hp, ?_, ?_⟩
   ·rw [Heap.put_same, QiV ys i n hi2 sp]
   ·rw [List.length_append, QbJ, List.length_set, ← QbJ, ← List.length_append]; exact hcl
 ·rw [Qij hp]
  by_cases hij : i = j
  ·subst hij
   rw [List.getElem?_set_self hi] at he
   rw [List.getElem?_set_self hi2] at hy
   injection he with he; injection hy with hy; subst he; subst hy
   obtain ⟨m1, _⟩ := h.done i _ _ (List.getElem?_eq_getElem hi) (List.getElem?_eq_getElem hi2)
   exact ⟨m1, rfl⟩
  ·rw [List.getElem?_set_ne hij] at he hy
   exact h.done j e y he hy
end
section
open Go Go.Proofs
end
section
open Go Go.Proofs
def okE (e : En) : Prop := VBs e.1 ∧ e.1.length ≤ 140737488355328 ∧ -9223372036854775808 ≤ e.2 ∧ e.2 < 9223372036854775808
section
variable {C : Ctx} {H A : Heap}
/-- where the document's entries stand -/
structure DC (H : Heap) (l : List En) (i : Nat) (outs : List En) (s : Sl) (D : Heap) : Prop where
 og : ∃ ys, OgE H D outs s ys
 sum : IsSum (l.take i) outs
 few : outs.length ≤ i
end
end
section
open Go Go.Proofs
section
variable {C : Ctx} {H A : Heap}
end
end
section
open Go Go.Proofs
section
variable {C : Ctx} {H A : Heap}
end
end
section
open Go Go.Proofs
section
variable {C : Ctx} {H A : Heap}
end
end
section
open Go Go.Proofs
def nzE (o : List En) : List En := o.filter fun o => !(o.2 == 0)
structure ResP (l : List En) (e : Int) (out : List En) : Prop where
 err : chkE l ≠ 0 → e = chkE l ∧ out = []
 over : chkE l = 0 → ∀ o, IsSum l o → o.any (fun e => outE e.2) = true → e = 80 ∧ out = []
 ok : chkE l = 0 → ∀ o, IsSum l o → o.any (fun e => outE e.2) = false → e = 0 ∧ out = nzE o
theorem Qio {b : Bool} {n : Int} (h0 : -9223372036854775808 ≤ n) (h1 : n < 9223372036854775808) : outE (doE b n) = outE n := by
 cases b with
 | false => rfl
 | true =>
  show outE (w .i64 (0 - n)) = outE n
  by_cases hm : n = -9223372036854775808
  ·subst hm; rfl
  ·rw [Qi (by omega) (by omega)]
   unfold outE
   rw [Bool.eq_iff_iff]
   simp only [Bool.or_eq_true, decide_eq_true_iff]
   omega
theorem QhD {S : List (En × Bool)} {H : Heap} {K : Sl → Int → Heap → Prop} (hr : ∀ x ∈ S, -9223372036854775808 ≤ x.1.2 ∧ x.1.2 < 9223372036854775808) (k : ∀ e out cs ys H0, ResP (esS S) e out → OgE H H0 out cs ys → K cs e H0) : SumsK S H K := by
 have nil : ∀ H0, H.le H0 → OgE H H0 [] Sl.nil [] := fun H0 hH => OgE.nil.up hH
 have hmem : ∀ e ∈ esS S, ∃ x ∈ S, e = (x.1.1, doE x.2 x.1.2) := fun e he => by
  obtain ⟨x, hx, rfl⟩ := List.mem_map.1 he; exact ⟨x, hx, rfl⟩
 have hma : (∀ x ∈ S, mayR x.1.1 = true) → (esS S).any (fun e => !(mayR e.1)) = false := fun h => by
  rw [List.any_eq_false]; intro e he
  obtain ⟨x, hx, rfl⟩ := hmem e he
  rw [h x hx]; simp
 have hou : (esS S).any (fun e => outE e.2) = S.any fun x => outE x.1.2 := by
  unfold esS
  rw [List.any_map]
  rw [Bool.eq_iff_iff, List.any_eq_true, List.any_eq_true]
  constructor
  ·rintro ⟨x, hx, h⟩; exact ⟨x, hx, by rw [← Qio (b := x.2) (hr x hx).1 (hr x hx).2]; exact h⟩
  ·rintro ⟨x, hx, h⟩; exact ⟨x, hx, by show outE (doE x.2 x.1.2) = true; rw [Qio (hr x hx).1 (hr x hx).2]; exact h⟩
 have c0 : (∀ x ∈ S, mayR x.1.1 = true) → S.any (fun x => outE x.1.2) = false → chkE (esS S) = 0 := fun h1 h2 => by
  unfold chkE; rw [hma h1, hou, h2]; simp
 refine ⟨fun h H0 hH => k 4 [] _ _ H0 ?_ (nil H0 hH), fun h h2 H0 hH => k 80 [] _ _ H0 ?_ (nil H0 hH), fun h h2 h3 H0 hH => k 80 [] _ _ H0 ?_ (nil H0 hH), fun h h2 out cs ys H0 g1 g2 g3 => k 0 (nzE out) cs ys H0 ?_ g3⟩
 ·have : chkE (esS S) = 4 := by
   obtain ⟨x, hx, h⟩ := List.any_eq_true.1 h
   have hin : (x.1.1, doE x.2 x.1.2) ∈ esS S := List.mem_map.2 ⟨x, hx, rfl⟩
   have hany : (esS S).any (fun e => !(mayR e.1)) = true := List.any_eq_true.2 ⟨_, hin, h⟩
   unfold chkE
   rw [if_pos hany]
  exact ⟨fun _ => ⟨this.symm, rfl⟩, fun c => (by rw [this] at c; cases c), fun c => (by rw [this] at c; cases c)⟩
 ·have : chkE (esS S) = 80 := by unfold chkE; rw [hma h, hou, h2]; simp
  exact ⟨fun _ => ⟨this.symm, rfl⟩, fun c => (by rw [this] at c; cases c), fun c => (by rw [this] at c; cases c)⟩
 ·have c := c0 h h2
  obtain ⟨r, he, ho⟩ := h3
  refine ⟨fun n => absurd c n, fun _ o _ _ => ⟨rfl, rfl⟩, fun _ o hs hn => ?_⟩
  have := (hs.mem r _).2 ⟨he, rfl⟩
  rw [List.any_eq_true.2 ⟨_, this, ho⟩] at hn; cases hn
 ·have c := c0 h h2
  refine ⟨fun n => absurd c n, fun _ o hs hn => ?_, fun _ o hs hn => ⟨rfl, by rw [hs.uniq g1]⟩⟩
  rw [hs.uniq g1, g2] at hn; cases hn
section
variable {C : Ctx} {H A : Heap}
theorem EnL.nil {H : Heap} : EnL H Sl.nil [] := ⟨[], .inl rfl, rfl, rfl, by simp, fun i v x hv => by simp at hv⟩
theorem esS2 {la lb : List En} {tb : Bool} : esS (seqS [(la, false), (lb, tb)]) = la ++ lb.map fun e => (e.1, doE tb e.2) := by
 unfold esS seqS
 simp [List.map_append, Function.comp_def, doE]
end
end
end Sx
end
