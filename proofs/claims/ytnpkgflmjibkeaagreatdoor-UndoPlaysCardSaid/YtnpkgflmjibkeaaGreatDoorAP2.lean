/-
  Texts of this family, one behind the other: SlI, Sh1.
-/
import Derived.Test.YtnpkgflmjibkeaaGreatDoorAP1
import Derived.Test.YtnpkgflmjibkeaaGreatDoorProg
noncomputable section
set_option linter.unusedVariables false
set_option linter.unusedSimpArgs false
set_option maxRecDepth 10000
namespace Sx
section
open Go
theorem QfQ {α β : Type} (f : α → List β) (z : Nat) (hz : ∀ x, (f x).length = z) : ∀ (l : List α) (i : Nat) (x : α), l[i]? = some x → ∀ (j : Nat) (v : β), (f x)[j]? = some v → (l.flatMap f)[i * z + j]? = some v
 | [], i, x, h, j, v, hv => by simp at h
 | y :: l, 0, x, h, j, v, hv => by
  simp at h; subst h
  rw [List.flatMap_cons, Nat.zero_mul, Nat.zero_add, List.getElem?_append_left (List.getElem?_eq_some_iff.1 hv).1]; exact hv
 | y :: l, i + 1, x, h, j, v, hv => by
  have := QfQ f z hz l i x (by simpa using h) j v hv
  rw [List.flatMap_cons, List.getElem?_append_right (by rw [hz, Nat.add_mul]; omega), hz]
  rw [show (i + 1) * z + j - z = i * z + j by rw [Nat.add_mul]; omega]; exact this
/-- a list in memory -/
def SlIs {α β : Type} (R : α → β → Prop) (c : β → List Value) (A : Heap) (s : Sl) (l : List α) : Prop :=
 ∃ xs : List β, rdsl A s (xs.flatMap c) ∧ s.len = xs.length ∧ l.length = xs.length ∧ l.length ≤ 140737488355328 ∧ ∀ (i : Nat) (v : α) (x : β), l[i]? = some v → xs[i]? = some x → R v x
section
variable {α β : Type} {R : α → β → Prop} {c : β → List Value} {A H : Heap} {s : Sl} {l : List α}
theorem SlIs.len (h : SlIs R c A s l) : s.len = l.length := by obtain ⟨xs, h1, h2, h3, _⟩ := h; omega
theorem SlIs.bd (h : SlIs R c A s l) : l.length ≤ 140737488355328 := by obtain ⟨xs, h1, h2, h3, h4, _⟩ := h; exact h4
theorem SlIs.at_ (h : SlIs R c A s l) (hle : A.le H) {z : Nat} (hz : ∀ x, (c x).length = z) (hz0 : 0 < z) {i : Nat} {x : Int} {K : Nat × Nat → Prop} (hx : x = i) (hi : i < l.length) (k : ∀ p y, R l[i] y → (∀ j v, (c y)[j]? = some v → rd H (p.1, p.2 + x.toNat * z + j) = some v) → K p) : ixa s x K := by
 obtain ⟨xs, h1, h2, h3, _, h4⟩ := h
 have hi2 : i < xs.length := by omega
 have hg := List.getElem?_eq_getElem hi2
 subst hx
 refine QgI (QbK hle h1) (by omega) (by omega) (fun e => ?_) fun p _ hp => k p xs[i] (h4 i _ _ (List.getElem?_eq_getElem hi) hg) fun j v hj => ?_
 ·have := QfQ c z hz xs i _ hg 0 ((c xs[i])[0]'(by rw [hz]; exact hz0)) (by rw [List.getElem?_eq_getElem])
  rw [e] at this; simp at this
 ·have := Qce hp _ _ (QfQ c z hz xs i _ hg j v hj)
  have e0 : (i : Int).toNat = i := by omega
  rw [e0, Nat.add_assoc]; exact this
theorem SlIs.ld (h : SlIs R c A s l) (hle : A.le H) {z : Nat} (hz : ∀ x, (c x).length = z) (hz0 : 0 < z) {i : Nat} {x : Int} {K : β → Prop} (hx : x = i) (hi : i < l.length) (k : ∀ y, R l[i] y → K y) : ixa s x fun p => ldT H c (p.1, p.2 + x.toNat * z) K :=
 h.at_ hle hz hz0 hx hi fun p y hy hr => ⟨y, Qev fun j v hj => hr j v hj, k y hy⟩
end
section
variable {α β : Type} {R R2 : α → β → Prop} {c : β → List Value} {A B : Heap} {s : Sl} {l : List α}
theorem SlIs.le (hle : A.le B) (h : SlIs R c A s l) (hR : ∀ v ∈ l, ∀ x, R v x → R2 v x) : SlIs R2 c B s l := by
 obtain ⟨xs, h1, h2, h3, h4, h5⟩ := h
 exact ⟨xs, QbK hle h1, h2, h3, h4, fun i v x hv hx => hR v (List.mem_of_getElem? hv) x (h5 i v x hv hx)⟩
end
section
variable {C : Ctx} {H : Heap}
theorem box2 {cx cy : List Value} {K : Nat → Nat → Heap → Prop} (k : ∀ b1 b3 H4, H.le H4 → H4 b1 = some (true, .row cx) → H4 b3 = some (true, .row cy) → K b1 b3 H4) : nw cx (fun b1 H2 => nw cy (fun b3 H4 => K b1 b3 H4) H2) H := by
 intro b1 n1 b3 n3
 have ne : b1 ≠ b3 := fun e => by rw [e, Heap.put_same] at n3; cases n3
 exact k b1 b3 _ ((Heap.le_put n1).trans (Heap.le_put n3)) (by rw [Heap.put_ne _ _ _ ne, Heap.put_same]) (Heap.put_same ..)
theorem nwT {b : Nat} {cx c0 : List Value} {K : Heap → Prop} (hl : cx.length = c0.length) (k : K (H.put b (.row cx))) : stT (b, 0) cx K (H.put b (.row c0)) := by
 refine ⟨_, Heap.put_same .., by rw [hl]; simp, ?_⟩
 rw [Heap.put_put]
 have e : splice c0 (b, 0).2 cx = cx := by
  unfold splice
  rw [List.take_zero, List.nil_append, List.drop_of_length_le (by rw [hl]; simp), List.append_nil]
 rw [e]; exact k
theorem bxT {β : Type} {c : β → List Value} {b : Nat} {m : Bool} {x : β} {K : β → Prop} (h : H b = some (m, .row (c x))) (k : K x) : ldT H c (b, 0) K := ⟨x, QbP h fun j v hj => by rw [Nat.zero_add]; exact hj, k⟩
theorem fS {b j : Nat} {m : Bool} {cs : List Value} {t : Str} {K : Str → Prop} (h : H b = some (m, .row cs)) (hj : cs[j]? = some (sv t)) (k : K t) : ldS H ((b, 0).1, (b, 0).2 + j) K := ⟨t, by rw [Qo h, Nat.zero_add]; exact hj, k⟩
theorem fI {b j : Nat} {m : Bool} {cs : List Value} {q : IntKind} {t : Int} {K : Int → Prop} (h : H b = some (m, .row cs)) (hj : cs[j]? = some (.int q t)) (k : K t) : ldI H q ((b, 0).1, (b, 0).2 + j) K := ⟨t, by rw [Qo h, Nat.zero_add]; exact hj, k⟩
theorem fL {b j : Nat} {m : Bool} {cs : List Value} {t : Sl} {K : Sl → Prop} (h : H b = some (m, .row cs)) (hj : cs[j]? = some (slv t)) (k : K t) : ldL H ((b, 0).1, (b, 0).2 + j) K := ⟨t, by rw [Qo h, Nat.zero_add]; exact hj, k⟩
theorem fT {β : Type} {c : β → List Value} {b j : Nat} {m : Bool} {cs : List Value} {x : β} {K : β → Prop} (h : H b = some (m, .row cs)) (hj : ∀ i v, (c x)[i]? = some v → cs[j + i]? = some v) (k : K x) : ldT H c ((b, 0).1, (b, 0).2 + j) K := ⟨x, QbP h fun i v hi => by rw [Nat.zero_add]; exact hj i v hi, k⟩
end
section
variable {α β : Type} {R : α → β → Prop} {c : β → List Value} {A H : Heap} {s : Sl} {l : List α} {z : Nat} {i j : Nat} {x : Int}
theorem SlIs.fS {K : Str → Prop} (h : SlIs R c A s l) (hle : A.le H) (hz : ∀ x, (c x).length = z) (hz0 : 0 < z) (hx : x = i) (hi : i < l.length) {f : β → Str} (hj : ∀ y, (c y)[j]? = some (sv (f y))) (k : ∀ y, R l[i] y → K (f y)) : ixa s x fun p => ldS H ((p.1, p.2 + x.toNat * z).1, (p.1, p.2 + x.toNat * z).2 + j) K :=
 h.at_ hle hz hz0 hx hi fun p y hy hr => ⟨f y, hr j _ (hj y), k y hy⟩
theorem SlIs.fI {q : IntKind} {K : Int → Prop} (h : SlIs R c A s l) (hle : A.le H) (hz : ∀ x, (c x).length = z) (hz0 : 0 < z) (hx : x = i) (hi : i < l.length) {f : β → Int} (hj : ∀ y, (c y)[j]? = some (.int q (f y))) (k : ∀ y, R l[i] y → K (f y)) : ixa s x fun p => ldI H q ((p.1, p.2 + x.toNat * z).1, (p.1, p.2 + x.toNat * z).2 + j) K :=
 h.at_ hle hz hz0 hx hi fun p y hy hr => ⟨f y, hr j _ (hj y), k y hy⟩
theorem SlIs.fL {K : Sl → Prop} (h : SlIs R c A s l) (hle : A.le H) (hz : ∀ x, (c x).length = z) (hz0 : 0 < z) (hx : x = i) (hi : i < l.length) {f : β → Sl} (hj : ∀ y, (c y)[j]? = some (slv (f y))) (k : ∀ y, R l[i] y → K (f y)) : ixa s x fun p => ldL H ((p.1, p.2 + x.toNat * z).1, (p.1, p.2 + x.toNat * z).2 + j) K :=
 h.at_ hle hz hz0 hx hi fun p y hy hr => ⟨f y, hr j _ (hj y), k y hy⟩
end
theorem n1 {b : Bool} {P Q : Prop} (hb : b = true ↔ ¬P) (h : b = true) : (true = true ↔ ¬(P ∧ Q)) := ⟨fun _ hh => hb.1 h hh.1, fun _ => rfl⟩
theorem n2 {b r : Bool} {P Q : Prop} (hb : b = true ↔ ¬P) (h : b = false) (hr : r = true ↔ ¬Q) : (r = true ↔ ¬(P ∧ Q)) := by
 have hp : P := Classical.byContradiction fun e => by rw [hb.2 e] at h; cases h
 rw [hr]; exact ⟨fun hq hh => hq hh.2, fun hh hq => hh ⟨hp, hq⟩⟩
theorem n3 {b : Bool} {P : Prop} (hb : b = true ↔ ¬P) (h : b = false) : P := Classical.byContradiction fun e => by rw [hb.2 e] at h; cases h
end
section
set_option maxRecDepth 100000
open Go Go.Proofs
structure Qb where
 Rel : Str
 L : Sl
def Qb.c (x : Qb) : List Value := [sv x.Rel, slv x.L]
def Qb.zero : Qb := ⟨[], Sl.nil⟩
structure Qk where
 Kind : Int
 N : Int
 Row : Qb
def Qk.c (x : Qk) : List Value := [.int .u8 x.Kind, .int .i64 x.N, sv x.Row.Rel, slv x.Row.L]
structure Qa where
 Kind : Int
 N : Int
 S : Str
 L : Sl
def Qa.c (x : Qa) : List Value := [.int .u8 x.Kind, .int .i64 x.N, sv x.S, slv x.L]
def Qa.zero : Qa := ⟨0, 0, [], Sl.nil⟩
structure Qc where
 Row : Qb
 N : Int
def Qc.c (x : Qc) : List Value := [sv x.Row.Rel, slv x.Row.L, .int .i64 x.N]
def Qc.zero : Qc := ⟨Qb.zero, 0⟩
structure Q4 where
 rels_ : Option Nat
 done_ : Sl
def Q4.c (x : Q4) : List Value := [mv x.rels_, slv x.done_]
structure Qd where
 rel_ : Str
 key_ : Str
 row_ : Sl
 undo_ : Value
def Qd.c (x : Qd) : List Value := [sv x.rel_, sv x.key_, slv x.row_, x.undo_]
def Qd.zero : Qd := ⟨[], [], Sl.nil, .nilFunc⟩
structure Qg where
 rel_ : Str
 key_ : Str
def Qg.c (x : Qg) : List Value := [sv x.rel_, sv x.key_]
def Qg.zero : Qg := ⟨[], []⟩
structure QV where
 At : Sl
def QV.c (x : QV) : List Value := [slv x.At]
structure Qh7 where
 lo_ : Int
 hi_ : Int
theorem Qin : CallOk Tryz.prog 7 := ⟨⟨_, Tryz.func7, rfl, by decide +kernel⟩⟩
theorem Qe4 : CallOk Tryz.prog 8 := ⟨⟨_, Tryz.func8, rfl, by decide +kernel⟩⟩
theorem QhL : CallOk Tryz.prog 9 := ⟨⟨_, Tryz.func9, rfl, by decide +kernel⟩⟩
theorem Qcc : CallOk Tryz.prog 12 := ⟨⟨_, Tryz.func12, rfl, by decide +kernel⟩⟩
theorem QbO : CallOk Tryz.prog 13 := ⟨⟨_, Tryz.func13, rfl, by decide +kernel⟩⟩
theorem QaX : CallOk Tryz.prog 14 := ⟨⟨_, Tryz.func14, rfl, by decide +kernel⟩⟩
theorem Qet : CallOk Tryz.prog 15 := ⟨⟨_, Tryz.func15, rfl, by decide +kernel⟩⟩
theorem Qd2 : CallOk Tryz.prog 17 := ⟨⟨_, Tryz.func17, rfl, by decide +kernel⟩⟩
theorem QjN : CallOk Tryz.prog 18 := ⟨⟨_, Tryz.func18, rfl, by decide +kernel⟩⟩
theorem Qim : CallOk Tryz.prog 19 := ⟨⟨_, Tryz.func19, rfl, by decide +kernel⟩⟩
theorem QcR : CallOk Tryz.prog 20 := ⟨⟨_, Tryz.func20, rfl, by decide +kernel⟩⟩
theorem Qdl : CallOk Tryz.prog 21 := ⟨⟨_, Tryz.func21, rfl, by decide +kernel⟩⟩
theorem Qcd : CallOk Tryz.prog 22 := ⟨⟨_, Tryz.func22, rfl, by decide +kernel⟩⟩
theorem Qdm : CallOk Tryz.prog 23 := ⟨⟨_, Tryz.func23, rfl, by decide +kernel⟩⟩
theorem QfZ : CallOk Tryz.prog 24 := ⟨⟨_, Tryz.func24, rfl, by decide +kernel⟩⟩
theorem QcE : CallOk Tryz.prog 25 := ⟨⟨_, Tryz.func25, rfl, by decide +kernel⟩⟩
theorem Qdp : CallOk Tryz.prog 26 := ⟨⟨_, Tryz.func26, rfl, by decide +kernel⟩⟩
theorem Qg5 : CallOk Tryz.prog 27 := ⟨⟨_, Tryz.func27, rfl, by decide +kernel⟩⟩
theorem Qeo : CallOk Tryz.prog 28 := ⟨⟨_, Tryz.func28, rfl, by decide +kernel⟩⟩
theorem QT : CallOk Tryz.prog 29 := ⟨⟨_, Tryz.func29, rfl, by decide +kernel⟩⟩
theorem Qbd : CallOk Tryz.prog 30 := ⟨⟨_, Tryz.func30, rfl, by decide +kernel⟩⟩
theorem Qdq : CallOk Tryz.prog 31 := ⟨⟨_, Tryz.func31, rfl, by decide +kernel⟩⟩
theorem QcF : CallOk Tryz.prog 32 := ⟨⟨_, Tryz.func32, rfl, by decide +kernel⟩⟩
theorem QaQ : CallOk Tryz.prog 33 := ⟨⟨_, Tryz.func33, rfl, by decide +kernel⟩⟩
theorem Qfu : CallOk Tryz.prog 34 := ⟨⟨_, Tryz.func34, rfl, by decide +kernel⟩⟩
theorem QdP : CallOk Tryz.prog 35 := ⟨⟨_, Tryz.func35, rfl, by decide +kernel⟩⟩
theorem Qab : CallOk Tryz.prog 36 := ⟨⟨_, Tryz.func36, rfl, by decide +kernel⟩⟩
theorem Qd3 : CallOk Tryz.prog 37 := ⟨⟨_, Tryz.func37, rfl, by decide +kernel⟩⟩
theorem Qfv : CallOk Tryz.prog 38 := ⟨⟨_, Tryz.func38, rfl, by decide +kernel⟩⟩
theorem Qe6 : CallOk Tryz.prog 39 := ⟨⟨_, Tryz.func39, rfl, by decide +kernel⟩⟩
theorem Qgz : CallOk Tryz.prog 40 := ⟨⟨_, Tryz.func40, rfl, by decide +kernel⟩⟩
theorem Qeu : CallOk Tryz.prog 41 := ⟨⟨_, Tryz.func41, rfl, by decide +kernel⟩⟩
theorem Qgy : CallOk Tryz.prog 42 := ⟨⟨_, Tryz.func42, rfl, by decide +kernel⟩⟩
theorem Qbl : CallOk Tryz.prog 43 := ⟨⟨_, Tryz.func43, rfl, by decide +kernel⟩⟩
theorem QaP : CallOk Tryz.prog 44 := ⟨⟨_, Tryz.func44, rfl, by decide +kernel⟩⟩
theorem QcQ : CallOk Tryz.prog 45 := ⟨⟨_, Tryz.func45, rfl, by decide +kernel⟩⟩
theorem Qg8 : CallOk Tryz.prog 46 := ⟨⟨_, Tryz.func46, rfl, by decide +kernel⟩⟩
theorem Qg6 : CallOk Tryz.prog 47 := ⟨⟨_, Tryz.func47, rfl, by decide +kernel⟩⟩
theorem Qgx : CallOk Tryz.prog 48 := ⟨⟨_, Tryz.func48, rfl, by decide +kernel⟩⟩
theorem QfY : CallOk Tryz.prog 49 := ⟨⟨_, Tryz.func49, rfl, by decide +kernel⟩⟩
theorem QbS : CallOk Tryz.prog 50 := ⟨⟨_, Tryz.func50, rfl, by decide +kernel⟩⟩
theorem Qft : CallOk Tryz.prog 51 := ⟨⟨_, Tryz.func51, rfl, by decide +kernel⟩⟩
theorem Qg7 : CallOk Tryz.prog 52 := ⟨⟨_, Tryz.func52, rfl, by decide +kernel⟩⟩
theorem QfX : CallOk Tryz.prog 53 := ⟨⟨_, Tryz.func53, rfl, by decide +kernel⟩⟩
theorem Qp : CallOk Tryz.prog 54 := ⟨⟨_, Tryz.func54, rfl, by decide +kernel⟩⟩
theorem Qa8 : CallOk Tryz.prog 55 := ⟨⟨_, Tryz.func55, rfl, by decide +kernel⟩⟩
theorem Qcq : CallOk Tryz.prog 56 := ⟨⟨_, Tryz.func56, rfl, by decide +kernel⟩⟩
theorem Qb2 : CallOk Tryz.prog 57 := ⟨⟨_, Tryz.func57, rfl, by decide +kernel⟩⟩
theorem Qjb : CallOk Tryz.prog 58 := ⟨⟨_, Tryz.func58, rfl, by decide +kernel⟩⟩
theorem QdR : CallOk Tryz.prog 59 := ⟨⟨_, Tryz.func59, rfl, by decide +kernel⟩⟩
theorem Qbr : CallOk Tryz.prog 60 := ⟨⟨_, Tryz.func60, rfl, by decide +kernel⟩⟩
theorem QcA : CallOk Tryz.prog 63 := ⟨⟨_, Tryz.func63, rfl, by decide +kernel⟩⟩
theorem QgJ : CallOk Tryz.prog 64 := ⟨⟨_, Tryz.func64, rfl, by decide +kernel⟩⟩
theorem Qjd : CallOk Tryz.prog 65 := ⟨⟨_, Tryz.func65, rfl, by decide +kernel⟩⟩
theorem Qf2 : CallOk Tryz.prog 66 := ⟨⟨_, Tryz.func66, rfl, by decide +kernel⟩⟩
theorem Qdf : CallOk Tryz.prog 67 := ⟨⟨_, Tryz.func67, rfl, by decide +kernel⟩⟩
theorem Qjc : CallOk Tryz.prog 68 := ⟨⟨_, Tryz.func68, rfl, by decide +kernel⟩⟩
theorem Qja : CallOk Tryz.prog 69 := ⟨⟨_, Tryz.func69, rfl, by decide +kernel⟩⟩
theorem Qaz : CallOk Tryz.prog 70 := ⟨⟨_, Tryz.func70, rfl, by decide +kernel⟩⟩
theorem QdS : CallOk Tryz.prog 71 := ⟨⟨_, Tryz.func71, rfl, by decide +kernel⟩⟩
theorem QhJ : CallOk Tryz.prog 72 := ⟨⟨_, Tryz.func72, rfl, by decide +kernel⟩⟩
theorem Qio : CallOk Tryz.prog 75 := ⟨⟨_, Tryz.func75, rfl, by decide +kernel⟩⟩
theorem QjM : CallOk Tryz.prog 76 := ⟨⟨_, Tryz.func76, rfl, by decide +kernel⟩⟩
theorem Qa7 : CallOk Tryz.prog 77 := ⟨⟨_, Tryz.func77, rfl, by decide +kernel⟩⟩
theorem QaA : CallOk Tryz.prog 88 := ⟨⟨_, Tryz.func88, rfl, by decide +kernel⟩⟩
theorem Qir : CallOk Tryz.prog 89 := ⟨⟨_, Tryz.func89, rfl, by decide +kernel⟩⟩
theorem QM : CallOk Tryz.prog 90 := ⟨⟨_, Tryz.func90, rfl, by decide +kernel⟩⟩
theorem QhP : CallOk Tryz.prog 91 := ⟨⟨_, Tryz.func91, rfl, by decide +kernel⟩⟩
theorem QgA : CallOk Tryz.prog 92 := ⟨⟨_, Tryz.func92, rfl, by decide +kernel⟩⟩
theorem Qe7 : CallOk Tryz.prog 93 := ⟨⟨_, Tryz.func93, rfl, by decide +kernel⟩⟩
theorem QcS : CallOk Tryz.prog 94 := ⟨⟨_, Tryz.func94, rfl, by decide +kernel⟩⟩
theorem QhM : CallOk Tryz.prog 95 := ⟨⟨_, Tryz.func95, rfl, by decide +kernel⟩⟩
theorem Qj : CallOk Tryz.prog 96 := ⟨⟨_, Tryz.func96, rfl, by decide +kernel⟩⟩
theorem Ql : CallOk Tryz.prog 97 := ⟨⟨_, Tryz.func97, rfl, by decide +kernel⟩⟩
theorem QhN : CallOk Tryz.prog 98 := ⟨⟨_, Tryz.func98, rfl, by decide +kernel⟩⟩
theorem Qer : CallOk Tryz.prog 99 := ⟨⟨_, Tryz.func99, rfl, by decide +kernel⟩⟩
theorem Qe0 : CallOk Tryz.prog 100 := ⟨⟨_, Tryz.func100, rfl, by decide +kernel⟩⟩
theorem Qis : CallOk Tryz.prog 101 := ⟨⟨_, Tryz.func101, rfl, by decide +kernel⟩⟩
theorem Qdd : CallOk Tryz.prog 102 := ⟨⟨_, Tryz.func102, rfl, by decide +kernel⟩⟩
theorem Qeq : CallOk Tryz.prog 103 := ⟨⟨_, Tryz.func103, rfl, by decide +kernel⟩⟩
theorem Qe5 : CallOk Tryz.prog 121 := ⟨⟨_, Tryz.func121, rfl, by decide +kernel⟩⟩
theorem QfW : CallOk Tryz.prog 122 := ⟨⟨_, Tryz.func122, rfl, by decide +kernel⟩⟩
theorem QfV : CallOk Tryz.prog 123 := ⟨⟨_, Tryz.func123, rfl, by decide +kernel⟩⟩
theorem QfU : CallOk Tryz.prog 124 := ⟨⟨_, Tryz.func124, rfl, by decide +kernel⟩⟩
theorem Qdc : CallOk Tryz.prog 125 := ⟨⟨_, Tryz.func125, rfl, by decide +kernel⟩⟩
theorem QaW : CallOk Tryz.prog 131 := ⟨⟨_, Tryz.func131, rfl, by decide +kernel⟩⟩
theorem QeZ : CallOk Tryz.prog 132 := ⟨⟨_, Tryz.func132, rfl, by decide +kernel⟩⟩
theorem Qf0 : CallOk Tryz.prog 133 := ⟨⟨_, Tryz.func133, rfl, by decide +kernel⟩⟩
theorem QeY : CallOk Tryz.prog 134 := ⟨⟨_, Tryz.func134, rfl, by decide +kernel⟩⟩
theorem QhO : CallOk Tryz.prog 135 := ⟨⟨_, Tryz.func135, rfl, by decide +kernel⟩⟩
theorem Qiq : CallOk Tryz.prog 136 := ⟨⟨_, Tryz.func136, rfl, by decide +kernel⟩⟩
theorem Qf1 : CallOk Tryz.prog 137 := ⟨⟨_, Tryz.func137, rfl, by decide +kernel⟩⟩
theorem QaI : CallOk Tryz.prog 138 := ⟨⟨_, Tryz.func138, rfl, by decide +kernel⟩⟩
theorem Qb1 : CallOk Tryz.prog 139 := ⟨⟨_, Tryz.func139, rfl, by decide +kernel⟩⟩
theorem QhI : CallOk Tryz.prog 147 := ⟨⟨_, Tryz.func147, rfl, by decide +kernel⟩⟩
theorem Qip : CallOk Tryz.prog 148 := ⟨⟨_, Tryz.func148, rfl, by decide +kernel⟩⟩
theorem QhH : CallOk Tryz.prog 149 := ⟨⟨_, Tryz.func149, rfl, by decide +kernel⟩⟩
theorem QcP : CallOk Tryz.prog 151 := ⟨⟨_, Tryz.func151, rfl, by decide +kernel⟩⟩
theorem Qcf : CallOk Tryz.prog 152 := ⟨⟨_, Tryz.func152, rfl, by decide +kernel⟩⟩
theorem QfT : CallOk Tryz.prog 153 := ⟨⟨_, Tryz.func153, rfl, by decide +kernel⟩⟩
theorem QcO : CallOk Tryz.prog 154 := ⟨⟨_, Tryz.func154, rfl, by decide +kernel⟩⟩
theorem Qes : CallOk Tryz.prog 155 := ⟨⟨_, Tryz.func155, rfl, by decide +kernel⟩⟩
theorem QhK : CallOk Tryz.prog 156 := ⟨⟨_, Tryz.func156, rfl, by decide +kernel⟩⟩
theorem QcC : CallOk Tryz.prog 157 := ⟨⟨_, Tryz.func157, rfl, by decide +kernel⟩⟩
theorem QdQ : CallOk Tryz.prog 165 := ⟨⟨_, Tryz.func165, rfl, by decide +kernel⟩⟩
theorem Qac : CallOk Tryz.prog 166 := ⟨⟨_, Tryz.func166, rfl, by decide +kernel⟩⟩
theorem Qd1 : CallOk Tryz.prog 167 := ⟨⟨_, Tryz.func167, rfl, by decide +kernel⟩⟩
theorem QbA : CallOk Tryz.prog 168 := ⟨⟨_, Tryz.func168, rfl, by decide +kernel⟩⟩
theorem QdU : CallOk Tryz.prog 169 := ⟨⟨_, Tryz.func169, rfl, by decide +kernel⟩⟩
theorem Qdo : CallOk Tryz.prog 170 := ⟨⟨_, Tryz.func170, rfl, by decide +kernel⟩⟩
theorem QdT : CallOk Tryz.prog 171 := ⟨⟨_, Tryz.func171, rfl, by decide +kernel⟩⟩
theorem Qdn : CallOk Tryz.prog 172 := ⟨⟨_, Tryz.func172, rfl, by decide +kernel⟩⟩
theorem Qde : CallOk Tryz.prog 173 := ⟨⟨_, Tryz.func173, rfl, by decide +kernel⟩⟩
theorem QcM : CallOk Tryz.prog 174 := ⟨⟨_, Tryz.func174, rfl, by decide +kernel⟩⟩
theorem QcD : CallOk Tryz.prog 175 := ⟨⟨_, Tryz.func175, rfl, by decide +kernel⟩⟩
theorem Qcb : CallOk Tryz.prog 176 := ⟨⟨_, Tryz.func176, rfl, by decide +kernel⟩⟩
theorem Qep : CallOk Tryz.prog 181 := ⟨⟨_, Tryz.func181, rfl, by decide +kernel⟩⟩
theorem QaJ : CallOk Tryz.prog 182 := ⟨⟨_, Tryz.func182, rfl, by decide +kernel⟩⟩
theorem Qad : CallOk Tryz.prog 186 := ⟨⟨_, Tryz.func186, rfl, by decide +kernel⟩⟩
theorem QcB : CallOk Tryz.prog 188 := ⟨⟨_, Tryz.func188, rfl, by decide +kernel⟩⟩
theorem QaG : CallOk Tryz.prog 189 := ⟨⟨_, Tryz.func189, rfl, by decide +kernel⟩⟩
theorem Qdb : ExtOk Tryz.prog 158 Extern.AbiNoEscape.same := ⟨⟨_, Tryz.func158, by kernel_rfl, by kernel_rfl, by kernel_rfl, by kernel_rfl⟩⟩
theorem Qbf : ExtOk Tryz.prog 195 Extern.BytealgIndexByte.indexByte := ⟨⟨_, Tryz.func195, by kernel_rfl, by kernel_rfl, by kernel_rfl, by kernel_rfl⟩⟩
abbrev tyB : TypeId := 136
abbrev tyE : TypeId := 5
abbrev Bd (bs : Str) : GO := .bld tyB tyE bs
theorem kOk71 : KOk Tryz.prog 71 kp := kPair (by kernel_rfl)
def Qai (C : Ctx) (p_l : Sl) (K : Bool → Heap → Prop) (H : Heap) : Prop :=
 Spec Tryz.prog C 4 [slv p_l] H (fun v H2 => ∃ (r0 : Bool), v = .bool r0 ∧ K r0 H2)
def QdE (C : Ctx) (p_l : Sl) (K : Bool → Heap → Prop) (H : Heap) : Prop :=
 Spec Tryz.prog C 7 [slv p_l] H (fun v H2 => ∃ (r0 : Bool), v = .bool r0 ∧ K r0 H2)
def Qcn (C : Ctx) (K : Bool → Heap → Prop) (H : Heap) : Prop :=
 Spec Tryz.prog C 8 [] H (fun v H2 => ∃ (r0 : Bool), v = .bool r0 ∧ K r0 H2)
def QeN (C : Ctx) (K : Option (Nat × Nat) → Heap → Prop) (H : Heap) : Prop :=
 Spec Tryz.prog C 9 [] H (fun v H2 => ∃ (r0 : Option (Nat × Nat)), v = pv r0 ∧ K r0 H2)
def QS (C : Ctx) (p_l : Option (Nat × Nat)) (K : Int → Heap → Prop) (H : Heap) : Prop :=
 Spec Tryz.prog C 12 [pv p_l] H (fun v H2 => ∃ (r0 : Int), v = .int .i64 r0 ∧ K r0 H2)
theorem QS.gh {C : Ctx} {p_l : Option (Nat × Nat)} {K : Int → Heap → Prop} {H : Heap} (h : QS C p_l (fun r0 H2 => ∃ H0, Gh C H2 H0 ∧ K r0 H0) H) : QS C p_l K H :=
 Spec.gh (Spec.mono h fun _ H2 ⟨r0, hv, H0, hg, hk⟩ => ⟨H0, hg, r0, hv, hk⟩)
def QW (C : Ctx) (p_l : Option (Nat × Nat)) (p_mark : Int) (K : Sl → Int → Heap → Prop) (H : Heap) : Prop :=
 Spec Tryz.prog C 13 [pv p_l, .int .i64 p_mark] H (fun v H2 => ∃ (r0 : Sl) (r1 : Int), v = .tuple #[slv r0, .int .i64 r1] ∧ K r0 r1 H2)
def QE (C : Ctx) (p_l : Option (Nat × Nat)) (p_r : Qb) (K : Bool → Int → Heap → Prop) (H : Heap) : Prop :=
 Spec Tryz.prog C 14 [pv p_l, .agg (Qb.c p_r).toArray] H (fun v H2 => ∃ (r0 : Bool) (r1 : Int), v = .tuple #[.bool r0, .int .i64 r1] ∧ K r0 r1 H2)
def QaC (C : Ctx) (p_l : Option (Nat × Nat)) (p_r : Qb) (K : Bool → Int → Heap → Prop) (H : Heap) : Prop :=
 Spec Tryz.prog C 15 [pv p_l, .agg (Qb.c p_r).toArray] H (fun v H2 => ∃ (r0 : Bool) (r1 : Int), v = .tuple #[.bool r0, .int .i64 r1] ∧ K r0 r1 H2)
def QaU (C : Ctx) (p_l : Option (Nat × Nat)) (p_mark : Int) (K : Int → Heap → Prop) (H : Heap) : Prop :=
 Spec Tryz.prog C 17 [pv p_l, .int .i64 p_mark] H (fun v H2 => ∃ (r0 : Int), v = .int .i64 r0 ∧ K r0 H2)
def Qfp (C : Ctx) (K : Option (Nat × Nat) → Heap → Prop) (H : Heap) : Prop :=
 Spec Tryz.prog C 18 [] H (fun v H2 => ∃ (r0 : Option (Nat × Nat)), v = pv r0 ∧ K r0 H2)
def QdD (C : Ctx) (p_o : Qk) (p_l : Option (Nat × Nat)) (p_x : Option (Nat × Nat)) (K : Bool → Heap → Prop) (H : Heap) : Prop :=
 Spec Tryz.prog C 19 [.agg (Qk.c p_o).toArray, pv p_l, pv p_x] H (fun v H2 => ∃ (r0 : Bool), v = .bool r0 ∧ K r0 H2)
def Qa4 (C : Ctx) (p_l : Option (Nat × Nat)) (K : Sl → Heap → Prop) (H : Heap) : Prop :=
 Spec Tryz.prog C 20 [pv p_l] H (fun v H2 => ∃ (r0 : Sl), v = slv r0 ∧ K r0 H2)
def Qax (C : Ctx) (p_a : Sl) (p_b : Sl) (K : Bool → Heap → Prop) (H : Heap) : Prop :=
 Spec Tryz.prog C 21 [slv p_a, slv p_b] H (fun v H2 => ∃ (r0 : Bool), v = .bool r0 ∧ K r0 H2)
def Qak (C : Ctx) (p_l : Option (Nat × Nat)) (p_rel : Str) (K : Sl → Heap → Prop) (H : Heap) : Prop :=
 Spec Tryz.prog C 22 [pv p_l, sv p_rel] H (fun v H2 => ∃ (r0 : Sl), v = slv r0 ∧ K r0 H2)
def Qay (C : Ctx) (p_l : Option (Nat × Nat)) (p_rel : Str) (K : Sl → Heap → Prop) (H : Heap) : Prop :=
 Spec Tryz.prog C 23 [pv p_l, sv p_rel] H (fun v H2 => ∃ (r0 : Sl), v = slv r0 ∧ K r0 H2)
def Qa6 (C : Ctx) (p_l : Option (Nat × Nat)) (K : Heap → Prop) (H : Heap) : Prop :=
 Spec Tryz.prog C 24 [pv p_l] H (fun v H2 => v = .tuple #[] ∧ K H2)
def Qah (C : Ctx) (p_l : Option (Nat × Nat)) (p_r : Qb) (K : Bool → Heap → Prop) (H : Heap) : Prop :=
 Spec Tryz.prog C 25 [pv p_l, .agg (Qb.c p_r).toArray] H (fun v H2 => ∃ (r0 : Bool), v = .bool r0 ∧ K r0 H2)
def Qbj (C : Ctx) (p_l : Option (Nat × Nat)) (K : Sl → Heap → Prop) (H : Heap) : Prop :=
 Spec Tryz.prog C 26 [pv p_l] H (fun v H2 => ∃ (r0 : Sl), v = slv r0 ∧ K r0 H2)
def Qcw (C : Ctx) (p_a : Sl) (p_b : Sl) (K : Int → Heap → Prop) (H : Heap) : Prop :=
 Spec Tryz.prog C 27 [slv p_a, slv p_b] H (fun v H2 => ∃ (r0 : Int), v = .int .i64 r0 ∧ K r0 H2)
def QQ (C : Ctx) (p_v : Qa) (p_most : Int) (K : Int → Heap → Prop) (H : Heap) : Prop :=
 Spec Tryz.prog C 28 [.agg (Qa.c p_v).toArray, .int .i64 p_most] H (fun v H2 => ∃ (r0 : Int), v = .int .i64 r0 ∧ K r0 H2)
theorem QQ.gh {C : Ctx} {p_v : Qa} {p_most : Int} {K : Int → Heap → Prop} {H : Heap} (h : QQ C p_v p_most (fun r0 H2 => ∃ H0, Gh C H2 H0 ∧ K r0 H0) H) : QQ C p_v p_most K H :=
 Spec.gh (Spec.mono h fun _ H2 ⟨r0, hv, H0, hg, hk⟩ => ⟨H0, hg, r0, hv, hk⟩)
def QN (C : Ctx) (p_rel : Str) (p_n : Int) (K : Qb → Heap → Prop) (H : Heap) : Prop :=
 Spec Tryz.prog C 29 [sv p_rel, .int .i64 p_n] H (fun v H2 => ∃ (r0 : Qb), v = .agg (Qb.c r0).toArray ∧ K r0 H2)
def QO (C : Ctx) (p_a : Sl) (p_b : Sl) (K : Bool → Heap → Prop) (H : Heap) : Prop :=
 Spec Tryz.prog C 30 [slv p_a, slv p_b] H (fun v H2 => ∃ (r0 : Bool), v = .bool r0 ∧ K r0 H2)
def Qbk (C : Ctx) (p_l : Option (Nat × Nat)) (p_mark : Int) (K : Int → Heap → Prop) (H : Heap) : Prop :=
 Spec Tryz.prog C 31 [pv p_l, .int .i64 p_mark] H (fun v H2 => ∃ (r0 : Int), v = .int .i64 r0 ∧ K r0 H2)
def QaD (C : Ctx) (p_l : Sl) (K : Sl → Heap → Prop) (H : Heap) : Prop :=
 Spec Tryz.prog C 32 [slv p_l] H (fun v H2 => ∃ (r0 : Sl), v = slv r0 ∧ K r0 H2)
def QR (C : Ctx) (p_x : Sl) (p_cmp : Value) (K : Heap → Prop) (H : Heap) : Prop :=
 Spec Tryz.prog C 33 [slv p_x, p_cmp] H (fun v H2 => v = .tuple #[] ∧ K H2)
def QbI (C : Ctx) (p_a : Qc) (p_b : Qc) (K : Int → Heap → Prop) (H : Heap) : Prop :=
 Spec Tryz.prog C 34 [.agg (Qc.c p_a).toArray, .agg (Qc.c p_b).toArray] H (fun v H2 => ∃ (r0 : Int), v = .int .i64 r0 ∧ K r0 H2)
def Qbu (C : Ctx) (p_vals : Sl) (K : Int → Heap → Prop) (H : Heap) : Prop :=
 Spec Tryz.prog C 35 [slv p_vals] H (fun v H2 => ∃ (r0 : Int), v = .int .i64 r0 ∧ K r0 H2)
def QA (C : Ctx) (p_x : Str) (p_y : Str) (K : Int → Heap → Prop) (H : Heap) : Prop :=
 Spec Tryz.prog C 36 [sv p_x, sv p_y] H (fun v H2 => ∃ (r0 : Int), v = .int .i64 r0 ∧ K r0 H2)
def QbJ (C : Ctx) (p_a : Sl) (p_b : Sl) (K : Int → Heap → Prop) (H : Heap) : Prop :=
 Spec Tryz.prog C 37 [slv p_a, slv p_b] H (fun v H2 => ∃ (r0 : Int), v = .int .i64 r0 ∧ K r0 H2)
def Qdj (C : Ctx) (p_l : Sl) (K : Str → Bool → Heap → Prop) (H : Heap) : Prop :=
 Spec Tryz.prog C 38 [slv p_l] H (fun v H2 => ∃ (r0 : Str) (r1 : Bool), v = .tuple #[sv r0, .bool r1] ∧ K r0 r1 H2)
def Qco (C : Ctx) (p_l : Option (Nat × Nat)) (p_rel : Str) (p_key : Str) (p_r : Sl) (K : Heap → Prop) (H : Heap) : Prop :=
 Spec Tryz.prog C 39 [pv p_l, sv p_rel, sv p_key, slv p_r] H (fun v H2 => v = .tuple #[] ∧ K H2)
def Qca (C : Ctx) (v0 : Nat × Nat) (v1 : Nat × Nat) (v2 : Nat × Nat) (K : Heap → Prop) (H : Heap) : Prop :=
 Spec Tryz.prog C 40 [pv (some v0), pv (some v1), pv (some v2)] H (fun v H2 => v = .tuple #[] ∧ K H2)
def QbR (C : Ctx) (p_l : Option (Nat × Nat)) (p_rel : Str) (p_key : Str) (K : Heap → Prop) (H : Heap) : Prop :=
 Spec Tryz.prog C 41 [pv p_l, sv p_rel, sv p_key] H (fun v H2 => v = .tuple #[] ∧ K H2)
def Qb9 (C : Ctx) (v0 : Nat × Nat) (v1 : Nat × Nat) (v2 : Nat × Nat) (v3 : Nat × Nat) (K : Heap → Prop) (H : Heap) : Prop :=
 Spec Tryz.prog C 42 [pv (some v0), pv (some v1), pv (some v2), pv (some v3)] H (fun v H2 => v = .tuple #[] ∧ K H2)
def Q1 (C : Ctx) (p_a : Sl) (p_b : Sl) (K : Bool → Heap → Prop) (H : Heap) : Prop :=
 Spec Tryz.prog C 43 [slv p_a, slv p_b] H (fun v H2 => ∃ (r0 : Bool), v = .bool r0 ∧ K r0 H2)
def Qn (C : Ctx) (p_s : Sl) (K : Value → Heap → Prop) (H : Heap) : Prop :=
 Spec Tryz.prog C 44 [slv p_s] H (fun v H2 => ∃ (r0 : Value), v = r0 ∧ K r0 H2)
theorem Qn.gh {C : Ctx} {p_s : Sl} {K : Value → Heap → Prop} {H : Heap} (h : Qn C p_s (fun r0 H2 => ∃ H0, Gh C H2 H0 ∧ K r0 H0) H) : Qn C p_s K H :=
 Spec.gh (Spec.mono h fun _ H2 ⟨r0, hv, H0, hg, hk⟩ => ⟨H0, hg, r0, hv, hk⟩)
def QaS (C : Ctx) (p_l : Sl) (K : Sl → Heap → Prop) (H : Heap) : Prop :=
 Spec Tryz.prog C 45 [slv p_l] H (fun v H2 => ∃ (r0 : Sl), v = slv r0 ∧ K r0 H2)
def QbH (C : Ctx) (p_l : Option (Nat × Nat)) (p_r : Qb) (K : Bool → Int → Heap → Prop) (H : Heap) : Prop :=
 Spec Tryz.prog C 46 [pv p_l, .agg (Qb.c p_r).toArray] H (fun v H2 => ∃ (r0 : Bool) (r1 : Int), v = .tuple #[.bool r0, .int .i64 r1] ∧ K r0 r1 H2)
def QbF (C : Ctx) (p_l : Option (Nat × Nat)) (p_r : Qb) (K : Bool → Int → Heap → Prop) (H : Heap) : Prop :=
 Spec Tryz.prog C 47 [pv p_l, .agg (Qb.c p_r).toArray] H (fun v H2 => ∃ (r0 : Bool) (r1 : Int), v = .tuple #[.bool r0, .int .i64 r1] ∧ K r0 r1 H2)
def Qbi (C : Ctx) (p_l : Option (Nat × Nat)) (p_mark : Int) (K : Int → Heap → Prop) (H : Heap) : Prop :=
 Spec Tryz.prog C 48 [pv p_l, .int .i64 p_mark] H (fun v H2 => ∃ (r0 : Int), v = .int .i64 r0 ∧ K r0 H2)
def Qa5 (C : Ctx) (p_l : Option (Nat × Nat)) (p_mark : Int) (K : Sl → Int → Heap → Prop) (H : Heap) : Prop :=
 Spec Tryz.prog C 49 [pv p_l, .int .i64 p_mark] H (fun v H2 => ∃ (r0 : Sl) (r1 : Int), v = .tuple #[slv r0, .int .i64 r1] ∧ K r0 r1 H2)
def QF (C : Ctx) (p_l : Sl) (K : Heap → Prop) (H : Heap) : Prop :=
 Spec Tryz.prog C 50 [slv p_l] H (fun v H2 => v = .tuple #[] ∧ K H2)
def QaH (C : Ctx) (p_l : Option (Nat × Nat)) (K : Heap → Prop) (H : Heap) : Prop :=
 Spec Tryz.prog C 51 [pv p_l] H (fun v H2 => v = .tuple #[] ∧ K H2)
def QbG (C : Ctx) (p_l : Option (Nat × Nat)) (p_r : Qb) (K : Bool → Heap → Prop) (H : Heap) : Prop :=
 Spec Tryz.prog C 52 [pv p_l, .agg (Qb.c p_r).toArray] H (fun v H2 => ∃ (r0 : Bool), v = .bool r0 ∧ K r0 H2)
def QbN (C : Ctx) (p_a : Sl) (p_b : Sl) (K : Bool → Heap → Prop) (H : Heap) : Prop :=
 Spec Tryz.prog C 53 [slv p_a, slv p_b] H (fun v H2 => ∃ (r0 : Bool), v = .bool r0 ∧ K r0 H2)
def Qm (C : Ctx) (p_l : Option (Nat × Nat)) (K : Sl → Heap → Prop) (H : Heap) : Prop :=
 Spec Tryz.prog C 54 [pv p_l] H (fun v H2 => ∃ (r0 : Sl), v = slv r0 ∧ K r0 H2)
def QB (C : Ctx) (p_x : Sl) (p_cmp : Value) (K : Heap → Prop) (H : Heap) : Prop :=
 Spec Tryz.prog C 55 [slv p_x, p_cmp] H (fun v H2 => v = .tuple #[] ∧ K H2)
def QaT (C : Ctx) (p_x : Sl) (K : Heap → Prop) (H : Heap) : Prop :=
 Spec Tryz.prog C 56 [slv p_x] H (fun v H2 => v = .tuple #[] ∧ K H2)
def Qbp (C : Ctx) (p_l : Sl) (K : Bool → Heap → Prop) (H : Heap) : Prop :=
 Spec Tryz.prog C 57 [slv p_l] H (fun v H2 => ∃ (r0 : Bool), v = .bool r0 ∧ K r0 H2)
def Qej (C : Ctx) (p_a : Bool) (p_b : Bool) (K : Int → Heap → Prop) (H : Heap) : Prop :=
 Spec Tryz.prog C 58 [.bool p_a, .bool p_b] H (fun v H2 => ∃ (r0 : Int), v = .int .i64 r0 ∧ K r0 H2)
def Qbv (C : Ctx) (p_a : Sl) (p_b : Sl) (K : Int → Heap → Prop) (H : Heap) : Prop :=
 Spec Tryz.prog C 59 [slv p_a, slv p_b] H (fun v H2 => ∃ (r0 : Int), v = .int .i64 r0 ∧ K r0 H2)
def QD (C : Ctx) (p_s : Sl) (K : Sl → Heap → Prop) (H : Heap) : Prop :=
 Spec Tryz.prog C 60 [slv p_s] H (fun v H2 => ∃ (r0 : Sl), v = slv r0 ∧ K r0 H2)
def Q5 (C : Ctx) (p_x : Str) (K : Bool → Heap → Prop) (H : Heap) : Prop :=
 Spec Tryz.prog C 63 [sv p_x] H (fun v H2 => ∃ (r0 : Bool), v = .bool r0 ∧ K r0 H2)
def QdI (C : Ctx) (p_l : Sl) (K : Bool → Heap → Prop) (H : Heap) : Prop :=
 Spec Tryz.prog C 64 [slv p_l] H (fun v H2 => ∃ (r0 : Bool), v = .bool r0 ∧ K r0 H2)
def Qek (C : Ctx) (p_a : Bool) (p_b : Bool) (K : Int → Heap → Prop) (H : Heap) : Prop :=
 Spec Tryz.prog C 65 [.bool p_a, .bool p_b] H (fun v H2 => ∃ (r0 : Int), v = .int .i64 r0 ∧ K r0 H2)
def QbZ (C : Ctx) (p_a : Sl) (p_b : Sl) (K : Int → Heap → Prop) (H : Heap) : Prop :=
 Spec Tryz.prog C 66 [slv p_a, slv p_b] H (fun v H2 => ∃ (r0 : Int), v = .int .i64 r0 ∧ K r0 H2)
def QZ (C : Ctx) (p_v : Qa) (K : Int → Heap → Prop) (H : Heap) : Prop :=
 Spec Tryz.prog C 67 [.agg (Qa.c p_v).toArray] H (fun v H2 => ∃ (r0 : Int), v = .int .i64 r0 ∧ K r0 H2)
theorem QZ.gh {C : Ctx} {p_v : Qa} {K : Int → Heap → Prop} {H : Heap} (h : QZ C p_v (fun r0 H2 => ∃ H0, Gh C H2 H0 ∧ K r0 H0) H) : QZ C p_v K H :=
 Spec.gh (Spec.mono h fun _ H2 ⟨r0, hv, H0, hg, hk⟩ => ⟨H0, hg, r0, hv, hk⟩)
def Qbw (C : Ctx) (p_v : Qa) (K : Str → Heap → Prop) (H : Heap) : Prop :=
 Spec Tryz.prog C 68 [.agg (Qa.c p_v).toArray] H (fun v H2 => ∃ (r0 : Str), v = sv r0 ∧ K r0 H2)
theorem Qbw.gh {C : Ctx} {p_v : Qa} {K : Str → Heap → Prop} {H : Heap} (h : Qbw C p_v (fun r0 H2 => ∃ H0, Gh C H2 H0 ∧ K r0 H0) H) : Qbw C p_v K H :=
 Spec.gh (Spec.mono h fun _ H2 ⟨r0, hv, H0, hg, hk⟩ => ⟨H0, hg, r0, hv, hk⟩)
def Q7 (C : Ctx) (p_a : Qa) (p_b : Qa) (K : Bool → Heap → Prop) (H : Heap) : Prop :=
 Spec Tryz.prog C 69 [.agg (Qa.c p_a).toArray, .agg (Qa.c p_b).toArray] H (fun v H2 => ∃ (r0 : Bool), v = .bool r0 ∧ K r0 H2)
theorem Q7.gh {C : Ctx} {p_a : Qa} {p_b : Qa} {K : Bool → Heap → Prop} {H : Heap} (h : Q7 C p_a p_b (fun r0 H2 => ∃ H0, Gh C H2 H0 ∧ K r0 H0) H) : Q7 C p_a p_b K H :=
 Spec.gh (Spec.mono h fun _ H2 ⟨r0, hv, H0, hg, hk⟩ => ⟨H0, hg, r0, hv, hk⟩)
def QaF (C : Ctx) (p_yield : Value) (v0 : Nat × Nat) (K : Heap → Prop) (H : Heap) : Prop :=
 Spec Tryz.prog C 70 [p_yield, pv (some v0)] H (fun v H2 => v = .tuple #[] ∧ K H2)
def QbY (C : Ctx) (p_l : Sl) (p_r : Qb) (K : Int → Bool → Heap → Prop) (H : Heap) : Prop :=
 Spec Tryz.prog C 71 [slv p_l, .agg (Qb.c p_r).toArray] H (fun v H2 => ∃ (r0 : Int) (r1 : Bool), v = .tuple #[.int .i64 r0, .bool r1] ∧ K r0 r1 H2)
def Qc7 (C : Ctx) (p_a : Sl) (p_b : Sl) (K : Sl → Heap → Prop) (H : Heap) : Prop :=
 Spec Tryz.prog C 72 [slv p_a, slv p_b] H (fun v H2 => ∃ (r0 : Sl), v = slv r0 ∧ K r0 H2)
def Qao (C : Ctx) (p_v : Qa) (K : Int → Heap → Prop) (H : Heap) : Prop :=
 Spec Tryz.prog C 75 [.agg (Qa.c p_v).toArray] H (fun v H2 => ∃ (r0 : Int), v = .int .i64 r0 ∧ K r0 H2)
theorem Qao.gh {C : Ctx} {p_v : Qa} {K : Int → Heap → Prop} {H : Heap} (h : Qao C p_v (fun r0 H2 => ∃ H0, Gh C H2 H0 ∧ K r0 H0) H) : Qao C p_v K H :=
 Spec.gh (Spec.mono h fun _ H2 ⟨r0, hv, H0, hg, hk⟩ => ⟨H0, hg, r0, hv, hk⟩)
def Qap (C : Ctx) (p_a : Qa) (p_b : Qa) (K : Int → Heap → Prop) (H : Heap) : Prop :=
 Spec Tryz.prog C 76 [.agg (Qa.c p_a).toArray, .agg (Qa.c p_b).toArray] H (fun v H2 => ∃ (r0 : Int), v = .int .i64 r0 ∧ K r0 H2)
theorem Qap.gh {C : Ctx} {p_a : Qa} {p_b : Qa} {K : Int → Heap → Prop} {H : Heap} (h : Qap C p_a p_b (fun r0 H2 => ∃ H0, Gh C H2 H0 ∧ K r0 H0) H) : Qap C p_a p_b K H :=
 Spec.gh (Spec.mono h fun _ H2 ⟨r0, hv, H0, hg, hk⟩ => ⟨H0, hg, r0, hv, hk⟩)
def Qal (C : Ctx) (p_a : Int) (p_b : Int) (K : Int → Heap → Prop) (H : Heap) : Prop :=
 Spec Tryz.prog C 77 [.int .i64 p_a, .int .i64 p_b] H (fun v H2 => ∃ (r0 : Int), v = .int .i64 r0 ∧ K r0 H2)
def Qt (C : Ctx) (p_s : Sl) (p_f : Value) (K : Bool → Heap → Prop) (H : Heap) : Prop :=
 Spec Tryz.prog C 88 [slv p_s, p_f] H (fun v H2 => ∃ (r0 : Bool), v = .bool r0 ∧ K r0 H2)
def Qas (C : Ctx) (p_v : Qa) (K : Bool → Heap → Prop) (H : Heap) : Prop :=
 Spec Tryz.prog C 89 [.agg (Qa.c p_v).toArray] H (fun v H2 => ∃ (r0 : Bool), v = .bool r0 ∧ K r0 H2)
theorem Qas.gh {C : Ctx} {p_v : Qa} {K : Bool → Heap → Prop} {H : Heap} (h : Qas C p_v (fun r0 H2 => ∃ H0, Gh C H2 H0 ∧ K r0 H0) H) : Qas C p_v K H :=
 Spec.gh (Spec.mono h fun _ H2 ⟨r0, hv, H0, hg, hk⟩ => ⟨H0, hg, r0, hv, hk⟩)
def Qe (C : Ctx) (p_s1 : Sl) (p_s2 : Sl) (p_cmp : Value) (K : Int → Heap → Prop) (H : Heap) : Prop :=
 Spec Tryz.prog C 90 [slv p_s1, slv p_s2, p_cmp] H (fun v H2 => ∃ (r0 : Int), v = .int .i64 r0 ∧ K r0 H2)
theorem Qe.gh {C : Ctx} {p_s1 : Sl} {p_s2 : Sl} {p_cmp : Value} {K : Int → Heap → Prop} {H : Heap} (h : Qe C p_s1 p_s2 p_cmp (fun r0 H2 => ∃ H0, Gh C H2 H0 ∧ K r0 H0) H) : Qe C p_s1 p_s2 p_cmp K H :=
 Spec.gh (Spec.mono h fun _ H2 ⟨r0, hv, H0, hg, hk⟩ => ⟨H0, hg, r0, hv, hk⟩)
def QaE (C : Ctx) (p_x : Qa) (p_y : Qa) (K : Int → Heap → Prop) (H : Heap) : Prop :=
 Spec Tryz.prog C 91 [.agg (Qa.c p_x).toArray, .agg (Qa.c p_y).toArray] H (fun v H2 => ∃ (r0 : Int), v = .int .i64 r0 ∧ K r0 H2)
theorem QaE.gh {C : Ctx} {p_x : Qa} {p_y : Qa} {K : Int → Heap → Prop} {H : Heap} (h : QaE C p_x p_y (fun r0 H2 => ∃ H0, Gh C H2 H0 ∧ K r0 H0) H) : QaE C p_x p_y K H :=
 Spec.gh (Spec.mono h fun _ H2 ⟨r0, hv, H0, hg, hk⟩ => ⟨H0, hg, r0, hv, hk⟩)
def QC (C : Ctx) (p_v : Qa) (p_w : Qa) (K : Int → Heap → Prop) (H : Heap) : Prop :=
 Spec Tryz.prog C 92 [.agg (Qa.c p_v).toArray, .agg (Qa.c p_w).toArray] H (fun v H2 => ∃ (r0 : Int), v = .int .i64 r0 ∧ K r0 H2)
theorem QC.gh {C : Ctx} {p_v : Qa} {p_w : Qa} {K : Int → Heap → Prop} {H : Heap} (h : QC C p_v p_w (fun r0 H2 => ∃ H0, Gh C H2 H0 ∧ K r0 H0) H) : QC C p_v p_w K H :=
 Spec.gh (Spec.mono h fun _ H2 ⟨r0, hv, H0, hg, hk⟩ => ⟨H0, hg, r0, hv, hk⟩)
def Q0 (C : Ctx) (p_v : Qa) (p_most : Int) (K : Int → Heap → Prop) (H : Heap) : Prop :=
 Spec Tryz.prog C 93 [.agg (Qa.c p_v).toArray, .int .i64 p_most] H (fun v H2 => ∃ (r0 : Int), v = .int .i64 r0 ∧ K r0 H2)
theorem Q0.gh {C : Ctx} {p_v : Qa} {p_most : Int} {K : Int → Heap → Prop} {H : Heap} (h : Q0 C p_v p_most (fun r0 H2 => ∃ H0, Gh C H2 H0 ∧ K r0 H0) H) : Q0 C p_v p_most K H :=
 Spec.gh (Spec.mono h fun _ H2 ⟨r0, hv, H0, hg, hk⟩ => ⟨H0, hg, r0, hv, hk⟩)
def Qx (C : Ctx) (p_v : Qa) (K : Bool → Bool → Heap → Prop) (H : Heap) : Prop :=
 Spec Tryz.prog C 94 [.agg (Qa.c p_v).toArray] H (fun v H2 => ∃ (r0 : Bool) (r1 : Bool), v = .tuple #[.bool r0, .bool r1] ∧ K r0 r1 H2)
theorem Qx.gh {C : Ctx} {p_v : Qa} {K : Bool → Bool → Heap → Prop} {H : Heap} (h : Qx C p_v (fun r0 r1 H2 => ∃ H0, Gh C H2 H0 ∧ K r0 r1 H0) H) : Qx C p_v K H :=
 Spec.gh (Spec.mono h fun _ H2 ⟨r0, r1, hv, H0, hg, hk⟩ => ⟨H0, hg, r0, r1, hv, hk⟩)
def Qc9 (C : Ctx) (p_l : Sl) (v0 : Nat × Nat) (v1 : Nat × Nat) (K : Heap → Prop) (H : Heap) : Prop :=
 Spec Tryz.prog C 95 [slv p_l, pv (some v0), pv (some v1)] H (fun v H2 => v = .tuple #[] ∧ K H2)
def Qf (C : Ctx) (p_b : Option (Nat × Nat)) (p_c : Int) (K : Value → Heap → Prop) (H : Heap) : Prop :=
 Spec Tryz.prog C 96 [pv p_b, .int .u8 p_c] H (fun v H2 => ∃ (r0 : Value), v = r0 ∧ K r0 H2)
theorem Qf.gh {C : Ctx} {p_b : Option (Nat × Nat)} {p_c : Int} {K : Value → Heap → Prop} {H : Heap} (h : Qf C p_b p_c (fun r0 H2 => ∃ H0, Gh C H2 H0 ∧ K r0 H0) H) : Qf C p_b p_c K H :=
 Spec.gh (Spec.mono h fun _ H2 ⟨r0, hv, H0, hg, hk⟩ => ⟨H0, hg, r0, hv, hk⟩)
def Qh (C : Ctx) (p_b : Option (Nat × Nat)) (p_s : Str) (K : Int → Value → Heap → Prop) (H : Heap) : Prop :=
 Spec Tryz.prog C 97 [pv p_b, sv p_s] H (fun v H2 => ∃ (r0 : Int) (r1 : Value), v = .tuple #[.int .i64 r0, r1] ∧ K r0 r1 H2)
theorem Qh.gh {C : Ctx} {p_b : Option (Nat × Nat)} {p_s : Str} {K : Int → Value → Heap → Prop} {H : Heap} (h : Qh C p_b p_s (fun r0 r1 H2 => ∃ H0, Gh C H2 H0 ∧ K r0 r1 H0) H) : Qh C p_b p_s K H :=
 Spec.gh (Spec.mono h fun _ H2 ⟨r0, r1, hv, H0, hg, hk⟩ => ⟨H0, hg, r0, r1, hv, hk⟩)
def Qbe (C : Ctx) (p_v : Qa) (v0 : Nat × Nat) (v1 : Nat × Nat) (K : Heap → Prop) (H : Heap) : Prop :=
 Spec Tryz.prog C 98 [.agg (Qa.c p_v).toArray, pv (some v0), pv (some v1)] H (fun v H2 => v = .tuple #[] ∧ K H2)
def Qbb (C : Ctx) (p_b : Bool) (K : Str → Heap → Prop) (H : Heap) : Prop :=
 Spec Tryz.prog C 99 [.bool p_b] H (fun v H2 => ∃ (r0 : Str), v = sv r0 ∧ K r0 H2)
def Qcy (C : Ctx) (p_i : Int) (p_base : Int) (K : Str → Heap → Prop) (H : Heap) : Prop :=
 Spec Tryz.prog C 100 [.int .i64 p_i, .int .i64 p_base] H (fun v H2 => ∃ (r0 : Str), v = sv r0 ∧ K r0 H2)
def QdJ (C : Ctx) (p_b : Option (Nat × Nat)) (p_s : Str) (K : Heap → Prop) (H : Heap) : Prop :=
 Spec Tryz.prog C 101 [pv p_b, sv p_s] H (fun v H2 => v = .tuple #[] ∧ K H2)
def Qr (C : Ctx) (p_b : Option (Nat × Nat)) (K : Str → Heap → Prop) (H : Heap) : Prop :=
 Spec Tryz.prog C 102 [pv p_b] H (fun v H2 => ∃ (r0 : Str), v = sv r0 ∧ K r0 H2)
theorem Qr.gh {C : Ctx} {p_b : Option (Nat × Nat)} {K : Str → Heap → Prop} {H : Heap} (h : Qr C p_b (fun r0 H2 => ∃ H0, Gh C H2 H0 ∧ K r0 H0) H) : Qr C p_b K H :=
 Spec.gh (Spec.mono h fun _ H2 ⟨r0, hv, H0, hg, hk⟩ => ⟨H0, hg, r0, hv, hk⟩)
def Qcx (C : Ctx) (p_a : Qb) (p_b : Qb) (K : Int → Heap → Prop) (H : Heap) : Prop :=
 Spec Tryz.prog C 103 [.agg (Qb.c p_a).toArray, .agg (Qb.c p_b).toArray] H (fun v H2 => ∃ (r0 : Int), v = .int .i64 r0 ∧ K r0 H2)
def QY (C : Ctx) (p_v : Qa) (K : Int → Heap → Prop) (H : Heap) : Prop :=
 Spec Tryz.prog C 121 [.agg (Qa.c p_v).toArray] H (fun v H2 => ∃ (r0 : Int), v = .int .i64 r0 ∧ K r0 H2)
theorem QY.gh {C : Ctx} {p_v : Qa} {K : Int → Heap → Prop} {H : Heap} (h : QY C p_v (fun r0 H2 => ∃ H0, Gh C H2 H0 ∧ K r0 H0) H) : QY C p_v K H :=
 Spec.gh (Spec.mono h fun _ H2 ⟨r0, hv, H0, hg, hk⟩ => ⟨H0, hg, r0, hv, hk⟩)
def Q9 (C : Ctx) (p_v : Qa) (K : Bool → Heap → Prop) (H : Heap) : Prop :=
 Spec Tryz.prog C 122 [.agg (Qa.c p_v).toArray] H (fun v H2 => ∃ (r0 : Bool), v = .bool r0 ∧ K r0 H2)
theorem Q9.gh {C : Ctx} {p_v : Qa} {K : Bool → Heap → Prop} {H : Heap} (h : Q9 C p_v (fun r0 H2 => ∃ H0, Gh C H2 H0 ∧ K r0 H0) H) : Q9 C p_v K H :=
 Spec.gh (Spec.mono h fun _ H2 ⟨r0, hv, H0, hg, hk⟩ => ⟨H0, hg, r0, hv, hk⟩)
def Q8 (C : Ctx) (p_v : Qa) (K : Bool → Heap → Prop) (H : Heap) : Prop :=
 Spec Tryz.prog C 123 [.agg (Qa.c p_v).toArray] H (fun v H2 => ∃ (r0 : Bool), v = .bool r0 ∧ K r0 H2)
theorem Q8.gh {C : Ctx} {p_v : Qa} {K : Bool → Heap → Prop} {H : Heap} (h : Q8 C p_v (fun r0 H2 => ∃ H0, Gh C H2 H0 ∧ K r0 H0) H) : Q8 C p_v K H :=
 Spec.gh (Spec.mono h fun _ H2 ⟨r0, hv, H0, hg, hk⟩ => ⟨H0, hg, r0, hv, hk⟩)
def QbW (C : Ctx) (p_a : Str) (p_b : Str) (K : Int → Heap → Prop) (H : Heap) : Prop :=
 Spec Tryz.prog C 124 [sv p_a, sv p_b] H (fun v H2 => ∃ (r0 : Int), v = .int .i64 r0 ∧ K r0 H2)
def QbE (C : Ctx) (p_a : Str) (p_b : Str) (K : Int → Heap → Prop) (H : Heap) : Prop :=
 Spec Tryz.prog C 125 [sv p_a, sv p_b] H (fun v H2 => ∃ (r0 : Int), v = .int .i64 r0 ∧ K r0 H2)
def Qw (C : Ctx) (p_s : Sl) (p_f : Value) (K : Int → Heap → Prop) (H : Heap) : Prop :=
 Spec Tryz.prog C 131 [slv p_s, p_f] H (fun v H2 => ∃ (r0 : Int), v = .int .i64 r0 ∧ K r0 H2)
def Qbo (C : Ctx) (p_x : Int) (p_y : Int) (K : Int → Heap → Prop) (H : Heap) : Prop :=
 Spec Tryz.prog C 132 [.int .u8 p_x, .int .u8 p_y] H (fun v H2 => ∃ (r0 : Int), v = .int .i64 r0 ∧ K r0 H2)
def Qaa (C : Ctx) (p_a : Str) (p_b : Str) (K : Int → Heap → Prop) (H : Heap) : Prop :=
 Spec Tryz.prog C 133 [sv p_a, sv p_b] H (fun v H2 => ∃ (r0 : Int), v = .int .i64 r0 ∧ K r0 H2)
theorem Qaa.gh {C : Ctx} {p_a : Str} {p_b : Str} {K : Int → Heap → Prop} {H : Heap} (h : Qaa C p_a p_b (fun r0 H2 => ∃ H0, Gh C H2 H0 ∧ K r0 H0) H) : Qaa C p_a p_b K H :=
 Spec.gh (Spec.mono h fun _ H2 ⟨r0, hv, H0, hg, hk⟩ => ⟨H0, hg, r0, hv, hk⟩)
def Qbn (C : Ctx) (p_x : Int) (p_y : Int) (K : Int → Heap → Prop) (H : Heap) : Prop :=
 Spec Tryz.prog C 134 [.int .i64 p_x, .int .i64 p_y] H (fun v H2 => ∃ (r0 : Int), v = .int .i64 r0 ∧ K r0 H2)
def Qda (C : Ctx) (p_s : Str) (K : Int → Bool → Heap → Prop) (H : Heap) : Prop :=
 Spec Tryz.prog C 135 [sv p_s] H (fun v H2 => ∃ (r0 : Int) (r1 : Bool), v = .tuple #[.int .i64 r0, .bool r1] ∧ K r0 r1 H2)
def QdG (C : Ctx) (p_s : Str) (p_sep : Str) (K : Str → Str → Bool → Heap → Prop) (H : Heap) : Prop :=
 Spec Tryz.prog C 136 [sv p_s, sv p_sep] H (fun v H2 => ∃ (r0 : Str) (r1 : Str) (r2 : Bool), v = .tuple #[sv r0, sv r1, .bool r2] ∧ K r0 r1 r2 H2)
def Qbx (C : Ctx) (p_s : Str) (K : Bool → Heap → Prop) (H : Heap) : Prop :=
 Spec Tryz.prog C 137 [sv p_s] H (fun v H2 => ∃ (r0 : Bool), v = .bool r0 ∧ K r0 H2)
def QG (C : Ctx) (p_b : Option (Nat × Nat)) (K : Heap → Prop) (H : Heap) : Prop :=
 Spec Tryz.prog C 138 [pv p_b] H (fun v H2 => v = .tuple #[] ∧ K H2)
def Qaw (C : Ctx) (p_b : Bool) (K : Str → Heap → Prop) (H : Heap) : Prop :=
 Spec Tryz.prog C 139 [.bool p_b] H (fun v H2 => ∃ (r0 : Str), v = sv r0 ∧ K r0 H2)
def Qc6 (C : Ctx) (p_s : Str) (K : Bool → Heap → Prop) (H : Heap) : Prop :=
 Spec Tryz.prog C 147 [sv p_s] H (fun v H2 => ∃ (r0 : Bool), v = .bool r0 ∧ K r0 H2)
def QdF (C : Ctx) (p_s : Str) (K : Bool → Heap → Prop) (H : Heap) : Prop :=
 Spec Tryz.prog C 148 [sv p_s] H (fun v H2 => ∃ (r0 : Bool), v = .bool r0 ∧ K r0 H2)
def Qc5 (C : Ctx) (p_s : Str) (K : Int → Heap → Prop) (H : Heap) : Prop :=
 Spec Tryz.prog C 149 [sv p_s] H (fun v H2 => ∃ (r0 : Int), v = .int .i64 r0 ∧ K r0 H2)
def Qa3 (C : Ctx) (p_x : Int) (K : Bool → Heap → Prop) (H : Heap) : Prop :=
 Spec Tryz.prog C 151 [.int .u8 p_x] H (fun v H2 => ∃ (r0 : Bool), v = .bool r0 ∧ K r0 H2)
def Qaq (C : Ctx) (p_s : Str) (p_prefix : Str) (K : Bool → Heap → Prop) (H : Heap) : Prop :=
 Spec Tryz.prog C 152 [sv p_s, sv p_prefix] H (fun v H2 => ∃ (r0 : Bool), v = .bool r0 ∧ K r0 H2)
def QbM (C : Ctx) (p_x : Int) (p_y : Int) (K : Int → Heap → Prop) (H : Heap) : Prop :=
 Spec Tryz.prog C 153 [.int .i64 p_x, .int .i64 p_y] H (fun v H2 => ∃ (r0 : Int), v = .int .i64 r0 ∧ K r0 H2)
def Qa2 (C : Ctx) (p_x : Int) (K : Bool → Heap → Prop) (H : Heap) : Prop :=
 Spec Tryz.prog C 154 [.int .i64 p_x] H (fun v H2 => ∃ (r0 : Bool), v = .bool r0 ∧ K r0 H2)
def Qbc (C : Ctx) (p_s : Str) (p_prefix : Str) (K : Str → Heap → Prop) (H : Heap) : Prop :=
 Spec Tryz.prog C 155 [sv p_s, sv p_prefix] H (fun v H2 => ∃ (r0 : Str), v = sv r0 ∧ K r0 H2)
def Qag (C : Ctx) (p_s : Str) (p_cutset : Str) (K : Str → Heap → Prop) (H : Heap) : Prop :=
 Spec Tryz.prog C 156 [sv p_s, sv p_cutset] H (fun v H2 => ∃ (r0 : Str), v = sv r0 ∧ K r0 H2)
theorem Qag.gh {C : Ctx} {p_s : Str} {p_cutset : Str} {K : Str → Heap → Prop} {H : Heap} (h : Qag C p_s p_cutset (fun r0 H2 => ∃ H0, Gh C H2 H0 ∧ K r0 H0) H) : Qag C p_s p_cutset K H :=
 Spec.gh (Spec.mono h fun _ H2 ⟨r0, hv, H0, hg, hk⟩ => ⟨H0, hg, r0, hv, hk⟩)
def Qa9 (C : Ctx) (p_s : Str) (p_sep : Str) (K : Str → Str → Bool → Heap → Prop) (H : Heap) : Prop :=
 Spec Tryz.prog C 157 [sv p_s, sv p_sep] H (fun v H2 => ∃ (r0 : Str) (r1 : Str) (r2 : Bool), v = .tuple #[sv r0, sv r1, .bool r2] ∧ K r0 r1 r2 H2)
def QbX (C : Ctx) (p_s : Str) (K : Bool → Heap → Prop) (H : Heap) : Prop :=
 Spec Tryz.prog C 165 [sv p_s] H (fun v H2 => ∃ (r0 : Bool), v = .bool r0 ∧ K r0 H2)
def Qv (C : Ctx) (p_s : Str) (p_prefix : Str) (K : Bool → Heap → Prop) (H : Heap) : Prop :=
 Spec Tryz.prog C 166 [sv p_s, sv p_prefix] H (fun v H2 => ∃ (r0 : Bool), v = .bool r0 ∧ K r0 H2)
def QbD (C : Ctx) (p_x : Int) (K : Bool → Heap → Prop) (H : Heap) : Prop :=
 Spec Tryz.prog C 167 [.int .i64 p_x] H (fun v H2 => ∃ (r0 : Bool), v = .bool r0 ∧ K r0 H2)
def Q6 (C : Ctx) (p_s : Str) (p_prefix : Str) (K : Str → Heap → Prop) (H : Heap) : Prop :=
 Spec Tryz.prog C 168 [sv p_s, sv p_prefix] H (fun v H2 => ∃ (r0 : Str), v = sv r0 ∧ K r0 H2)
def Qeg (C : Ctx) (p_s : Str) (p_c : Int) (K : Str → Heap → Prop) (H : Heap) : Prop :=
 Spec Tryz.prog C 169 [sv p_s, .int .u8 p_c] H (fun v H2 => ∃ (r0 : Str), v = sv r0 ∧ K r0 H2)
def QdH (C : Ctx) (p_s : Str) (p_c : Int) (K : Str → Heap → Prop) (H : Heap) : Prop :=
 Spec Tryz.prog C 170 [sv p_s, .int .u8 p_c] H (fun v H2 => ∃ (r0 : Str), v = sv r0 ∧ K r0 H2)
def Qu (C : Ctx) (p_chars : Str) (K : List Value → Bool → Heap → Prop) (H : Heap) : Prop :=
 Spec Tryz.prog C 171 [sv p_chars] H (fun v H2 => ∃ (r0 : List Value) (r1 : Bool), v = .tuple #[.agg (List.toArray r0), .bool r1] ∧ K r0 r1 H2)
theorem Qu.gh {C : Ctx} {p_chars : Str} {K : List Value → Bool → Heap → Prop} {H : Heap} (h : Qu C p_chars (fun r0 r1 H2 => ∃ H0, Gh C H2 H0 ∧ K r0 r1 H0) H) : Qu C p_chars K H :=
 Spec.gh (Spec.mono h fun _ H2 ⟨r0, r1, hv, H0, hg, hk⟩ => ⟨H0, hg, r0, r1, hv, hk⟩)
def Qar (C : Ctx) (p_s : Str) (p_as : Option (Nat × Nat)) (K : Str → Heap → Prop) (H : Heap) : Prop :=
 Spec Tryz.prog C 172 [sv p_s, pv p_as] H (fun v H2 => ∃ (r0 : Str), v = sv r0 ∧ K r0 H2)
def Qaj (C : Ctx) (p_s : Str) (p_as : Option (Nat × Nat)) (K : Str → Heap → Prop) (H : Heap) : Prop :=
 Spec Tryz.prog C 173 [sv p_s, pv p_as] H (fun v H2 => ∃ (r0 : Str), v = sv r0 ∧ K r0 H2)
def Qc8 (C : Ctx) (p_s : Str) (p_cutset : Str) (K : Str → Heap → Prop) (H : Heap) : Prop :=
 Spec Tryz.prog C 174 [sv p_s, sv p_cutset] H (fun v H2 => ∃ (r0 : Str), v = sv r0 ∧ K r0 H2)
def QcL (C : Ctx) (p_s : Str) (p_cutset : Str) (K : Str → Heap → Prop) (H : Heap) : Prop :=
 Spec Tryz.prog C 175 [sv p_s, sv p_cutset] H (fun v H2 => ∃ (r0 : Str), v = sv r0 ∧ K r0 H2)
def QX (C : Ctx) (p_s : Str) (p_substr : Str) (K : Int → Heap → Prop) (H : Heap) : Prop :=
 Spec Tryz.prog C 176 [sv p_s, sv p_substr] H (fun v H2 => ∃ (r0 : Int), v = .int .i64 r0 ∧ K r0 H2)
def QbQ (C : Ctx) (p_c : Int) (K : Bool → Heap → Prop) (H : Heap) : Prop :=
 Spec Tryz.prog C 181 [.int .u8 p_c] H (fun v H2 => ∃ (r0 : Bool), v = .bool r0 ∧ K r0 H2)
def QH (C : Ctx) (p_as : Option (Nat × Nat)) (p_c : Int) (K : Bool → Heap → Prop) (H : Heap) : Prop :=
 Spec Tryz.prog C 182 [pv p_as, .int .u8 p_c] H (fun v H2 => ∃ (r0 : Bool), v = .bool r0 ∧ K r0 H2)
def QL (C : Ctx) (p_s : Str) (p_c : Int) (K : Int → Heap → Prop) (H : Heap) : Prop :=
 Spec Tryz.prog C 186 [sv p_s, .int .u8 p_c] H (fun v H2 => ∃ (r0 : Int), v = .int .i64 r0 ∧ K r0 H2)
def QcK (C : Ctx) (p_n : Int) (K : Int → Heap → Prop) (H : Heap) : Prop :=
 Spec Tryz.prog C 188 [.int .i64 p_n] H (fun v H2 => ∃ (r0 : Int), v = .int .i64 r0 ∧ K r0 H2)
def QaO (C : Ctx) (p_s : Str) (p_sep : Str) (K : Int → Heap → Prop) (H : Heap) : Prop :=
 Spec Tryz.prog C 189 [sv p_s, sv p_sep] H (fun v H2 => ∃ (r0 : Int), v = .int .i64 r0 ∧ K r0 H2)
def QcX (C : Ctx) (p_l : Sl) (K : Bool → Heap → Prop) (H : Heap) : Prop :=
 QdE C p_l (fun r1 H2 =>
 ift r1
 (Qcn C (fun r4 H5 =>
 K r4 H5) H2)
 (QeN C (fun r6 H7 =>
 Qfp C (fun r8 H9 =>
 ift (Option.isNone r6)
 (K false H9)
 (lp (α := Int) 0 H9 (fun x11 J12 H13 =>
 ift (decide ((x11 : Int) < (Sl.len p_l : Int)))
 (ixa p_l x11 fun p15 =>
 ldT H13 Qk.c (p15.1, p15.2 + (x11 : Int).toNat * 4) fun x20 =>
 QdD C x20 r6 r8 (fun r22 H23 =>
 ift (!r22)
 (K false H23)
 (J12 (w .i64 (x11 + 1)) H23)) H13)
 (Qa4 C r8 (fun r25 H26 =>
 lp (α := Int) 0 H26 (fun x27 J28 H29 =>
 ift (decide ((x27 : Int) < (Sl.len r25 : Int)))
 (dr H29 fun Hs31 =>
 ixa r25 x27 fun p33 =>
 ldS Hs31 (p33.1, p33.2 + (x27 : Int).toNat * 1) fun x38 =>
 ixa r25 x27 fun p40 =>
 ldS Hs31 (p40.1, p40.2 + (x27 : Int).toNat * 1) fun x45 =>
 Qak C r6 x38 (fun r48 H49 =>
 Heap.le Hs31 H49 ∧
 Qay C r8 x45 (fun r51 H52 =>
 Heap.le Hs31 H52 ∧
 Qax C r48 r51 (fun r54 H55 =>
 Heap.le Hs31 H55 ∧
 ift (!r54)
 (K false H55)
 (J28 (w .i64 (x27 + 1)) H55)) H52) H49) H29)
 (Qcn C (fun r57 H58 =>
 K r57 H58) H29))) H13)))) H7) H2)) H
theorem QfE (C p_l K H) (h : QcX C p_l K H) : Qai C p_l K H := by
 refine Ye Tryz.func4 rfl Tryz.ntmps4 [(0, slv p_l)] (Zo (Za (GL.nil (GC.seq (Zo (Zm (Zc h Qin ?_)))))))
 rintro _ H2 ⟨r1, rfl, h⟩
 refine GL.nil (Yd h (fun u3 h => ?_) fun u3 h => ?_)
 refine Zo (Zc h Qe4 ?_)
 rintro _ H5 ⟨r4, rfl, h⟩
 refine Za (GL.nil ?_)
 exact Y1 I3 ⟨r4, rfl, h⟩
 refine GC.skip (Zo (Zc h QhL ?_))
 rintro _ H7 ⟨r6, rfl, h⟩
 refine Zc h QjN ?_
 rintro _ H9 ⟨r8, rfl, h⟩
 refine Za (Za (GL.nil (GC.seq (Zo (Zm (Zv (OV.eqlNil (p := r6) rfl rfl rfl) (GL.nil (Yd h (fun u10 h => ?_) fun u10 h => ?_))))))))
 refine Zo (Za (GL.nil ?_))
 exact Y1 I3 ⟨false, rfl, h⟩
 refine GC.skip (GC.seq (Zo (Za (GL.nil (GC.block (Yp h (fun x11 => [(5, .int .i64 x11), (0, slv p_l), (3, pv r6), (4, pv r8)]) ?_))))))
 intro x11 H13 J12 h
 refine GC.seq (Zo (Zm (Zm (Zq (Zi (.bool (decide ((x11 : Int) < (Sl.len p_l : Int)))) (GL.nil (Yd h (fun u14 h => ?_) fun u14 h => ?_)))))))
 refine GC.skip (GC.seq (GC.block (Zo (Zm (Zm (Yx h fun p15 h => ?_))))))
 obtain ⟨x20, v21, h⟩ := h
 refine Zv (OV.loadT rfl rfl rfl v21) (Zm (Zm (Zc h Qim ?_)))
 rintro _ H23 ⟨r22, rfl, h⟩
 refine Zv (OV.not rfl) (GL.nil (Yd h (fun u24 h => ?_) fun u24 h => ?_))
 refine Zo (Za (GL.nil ?_))
 exact Y1 I3 ⟨false, rfl, h⟩
 refine GC.skip_to (fun _ _ h => h) (GC.region (Zm (Zi (.int .i64 (w .i64 (x11 + 1))) (Za ?_))))
 exact Yj I3 (w .i64 (x11 + 1)) h
 refine GC.exit_to (fun _ _ h => h) (Zo (Zm (Zc h QcR ?_)))
 rintro _ H26 ⟨r25, rfl, h⟩
 refine Za (GL.nil (GC.seq (Zo (Za (GL.nil (GC.block (Yp h (fun x27 => [(7, .int .i64 x27), (3, pv r6), (4, pv r8), (6, slv r25)]) ?_)))))))
 intro x27 H29 J28 h
 refine GC.seq (Zo (Zm (Zm (Zq (Zi (.bool (decide ((x27 : Int) < (Sl.len r25 : Int)))) (GL.nil (Yd h (fun u30 h => ?_) fun u30 h => ?_)))))))
 refine GC.skip (GC.seq (GC.block (GC.seq ?_)))
 obtain ⟨Hs31, hle32, h⟩ := h
 refine GC.any (Hs := Hs31) (by kernel_rfl) hle32 (Zp 0 rfl Ym (Zp 1 rfl Ym (Zp 2 rfl Ym ?_)))
 obtain ⟨p33, ha34, hb35, u36, hd37, h⟩ := h
 refine Zp 3 rfl (OV.indexAddr rfl rfl rfl rfl ha34 hb35 u36 hd37) ?_
 obtain ⟨x38, v39, h⟩ := h
 refine Zp 4 rfl (Yo v39) (Zp 6 rfl Ym (Zp 7 rfl Ym (Zp 8 rfl Ym ?_)))
 obtain ⟨p40, ha41, hb42, u43, hd44, h⟩ := h
 refine Zp 9 rfl (OV.indexAddr rfl rfl rfl rfl ha41 hb42 u43 hd44) ?_
 obtain ⟨x45, v46, h⟩ := h
 refine Zp 10 rfl (Yo v46) (GA.eff 5 rfl (by kernel_rfl) (Zc h Qcd ?_))
 rintro _ H49 ⟨r48, rfl, h⟩
 obtain ⟨hle47, h⟩ := h
 refine GA.back hle47 (GA.eff 11 rfl (by kernel_rfl) (Zc h Qdm ?_))
 rintro _ H52 ⟨r51, rfl, h⟩
 obtain ⟨hle50, h⟩ := h
 refine GA.back hle50 (GA.eff 12 rfl (by kernel_rfl) (Zc h Qdl ?_))
 rintro _ H55 ⟨r54, rfl, h⟩
 obtain ⟨hle53, h⟩ := h
 refine GA.back hle53 (Zp 13 rfl (OV.not rfl) (GA.done (by kernel_rfl) (GL.nil (Yd h (fun u56 h => ?_) fun u56 h => ?_))))
 refine Zo (Za (GL.nil ?_))
 exact Y1 I3 ⟨false, rfl, h⟩
 refine GC.skip_to (fun _ _ h => h) (GC.region (Zm (Zi (.int .i64 (w .i64 (x27 + 1))) (Za ?_))))
 exact Yj I3 (w .i64 (x27 + 1)) h
 refine GC.exit_to (fun _ _ h => h) (Zo (Zc h Qe4 ?_))
 rintro _ H58 ⟨r57, rfl, h⟩
 refine Za (GL.nil ?_)
 exact Y1 I3 ⟨r57, rfl, h⟩
def Qfb (C : Ctx) (p_l : Sl) (K : Bool → Heap → Prop) (H : Heap) : Prop :=
 lp (α := Int × Int) (0, 0) H (fun x1 J2 H3 =>
 ift ((decide ((x1.2 : Int) < (Sl.len p_l : Int))) && (decide ((x1.1 : Int) < 800)))
 (ixa p_l x1.2 fun p6 =>
 ldS H3 (((p6.1, p6.2 + (x1.2 : Int).toNat * 4).1, (p6.1, p6.2 + (x1.2 : Int).toNat * 4).2 + 2).1, ((p6.1, p6.2 + (x1.2 : Int).toNat * 4).1, (p6.1, p6.2 + (x1.2 : Int).toNat * 4).2 + 2).2 + 0) fun x11 =>
 lp (α := Int × Int) ((w .i64 ((w .i64 (x1.1 + 2)) + (w .i64 (Int.tdiv (List.length x11 : Int) 50)))), 0) H3 (fun x13 J14 H15 =>
 ixa p_l x1.2 fun p16 =>
 ldL H15 (((p16.1, p16.2 + (x1.2 : Int).toNat * 4).1, (p16.1, p16.2 + (x1.2 : Int).toNat * 4).2 + 2).1, ((p16.1, p16.2 + (x1.2 : Int).toNat * 4).1, (p16.1, p16.2 + (x1.2 : Int).toNat * 4).2 + 2).2 + 1) fun x21 =>
 ift ((decide ((x13.2 : Int) < (Sl.len x21 : Int))) && (decide ((x13.1 : Int) < 800)))
 (ixa p_l x1.2 fun p25 =>
 ldL H15 (((p25.1, p25.2 + (x1.2 : Int).toNat * 4).1, (p25.1, p25.2 + (x1.2 : Int).toNat * 4).2 + 2).1, ((p25.1, p25.2 + (x1.2 : Int).toNat * 4).1, (p25.1, p25.2 + (x1.2 : Int).toNat * 4).2 + 2).2 + 1) fun x30 =>
 ixa x30 x13.2 fun p32 =>
 ldT H15 Qa.c (p32.1, p32.2 + (x13.2 : Int).toNat * 4) fun x37 =>
 QQ C x37 800 (fun r39 H40 =>
 J14 ((w .i64 (x13.1 + r39)), (w .i64 (x13.2 + 1))) H40) H15)
 (J2 (x13.1, (w .i64 (x1.2 + 1))) H15)))
 (K (decide ((x1.1 : Int) ≥ 800)) H3))
theorem Qib (C p_l K H) (h : Qfb C p_l K H) : QdE C p_l K H := by
 refine Ye Tryz.func7 rfl Tryz.ntmps7 [(0, slv p_l)] (Zo (Za (GL.nil (Zo (Za (GL.nil (GC.seq (Zo (Za (GL.nil (GC.block (Yp h (fun x1 => [(3, .int .i64 x1.1), (4, .int .i64 x1.2), (0, slv p_l)]) ?_))))))))))))
 intro x1 H3 J2 h
 refine GC.seq (Zo (Zm (Zm (Zq (Zi (.bool (decide ((x1.2 : Int) < (Sl.len p_l : Int)))) (Zm (GL.cut0 3 [(13, .bool ((decide ((x1.2 : Int) < (Sl.len p_l : Int))) && (decide ((x1.1 : Int) < 800)))), (0, slv p_l), (3, .int .i64 x1.1), (4, .int .i64 x1.2)] ?_ ?_)))))))
 rcases Zb (decide ((x1.2 : Int) < (Sl.len p_l : Int))) with u4 | u4
 refine Zu u4 Ym (Zu u4 (OV.ibin (v := .bool (decide ((x1.1 : Int) < 800))) rfl rfl rfl) (Zt u4 ?_))
 exact GL.jump0 (fun _ _ h => h) () rfl ⟨(by rw [u4]; rfl), rfl, rfl, rfl, trivial⟩
 refine Zk u4 (Zk u4 (Zn u4 ?_))
 exact GL.jump0 (fun _ _ h => h) () rfl ⟨(by rw [u4]; rfl), rfl, rfl, rfl, trivial⟩
 refine GL.nil (Yd h (fun u5 h => ?_) fun u5 h => ?_)
 refine GC.skip (GC.seq (GC.block (Zo (Zm (Zi (.int .i64 (w .i64 (x1.1 + 2))) (Zm (Zm (Yx h fun p6 h => ?_))))))))
 refine Zf (Zf (Yl h fun x11 h => ?_))
 refine Zr (Zv (OV.quo rfl rfl (by decide)) (Zi (.int .i64 (w .i64 ((w .i64 (x1.1 + 2)) + (w .i64 (Int.tdiv (List.length x11 : Int) 50))))) (Za (GL.nil (Zo (Za (GL.nil (GC.block (Yp h (fun x13 => [(3, .int .i64 x13.1), (5, .int .i64 x13.2), (0, slv p_l), (4, .int .i64 x1.2)]) ?_)))))))))
 intro x13 H15 J14 h
 refine GC.seq (Zo (Zm (Zm (Zm (Yx h fun p16 h => ?_)))))
 refine Zf (Zf (Yl h fun x21 h => ?_))
 refine Zq (Zi (.bool (decide ((x13.2 : Int) < (Sl.len x21 : Int)))) (Zm (GL.cut0 3 [(39, .bool ((decide ((x13.2 : Int) < (Sl.len x21 : Int))) && (decide ((x13.1 : Int) < 800)))), (0, slv p_l), (3, .int .i64 x13.1), (4, .int .i64 x1.2), (5, .int .i64 x13.2)] ?_ ?_)))
 rcases Zb (decide ((x13.2 : Int) < (Sl.len x21 : Int))) with u23 | u23
 refine Zu u23 Ym (Zu u23 (OV.ibin (v := .bool (decide ((x13.1 : Int) < 800))) rfl rfl rfl) (Zt u23 ?_))
 exact GL.jump0 (fun _ _ h => h) () rfl ⟨(by rw [u23]; rfl), rfl, rfl, rfl, rfl, trivial⟩
 refine Zk u23 (Zk u23 (Zn u23 ?_))
 exact GL.jump0 (fun _ _ h => h) () rfl ⟨(by rw [u23]; rfl), rfl, rfl, rfl, rfl, trivial⟩
 refine GL.nil (Yd h (fun u24 h => ?_) fun u24 h => ?_)
 refine GC.skip (GC.seq (GC.block (GC.region (Zm (Zm (Zm (Yx h fun p25 h => ?_)))))))
 refine Zf (Zf (Yl h fun x30 h => ?_))
 refine Zm (Yx h fun p32 h => ?_)
 obtain ⟨x37, v38, h⟩ := h
 refine Zv (OV.loadT rfl rfl rfl v38) (Zc h Qeo ?_)
 rintro _ H40 ⟨r39, rfl, h⟩
 refine Zi (.int .i64 (w .i64 (x13.1 + r39))) (Za (GL.nil_to (fun _ _ h => h) (GC.region (Zm (Zi (.int .i64 (w .i64 (x13.2 + 1))) (Za ?_))))))
 exact Yj I3 ((w .i64 (x13.1 + r39)), (w .i64 (x13.2 + 1))) h
 refine GC.exit_to (fun _ _ h => h) (GC.region (Zm (Zi (.int .i64 (w .i64 (x1.2 + 1))) (Za ?_))))
 exact Yj I3 (x13.1, (w .i64 (x1.2 + 1))) h
 refine GC.exit_to (fun _ _ h => h) (Zo (Zm (Zi (.bool (decide ((x1.1 : Int) ≥ 800))) (Za (GL.nil ?_)))))
 exact Y1 I3 ⟨(decide ((x1.1 : Int) ≥ 800)), rfl, h⟩
def Qfa (C : Ctx) (K : Bool → Heap → Prop) (H : Heap) : Prop :=
 QeN C (fun r1 H2 =>
 QN C [114] 1 (fun r3 H4 =>
 QE C r1 r3 (fun r5 r6 H7 =>
 QN C [114] 2 (fun r8 H9 =>
 QE C r1 r8 (fun r10 r11 H12 =>
 QN C [114] 1 (fun r13 H14 =>
 QE C r1 r13 (fun r15 r16 H17 =>
 QN C [114] 1 (fun r18 H19 =>
 QaC C r1 r18 (fun r20 r21 H22 =>
 QN C [115] 1 (fun r23 H24 =>
 QE C r1 r23 (fun r25 r26 H27 =>
 QW C r1 2 (fun r28 r29 H30 =>
 QW C r1 0 (fun r31 r32 H33 =>
 jn (α := Bool) (fun b45 H51 =>
 ift b45
 (K false H51)
 (QN C [114] 1 (fun r53 H54 =>
 QN C [115] 1 (fun r55 H56 =>
 nw ((Qc.c (⟨r53, (-1)⟩ : Qc)) ++ (Qc.c (⟨r55, 1⟩ : Qc)) ++ []) (fun b57 H58 =>
 QO C r28 (Sl.of (some (b57, 0)) 2 2) (fun r59 H60 =>
 jn (α := Bool) (fun b61 H73 =>
 ift b61
 (K false H73)
 (QaU C r1 2 (fun r75 H76 =>
 jn (α := Bool) (fun b77 H83 =>
 jn (α := Bool) (fun b84 H90 =>
 jn (α := Bool) (fun b91 H99 =>
 jn (α := Bool) (fun b100 H108 =>
 jn (α := Bool) (fun b109 H115 =>
 K b109 H115)
 (fun J110 => ift b100
 (QS C r1 (fun r113 H114 =>
 J110 ((r113 : Int) == 2) H114) H108)
 (J110 false H108)))
 (fun J101 => ift b91
 (QN C [115] 1 (fun r104 H105 =>
 Qah C r1 r104 (fun r106 H107 =>
 J101 (!r106) H107) H105) H99)
 (J101 false H99)))
 (fun J92 => ift b84
 (QN C [114] 1 (fun r95 H96 =>
 Qah C r1 r95 (fun r97 H98 =>
 J92 r97 H98) H96) H90)
 (J92 false H90)))
 (fun J85 => ift b77
 (Qbj C r1 (fun r88 H89 =>
 J85 (((Sl.len r88 : Int) : Int) == 1) H89) H83)
 (J85 false H83)))
 (fun J78 => ift ((r75 : Int) == 0)
 (Qak C r1 [114] (fun r81 H82 =>
 J78 (((Sl.len r81 : Int) : Int) == 2) H82) H76)
 (J78 false H76))) H73))
 (fun J62 => ift (!r59)
 (J62 true H60)
 (QN C [114] 2 (fun r65 H66 =>
 QN C [115] 1 (fun r67 H68 =>
 nw ((Qc.c (⟨r65, 1⟩ : Qc)) ++ (Qc.c (⟨r67, 1⟩ : Qc)) ++ []) (fun b69 H70 =>
 QO C r31 (Sl.of (some (b69, 0)) 2 2) (fun r71 H72 =>
 J62 (!r71) H72) H70) H68) H66) H60))) H58) H56) H54) H51))
 (fun J46 => ift ((((((((((((!r5) || (!r10)) || r15) || (!r20)) || (!r25)) || ((r6 : Int) != 0)) || ((r11 : Int) != 0)) || ((r16 : Int) != 0)) || ((r21 : Int) != 0)) || ((r26 : Int) != 0)) || ((r29 : Int) != 0)) || ((r32 : Int) != 0))
 (J46 true H33)
 (QS C r1 (fun r49 H50 =>
 J46 ((r49 : Int) != 4) H50) H33))) H30) H27) H24) H22) H19) H17) H14) H12) H9) H7) H4) H2) H
theorem Qia (C : Ctx) (K : Bool → Heap → Prop) (H : Heap) (h : Qfa C  K H) : Qcn C  K H := by
 refine Spec.enter Tryz.func8 rfl Tryz.ntmps8 rfl (GC.sub [] trivial (Zo (Za (GL.nil (Zo (Zc h QhL ?_))))))
 rintro _ H2 ⟨r1, rfl, h⟩
 refine Za (GL.nil (Zo (Zm (Zc h QT ?_))))
 rintro _ H4 ⟨r3, rfl, h⟩
 refine Zc h QaX ?_
 rintro _ H7 ⟨r5, r6, rfl, h⟩
 refine Zm (Yv (.bool r5) rfl rfl (Yv (.int .i64 r6) rfl rfl (Za (Za (GL.nil (Zo (Zm (Zc h QT ?_))))))))
 rintro _ H9 ⟨r8, rfl, h⟩
 refine Zc h QaX ?_
 rintro _ H12 ⟨r10, r11, rfl, h⟩
 refine Zm (Yv (.bool r10) rfl rfl (Yv (.int .i64 r11) rfl rfl (Za (Za (GL.nil (Zo (Zm (Zc h QT ?_))))))))
 rintro _ H14 ⟨r13, rfl, h⟩
 refine Zc h QaX ?_
 rintro _ H17 ⟨r15, r16, rfl, h⟩
 refine Zm (Yv (.bool r15) rfl rfl (Yv (.int .i64 r16) rfl rfl (Za (Za (GL.nil (Zo (Zm (Zc h QT ?_))))))))
 rintro _ H19 ⟨r18, rfl, h⟩
 refine Zc h Qet ?_
 rintro _ H22 ⟨r20, r21, rfl, h⟩
 refine Zm (Yv (.bool r20) rfl rfl (Yv (.int .i64 r21) rfl rfl (Za (Za (GL.nil (Zo (Zm (Zc h QT ?_))))))))
 rintro _ H24 ⟨r23, rfl, h⟩
 refine Zc h QaX ?_
 rintro _ H27 ⟨r25, r26, rfl, h⟩
 refine Zm (Yv (.bool r25) rfl rfl (Yv (.int .i64 r26) rfl rfl (Za (Za (GL.nil (Zo (Zm (Zc h QbO ?_))))))))
 rintro _ H30 ⟨r28, r29, rfl, h⟩
 refine Zm (Yv (slv r28) rfl rfl (Yv (.int .i64 r29) rfl rfl (Za (Za (GL.nil (Zo (Zm (Zc h QbO ?_))))))))
 rintro _ H33 ⟨r31, r32, rfl, h⟩
 refine Zm (Yv (slv r31) rfl rfl (Yv (.int .i64 r32) rfl rfl (Za (Za (GL.nil (GC.seq (Zo (Zm (Zv (OV.not rfl) (Zm (GL.cut0 3 [(62, .bool ((!r5) || (!r10))), (1, pv r1), (3, .int .i64 r6), (5, .int .i64 r11), (6, .bool r15), (7, .int .i64 r16), (8, .bool r20), (9, .int .i64 r21), (10, .bool r25), (11, .int .i64 r26), (12, slv r28), (13, .int .i64 r29), (14, slv r31), (15, .int .i64 r32)] ?_ ?_)))))))))))
 rcases Zb (!r5) with u34 | u34
 refine Zk u34 (Zk u34 (Zt u34 ?_))
 exact GL.jump0 (fun _ _ h => h) () rfl ⟨(by rw [u34]; rfl), rfl, rfl, rfl, rfl, rfl, rfl, rfl, rfl, rfl, rfl, rfl, rfl, rfl, trivial⟩
 refine Zu u34 Ym (Zu u34 (OV.not rfl) (Zn u34 ?_))
 exact GL.jump0 (fun _ _ h => h) () rfl ⟨(by rw [u34]; rfl), rfl, rfl, rfl, rfl, rfl, rfl, rfl, rfl, rfl, rfl, rfl, rfl, rfl, trivial⟩
 refine Zm (GL.cut0 2 [(65, .bool (((!r5) || (!r10)) || r15)), (1, pv r1), (3, .int .i64 r6), (5, .int .i64 r11), (7, .int .i64 r16), (8, .bool r20), (9, .int .i64 r21), (10, .bool r25), (11, .int .i64 r26), (12, slv r28), (13, .int .i64 r29), (14, slv r31), (15, .int .i64 r32)] ?_ ?_)
 rcases Zb ((!r5) || (!r10)) with u35 | u35
 refine Zk u35 (Zt u35 ?_)
 exact GL.jump0 (fun _ _ h => h) () rfl ⟨(by rw [u35]; rfl), rfl, rfl, rfl, rfl, rfl, rfl, rfl, rfl, rfl, rfl, rfl, rfl, trivial⟩
 refine Zu u35 Ym (Zn u35 ?_)
 exact GL.jump0 (fun _ _ h => h) () rfl ⟨(by rw [u35]; rfl), rfl, rfl, rfl, rfl, rfl, rfl, rfl, rfl, rfl, rfl, rfl, rfl, trivial⟩
 refine Zm (GL.cut0 3 [(69, .bool ((((!r5) || (!r10)) || r15) || (!r20))), (1, pv r1), (3, .int .i64 r6), (5, .int .i64 r11), (7, .int .i64 r16), (9, .int .i64 r21), (10, .bool r25), (11, .int .i64 r26), (12, slv r28), (13, .int .i64 r29), (14, slv r31), (15, .int .i64 r32)] ?_ ?_)
 rcases Zb (((!r5) || (!r10)) || r15) with u36 | u36
 refine Zk u36 (Zk u36 (Zt u36 ?_))
 exact GL.jump0 (fun _ _ h => h) () rfl ⟨(by rw [u36]; rfl), rfl, rfl, rfl, rfl, rfl, rfl, rfl, rfl, rfl, rfl, rfl, trivial⟩
 refine Zu u36 Ym (Zu u36 (OV.not rfl) (Zn u36 ?_))
 exact GL.jump0 (fun _ _ h => h) () rfl ⟨(by rw [u36]; rfl), rfl, rfl, rfl, rfl, rfl, rfl, rfl, rfl, rfl, rfl, rfl, trivial⟩
 refine Zm (GL.cut0 3 [(73, .bool (((((!r5) || (!r10)) || r15) || (!r20)) || (!r25))), (1, pv r1), (3, .int .i64 r6), (5, .int .i64 r11), (7, .int .i64 r16), (9, .int .i64 r21), (11, .int .i64 r26), (12, slv r28), (13, .int .i64 r29), (14, slv r31), (15, .int .i64 r32)] ?_ ?_)
 rcases Zb ((((!r5) || (!r10)) || r15) || (!r20)) with u37 | u37
 refine Zk u37 (Zk u37 (Zt u37 ?_))
 exact GL.jump0 (fun _ _ h => h) () rfl ⟨(by rw [u37]; rfl), rfl, rfl, rfl, rfl, rfl, rfl, rfl, rfl, rfl, rfl, trivial⟩
 refine Zu u37 Ym (Zu u37 (OV.not rfl) (Zn u37 ?_))
 exact GL.jump0 (fun _ _ h => h) () rfl ⟨(by rw [u37]; rfl), rfl, rfl, rfl, rfl, rfl, rfl, rfl, rfl, rfl, rfl, trivial⟩
 refine Zm (GL.cut0 3 [(77, .bool ((((((!r5) || (!r10)) || r15) || (!r20)) || (!r25)) || ((r6 : Int) != 0))), (1, pv r1), (5, .int .i64 r11), (7, .int .i64 r16), (9, .int .i64 r21), (11, .int .i64 r26), (12, slv r28), (13, .int .i64 r29), (14, slv r31), (15, .int .i64 r32)] ?_ ?_)
 rcases Zb (((((!r5) || (!r10)) || r15) || (!r20)) || (!r25)) with u38 | u38
 refine Zk u38 (Zk u38 (Zt u38 ?_))
 exact GL.jump0 (fun _ _ h => h) () rfl ⟨(by rw [u38]; rfl), rfl, rfl, rfl, rfl, rfl, rfl, rfl, rfl, rfl, trivial⟩
 refine Zu u38 Ym (Zu u38 (OV.ibin (v := .bool ((r6 : Int) != 0)) rfl rfl rfl) (Zn u38 ?_))
 exact GL.jump0 (fun _ _ h => h) () rfl ⟨(by rw [u38]; rfl), rfl, rfl, rfl, rfl, rfl, rfl, rfl, rfl, rfl, trivial⟩
 refine Zm (GL.cut0 3 [(81, .bool (((((((!r5) || (!r10)) || r15) || (!r20)) || (!r25)) || ((r6 : Int) != 0)) || ((r11 : Int) != 0))), (1, pv r1), (7, .int .i64 r16), (9, .int .i64 r21), (11, .int .i64 r26), (12, slv r28), (13, .int .i64 r29), (14, slv r31), (15, .int .i64 r32)] ?_ ?_)
 rcases Zb ((((((!r5) || (!r10)) || r15) || (!r20)) || (!r25)) || ((r6 : Int) != 0)) with u39 | u39
 refine Zk u39 (Zk u39 (Zt u39 ?_))
 exact GL.jump0 (fun _ _ h => h) () rfl ⟨(by rw [u39]; rfl), rfl, rfl, rfl, rfl, rfl, rfl, rfl, rfl, trivial⟩
 refine Zu u39 Ym (Zu u39 (OV.ibin (v := .bool ((r11 : Int) != 0)) rfl rfl rfl) (Zn u39 ?_))
 exact GL.jump0 (fun _ _ h => h) () rfl ⟨(by rw [u39]; rfl), rfl, rfl, rfl, rfl, rfl, rfl, rfl, rfl, trivial⟩
 refine Zm (GL.cut0 3 [(85, .bool ((((((((!r5) || (!r10)) || r15) || (!r20)) || (!r25)) || ((r6 : Int) != 0)) || ((r11 : Int) != 0)) || ((r16 : Int) != 0))), (1, pv r1), (9, .int .i64 r21), (11, .int .i64 r26), (12, slv r28), (13, .int .i64 r29), (14, slv r31), (15, .int .i64 r32)] ?_ ?_)
 rcases Zb (((((((!r5) || (!r10)) || r15) || (!r20)) || (!r25)) || ((r6 : Int) != 0)) || ((r11 : Int) != 0)) with u40 | u40
 refine Zk u40 (Zk u40 (Zt u40 ?_))
 exact GL.jump0 (fun _ _ h => h) () rfl ⟨(by rw [u40]; rfl), rfl, rfl, rfl, rfl, rfl, rfl, rfl, trivial⟩
 refine Zu u40 Ym (Zu u40 (OV.ibin (v := .bool ((r16 : Int) != 0)) rfl rfl rfl) (Zn u40 ?_))
 exact GL.jump0 (fun _ _ h => h) () rfl ⟨(by rw [u40]; rfl), rfl, rfl, rfl, rfl, rfl, rfl, rfl, trivial⟩
 refine Zm (GL.cut0 3 [(89, .bool (((((((((!r5) || (!r10)) || r15) || (!r20)) || (!r25)) || ((r6 : Int) != 0)) || ((r11 : Int) != 0)) || ((r16 : Int) != 0)) || ((r21 : Int) != 0))), (1, pv r1), (11, .int .i64 r26), (12, slv r28), (13, .int .i64 r29), (14, slv r31), (15, .int .i64 r32)] ?_ ?_)
 rcases Zb ((((((((!r5) || (!r10)) || r15) || (!r20)) || (!r25)) || ((r6 : Int) != 0)) || ((r11 : Int) != 0)) || ((r16 : Int) != 0)) with u41 | u41
 refine Zk u41 (Zk u41 (Zt u41 ?_))
 exact GL.jump0 (fun _ _ h => h) () rfl ⟨(by rw [u41]; rfl), rfl, rfl, rfl, rfl, rfl, rfl, trivial⟩
 refine Zu u41 Ym (Zu u41 (OV.ibin (v := .bool ((r21 : Int) != 0)) rfl rfl rfl) (Zn u41 ?_))
 exact GL.jump0 (fun _ _ h => h) () rfl ⟨(by rw [u41]; rfl), rfl, rfl, rfl, rfl, rfl, rfl, trivial⟩
 refine Zm (GL.cut0 3 [(93, .bool ((((((((((!r5) || (!r10)) || r15) || (!r20)) || (!r25)) || ((r6 : Int) != 0)) || ((r11 : Int) != 0)) || ((r16 : Int) != 0)) || ((r21 : Int) != 0)) || ((r26 : Int) != 0))), (1, pv r1), (12, slv r28), (13, .int .i64 r29), (14, slv r31), (15, .int .i64 r32)] ?_ ?_)
 rcases Zb (((((((((!r5) || (!r10)) || r15) || (!r20)) || (!r25)) || ((r6 : Int) != 0)) || ((r11 : Int) != 0)) || ((r16 : Int) != 0)) || ((r21 : Int) != 0)) with u42 | u42
 refine Zk u42 (Zk u42 (Zt u42 ?_))
 exact GL.jump0 (fun _ _ h => h) () rfl ⟨(by rw [u42]; rfl), rfl, rfl, rfl, rfl, rfl, trivial⟩
 refine Zu u42 Ym (Zu u42 (OV.ibin (v := .bool ((r26 : Int) != 0)) rfl rfl rfl) (Zn u42 ?_))
 exact GL.jump0 (fun _ _ h => h) () rfl ⟨(by rw [u42]; rfl), rfl, rfl, rfl, rfl, rfl, trivial⟩
 refine Zm (GL.cut0 3 [(97, .bool (((((((((((!r5) || (!r10)) || r15) || (!r20)) || (!r25)) || ((r6 : Int) != 0)) || ((r11 : Int) != 0)) || ((r16 : Int) != 0)) || ((r21 : Int) != 0)) || ((r26 : Int) != 0)) || ((r29 : Int) != 0))), (1, pv r1), (12, slv r28), (14, slv r31), (15, .int .i64 r32)] ?_ ?_)
 rcases Zb ((((((((((!r5) || (!r10)) || r15) || (!r20)) || (!r25)) || ((r6 : Int) != 0)) || ((r11 : Int) != 0)) || ((r16 : Int) != 0)) || ((r21 : Int) != 0)) || ((r26 : Int) != 0)) with u43 | u43
 refine Zk u43 (Zk u43 (Zt u43 ?_))
 exact GL.jump0 (fun _ _ h => h) () rfl ⟨(by rw [u43]; rfl), rfl, rfl, rfl, rfl, trivial⟩
 refine Zu u43 Ym (Zu u43 (OV.ibin (v := .bool ((r29 : Int) != 0)) rfl rfl rfl) (Zn u43 ?_))
 exact GL.jump0 (fun _ _ h => h) () rfl ⟨(by rw [u43]; rfl), rfl, rfl, rfl, rfl, trivial⟩
 refine Zm (GL.cut0 3 [(101, .bool ((((((((((((!r5) || (!r10)) || r15) || (!r20)) || (!r25)) || ((r6 : Int) != 0)) || ((r11 : Int) != 0)) || ((r16 : Int) != 0)) || ((r21 : Int) != 0)) || ((r26 : Int) != 0)) || ((r29 : Int) != 0)) || ((r32 : Int) != 0))), (1, pv r1), (12, slv r28), (14, slv r31)] ?_ ?_)
 rcases Zb (((((((((((!r5) || (!r10)) || r15) || (!r20)) || (!r25)) || ((r6 : Int) != 0)) || ((r11 : Int) != 0)) || ((r16 : Int) != 0)) || ((r21 : Int) != 0)) || ((r26 : Int) != 0)) || ((r29 : Int) != 0)) with u44 | u44
 refine Zk u44 (Zk u44 (Zt u44 ?_))
 exact GL.jump0 (fun _ _ h => h) () rfl ⟨(by rw [u44]; rfl), rfl, rfl, rfl, trivial⟩
 refine Zu u44 Ym (Zu u44 (OV.ibin (v := .bool ((r32 : Int) != 0)) rfl rfl rfl) (Zn u44 ?_))
 exact GL.jump0 (fun _ _ h => h) () rfl ⟨(by rw [u44]; rfl), rfl, rfl, rfl, trivial⟩
 refine Zm ?_
 obtain ⟨J46, h, hR47⟩ := h
 refine GL.cut (α := Bool) 4 J46 (fun b45 => [(106, .bool b45), (1, pv r1), (12, slv r28), (14, slv r31)]) ?_ ?_
 rcases h.em with ⟨u48, h⟩ | ⟨u48, h⟩
 refine Zk u48 (Zk u48 (Zk u48 (Zt u48 ?_)))
 exact Yj I3 true h
 refine Zu u48 Ym (GL.call h (Yt u48) rfl Qcc (vs := [pv r1]) rfl ?_)
 rintro _ H50 ⟨r49, rfl, h⟩
 refine Zu u48 (OV.ibin (v := .bool ((r49 : Int) != 4)) rfl rfl rfl) (Zn u48 ?_)
 exact Yj I3 ((r49 : Int) != 4) h
 intro b45 H51 h
 replace h := hR47 b45 H51 h
 refine GL.nil (Yd h (fun u52 h => ?_) fun u52 h => ?_)
 refine Zo (Za (GL.nil ?_))
 exact Y1 I3 ⟨false, rfl, h⟩
 refine GC.skip (GC.seq (Zo (Zm (Zc h QT ?_))))
 rintro _ H54 ⟨r53, rfl, h⟩
 refine Zv (OV.build (vs := [(0, .agg (Qb.c r53).toArray), (1, .int .i64 (-1))]) (v := .agg (Qc.c (⟨r53, (-1)⟩ : Qc)).toArray) rfl (fun _ => by kernel_rfl)) (Zc h QT ?_)
 rintro _ H56 ⟨r55, rfl, h⟩
 refine Zv (OV.build (vs := [(0, .agg (Qb.c r55).toArray), (1, .int .i64 1)]) (v := .agg (Qc.c (⟨r55, 1⟩ : Qc)).toArray) rfl (fun _ => by kernel_rfl)) (GL.buildSlice (cs := (Qc.c (⟨r53, (-1)⟩ : Qc)) ++ (Qc.c (⟨r55, 1⟩ : Qc)) ++ []) h trivial rfl (vs := [(0, .agg (Qc.c (⟨r53, (-1)⟩ : Qc)).toArray), (1, .agg (Qc.c (⟨r55, 1⟩ : Qc)).toArray)]) rfl ⟨43, fun _ => by kernel_rfl⟩ ?_)
 intro b57 H58 h
 refine Zc h Qbd ?_
 rintro _ H60 ⟨r59, rfl, h⟩
 refine Zv (OV.not rfl) (Zm ?_)
 obtain ⟨J62, h, hR63⟩ := h
 refine GL.cut (α := Bool) 9 J62 (fun b61 => [(124, .bool b61), (1, pv r1)]) ?_ ?_
 rcases h.em with ⟨u64, h⟩ | ⟨u64, h⟩
 refine Zk u64 (Zk u64 (Zk u64 (Zk u64 (Zk u64 (Zk u64 (Zk u64 (Zk u64 (Zt u64 ?_))))))))
 exact Yj I3 true h
 refine Zu u64 Ym (GL.call h (Yt u64) rfl QT (vs := [sv [114], .int .i64 2]) rfl ?_)
 rintro _ H66 ⟨r65, rfl, h⟩
 refine Zu u64 (OV.build (vs := [(0, .agg (Qb.c r65).toArray), (1, .int .i64 1)]) (v := .agg (Qc.c (⟨r65, 1⟩ : Qc)).toArray) rfl (fun _ => by kernel_rfl)) (GL.call h (Yt u64) rfl QT (vs := [sv [115], .int .i64 1]) rfl ?_)
 rintro _ H68 ⟨r67, rfl, h⟩
 refine Zu u64 (OV.build (vs := [(0, .agg (Qb.c r67).toArray), (1, .int .i64 1)]) (v := .agg (Qc.c (⟨r67, 1⟩ : Qc)).toArray) rfl (fun _ => by kernel_rfl)) (GL.buildSlice (cs := (Qc.c (⟨r65, 1⟩ : Qc)) ++ (Qc.c (⟨r67, 1⟩ : Qc)) ++ []) h (Yt u64) rfl (vs := [(0, .agg (Qc.c (⟨r65, 1⟩ : Qc)).toArray), (1, .agg (Qc.c (⟨r67, 1⟩ : Qc)).toArray)]) rfl ⟨43, fun _ => by kernel_rfl⟩ ?_)
 intro b69 H70 h
 refine GL.call h (Yt u64) rfl Qbd (vs := [slv r31, slv (Sl.of (some (b69, 0)) 2 2)]) rfl ?_
 rintro _ H72 ⟨r71, rfl, h⟩
 refine Zu u64 (OV.not rfl) (Zn u64 ?_)
 exact Yj I3 (!r71) h
 intro b61 H73 h
 replace h := hR63 b61 H73 h
 refine GL.nil (Yd h (fun u74 h => ?_) fun u74 h => ?_)
 refine Zo (Za (GL.nil ?_))
 exact Y1 I3 ⟨false, rfl, h⟩
 refine GC.skip (Zo (Zm (Zc h Qd2 ?_)))
 rintro _ H76 ⟨r75, rfl, h⟩
 refine Za (GL.nil (Zo (Zm (Zi (.bool ((r75 : Int) == 0)) (Zm ?_)))))
 obtain ⟨J78, h, hR79⟩ := h
 refine GL.cut (α := Bool) 5 J78 (fun b77 => [(134, .bool b77), (1, pv r1)]) ?_ ?_
 rcases h.em with ⟨u80, h⟩ | ⟨u80, h⟩
 refine Zu u80 Ym (GL.call h (Yt u80) rfl Qcd (vs := [pv r1, sv [114]]) rfl ?_)
 rintro _ H82 ⟨r81, rfl, h⟩
 refine Zu u80 (OV.lenSl rfl rfl) (Zu u80 (OV.ibin (v := .bool (((Sl.len r81 : Int) : Int) == 2)) rfl rfl rfl) (Zt u80 ?_))
 exact Yj I3 (((Sl.len r81 : Int) : Int) == 2) h
 refine Zk u80 (Zk u80 (Zk u80 (Zk u80 (Zn u80 ?_))))
 exact Yj I3 false h
 intro b77 H83 h
 replace h := hR79 b77 H83 h
 refine Zm ?_
 obtain ⟨J85, h, hR86⟩ := h
 refine GL.cut (α := Bool) 5 J85 (fun b84 => [(140, .bool b84), (1, pv r1)]) ?_ ?_
 rcases h.em with ⟨u87, h⟩ | ⟨u87, h⟩
 refine Zu u87 Ym (GL.call h (Yt u87) rfl Qdp (vs := [pv r1]) rfl ?_)
 rintro _ H89 ⟨r88, rfl, h⟩
 refine Zu u87 (OV.lenSl rfl rfl) (Zu u87 (OV.ibin (v := .bool (((Sl.len r88 : Int) : Int) == 1)) rfl rfl rfl) (Zt u87 ?_))
 exact Yj I3 (((Sl.len r88 : Int) : Int) == 1) h
 refine Zk u87 (Zk u87 (Zk u87 (Zk u87 (Zn u87 ?_))))
 exact Yj I3 false h
 intro b84 H90 h
 replace h := hR86 b84 H90 h
 refine Zm ?_
 obtain ⟨J92, h, hR93⟩ := h
 refine GL.cut (α := Bool) 4 J92 (fun b91 => [(145, .bool b91), (1, pv r1)]) ?_ ?_
 rcases h.em with ⟨u94, h⟩ | ⟨u94, h⟩
 refine Zu u94 Ym (GL.call h (Yt u94) rfl QT (vs := [sv [114], .int .i64 1]) rfl ?_)
 rintro _ H96 ⟨r95, rfl, h⟩
 refine GL.call h (Yt u94) rfl QcE (vs := [pv r1, .agg (Qb.c r95).toArray]) rfl ?_
 rintro _ H98 ⟨r97, rfl, h⟩
 refine Zt u94 ?_
 exact Yj I3 r97 h
 refine Zk u94 (Zk u94 (Zk u94 (Zn u94 ?_)))
 exact Yj I3 false h
 intro b91 H99 h
 replace h := hR93 b91 H99 h
 refine Zm ?_
 obtain ⟨J101, h, hR102⟩ := h
 refine GL.cut (α := Bool) 5 J101 (fun b100 => [(151, .bool b100), (1, pv r1)]) ?_ ?_
 rcases h.em with ⟨u103, h⟩ | ⟨u103, h⟩
 refine Zu u103 Ym (GL.call h (Yt u103) rfl QT (vs := [sv [115], .int .i64 1]) rfl ?_)
 rintro _ H105 ⟨r104, rfl, h⟩
 refine GL.call h (Yt u103) rfl QcE (vs := [pv r1, .agg (Qb.c r104).toArray]) rfl ?_
 rintro _ H107 ⟨r106, rfl, h⟩
 refine Zu u103 (OV.not rfl) (Zt u103 ?_)
 exact Yj I3 (!r106) h
 refine Zk u103 (Zk u103 (Zk u103 (Zk u103 (Zn u103 ?_))))
 exact Yj I3 false h
 intro b100 H108 h
 replace h := hR102 b100 H108 h
 refine Zm ?_
 obtain ⟨J110, h, hR111⟩ := h
 refine GL.cut (α := Bool) 4 J110 (fun b109 => [(156, .bool b109)]) ?_ ?_
 rcases h.em with ⟨u112, h⟩ | ⟨u112, h⟩
 refine Zu u112 Ym (GL.call h (Yt u112) rfl Qcc (vs := [pv r1]) rfl ?_)
 rintro _ H114 ⟨r113, rfl, h⟩
 refine Zu u112 (OV.ibin (v := .bool ((r113 : Int) == 2)) rfl rfl rfl) (Zt u112 ?_)
 exact Yj I3 ((r113 : Int) == 2) h
 refine Zk u112 (Zk u112 (Zk u112 (Zn u112 ?_)))
 exact Yj I3 false h
 intro b109 H115 h
 replace h := hR111 b109 H115 h
 refine Za (GL.nil ?_)
 exact Y1 I3 ⟨b109, rfl, h⟩
def QhX (C : Ctx) (K : Option (Nat × Nat) → Heap → Prop) (H : Heap) : Prop :=
 mkM (fun b1 H2 =>
 nw (Q4.c (⟨(some b1), Sl.nil⟩ : Q4)) (fun b3 H4 =>
 K (some (b3, 0)) H4) H2) H
theorem Qke (C : Ctx) (K : Option (Nat × Nat) → Heap → Prop) (H : Heap) (h : QhX C  K H) : QeN C  K H := by
 refine Spec.enter Tryz.func9 rfl Tryz.ntmps9 rfl (GC.sub [] trivial (Zo (Za (GL.nil (Zo (GL.makeMap h trivial rfl ?_))))))
 intro b1 H2 h
 refine Zv (OV.build (vs := [(0, mv (some b1))]) (v := .agg (Q4.c (⟨(some b1), Sl.nil⟩ : Q4)).toArray) rfl (fun _ => by kernel_rfl)) (GL.box (v := .agg (Q4.c (⟨(some b1), Sl.nil⟩ : Q4)).toArray) (cs := Q4.c (⟨(some b1), Sl.nil⟩ : Q4)) h trivial rfl rfl rfl ?_)
 intro b3 H4 h
 refine Za (GL.nil ?_)
 exact Y1 I3 ⟨(some (b3, 0)), rfl, h⟩
end
end Sx
end
