/-
  Texts of this family, one behind the other: SlI, Sh1, Sh2.
-/
import Derived.Test.YtnpkgflmjibkeaaGreatDoorAB1
import Derived.Test.YtnpkgflmjibkeaaGreatDoorProg
noncomputable section
set_option linter.unusedVariables false
set_option linter.unusedSimpArgs false
set_option maxRecDepth 10000
namespace Sx
section
open Go
theorem Qfv {α β : Type} (f : α → List β) (z : Nat) (hz : ∀ x, (f x).length = z) : ∀ (l : List α) (i : Nat) (x : α), l[i]? = some x → ∀ (j : Nat) (v : β), (f x)[j]? = some v → (l.flatMap f)[i * z + j]? = some v
 | [], i, x, h, j, v, hv => by simp at h
 | y :: l, 0, x, h, j, v, hv => by
  simp at h; subst h
  rw [List.flatMap_cons, Nat.zero_mul, Nat.zero_add, List.getElem?_append_left (List.getElem?_eq_some_iff.1 hv).1]; exact hv
 | y :: l, i + 1, x, h, j, v, hv => by
  have := Qfv f z hz l i x (by simpa using h) j v hv
  rw [List.flatMap_cons, List.getElem?_append_right (by rw [hz, Nat.add_mul]; omega), hz]
  rw [show (i + 1) * z + j - z = i * z + j by rw [Nat.add_mul]; omega]; exact this
/-- a list in memory -/
def SlIs {α β : Type} (R : α → β → Prop) (c : β → List Value) (A : Heap) (s : Sl) (l : List α) : Prop :=
 ∃ xs : List β, rdsl A s (xs.flatMap c) ∧ s.len = xs.length ∧ l.length = xs.length ∧ l.length ≤ 140737488355328 ∧ ∀ (i : Nat) (v : α) (x : β), l[i]? = some v → xs[i]? = some x → R v x
section
variable {α β : Type} {R : α → β → Prop} {c : β → List Value} {A H : Heap} {s : Sl} {l : List α}
theorem SlIs.len (h : SlIs R c A s l) : s.len = l.length := by obtain ⟨xs, h1, h2, h3, _⟩ := h; omega
theorem SlIs.bd (h : SlIs R c A s l) : l.length ≤ 140737488355328 := by obtain ⟨xs, h1, h2, h3, h4, _⟩ := h; exact h4
theorem SlIs.at_ (h : SlIs R c A s l) (hle : A.le H) {z : Nat} (hz : ∀ x, (c x).length = z) (hz0 : 0 < z) {i : Nat} {x : Int} {K : Nat × Nat → Prop} (hx : x = i) (hi : i < l.length) (k : ∀ p y, R l[i] y → (∀ j v, (c y)[j]? = some v → rd H (p.1, p.2 + x.toNat * z + j) = some v) → K p) : ixa s x K := by
 obtain ⟨xs, h1, h2, h3, _, h4⟩ := h
 have hi2 : i < xs.length := by omega
 have hg := List.getElem?_eq_getElem hi2
 subst hx
 refine Qiw (QcX hle h1) (by omega) (by omega) (fun e => ?_) fun p _ hp => k p xs[i] (h4 i _ _ (List.getElem?_eq_getElem hi) hg) fun j v hj => ?_
 ·have := Qfv c z hz xs i _ hg 0 ((c xs[i])[0]'(by rw [hz]; exact hz0)) (by rw [List.getElem?_eq_getElem])
  rw [e] at this; simp at this
 ·have := QfE hp _ _ (Qfv c z hz xs i _ hg j v hj)
  have e0 : (i : Int).toNat = i := by omega
  rw [e0, Nat.add_assoc]; exact this
theorem SlIs.ld (h : SlIs R c A s l) (hle : A.le H) {z : Nat} (hz : ∀ x, (c x).length = z) (hz0 : 0 < z) {i : Nat} {x : Int} {K : β → Prop} (hx : x = i) (hi : i < l.length) (k : ∀ y, R l[i] y → K y) : ixa s x fun p => ldT H c (p.1, p.2 + x.toNat * z) K :=
 h.at_ hle hz hz0 hx hi fun p y hy hr => ⟨y, QdQ fun j v hj => hr j v hj, k y hy⟩
end
section
variable {α β : Type} {R R2 : α → β → Prop} {c : β → List Value} {A B : Heap} {s : Sl} {l : List α}
theorem SlIs.le (hle : A.le B) (h : SlIs R c A s l) (hR : ∀ v ∈ l, ∀ x, R v x → R2 v x) : SlIs R2 c B s l := by
 obtain ⟨xs, h1, h2, h3, h4, h5⟩ := h
 exact ⟨xs, QcX hle h1, h2, h3, h4, fun i v x hv hx => hR v (List.mem_of_getElem? hv) x (h5 i v x hv hx)⟩
end
section
variable {C : Ctx} {H : Heap}
theorem nwT {b : Nat} {cx c0 : List Value} {K : Heap → Prop} (hl : cx.length = c0.length) (k : K (H.put b (.row cx))) : stT (b, 0) cx K (H.put b (.row c0)) := by
 refine ⟨_, Heap.put_same .., by rw [hl]; simp, ?_⟩
 rw [Heap.put_put]
 have e : splice c0 (b, 0).2 cx = cx := by
  unfold splice
  rw [List.take_zero, List.nil_append, List.drop_of_length_le (by rw [hl]; simp), List.append_nil]
 rw [e]; exact k
theorem bxT {β : Type} {c : β → List Value} {b : Nat} {m : Bool} {x : β} {K : β → Prop} (h : H b = some (m, .row (c x))) (k : K x) : ldT H c (b, 0) K := ⟨x, Qb2 h fun j v hj => by rw [Nat.zero_add]; exact hj, k⟩
theorem fI {b j : Nat} {m : Bool} {cs : List Value} {q : IntKind} {t : Int} {K : Int → Prop} (h : H b = some (m, .row cs)) (hj : cs[j]? = some (.int q t)) (k : K t) : ldI H q ((b, 0).1, (b, 0).2 + j) K := ⟨t, by rw [Qn h, Nat.zero_add]; exact hj, k⟩
theorem fL {b j : Nat} {m : Bool} {cs : List Value} {t : Sl} {K : Sl → Prop} (h : H b = some (m, .row cs)) (hj : cs[j]? = some (slv t)) (k : K t) : ldL H ((b, 0).1, (b, 0).2 + j) K := ⟨t, by rw [Qn h, Nat.zero_add]; exact hj, k⟩
theorem fT {β : Type} {c : β → List Value} {b j : Nat} {m : Bool} {cs : List Value} {x : β} {K : β → Prop} (h : H b = some (m, .row cs)) (hj : ∀ i v, (c x)[i]? = some v → cs[j + i]? = some v) (k : K x) : ldT H c ((b, 0).1, (b, 0).2 + j) K := ⟨x, Qb2 h fun i v hi => by rw [Nat.zero_add]; exact hj i v hi, k⟩
end
section
variable {α β : Type} {R : α → β → Prop} {c : β → List Value} {A H : Heap} {s : Sl} {l : List α} {z : Nat} {i j : Nat} {x : Int}
theorem SlIs.fS {K : Str → Prop} (h : SlIs R c A s l) (hle : A.le H) (hz : ∀ x, (c x).length = z) (hz0 : 0 < z) (hx : x = i) (hi : i < l.length) {f : β → Str} (hj : ∀ y, (c y)[j]? = some (sv (f y))) (k : ∀ y, R l[i] y → K (f y)) : ixa s x fun p => ldS H ((p.1, p.2 + x.toNat * z).1, (p.1, p.2 + x.toNat * z).2 + j) K :=
 h.at_ hle hz hz0 hx hi fun p y hy hr => ⟨f y, hr j _ (hj y), k y hy⟩
theorem SlIs.fI {q : IntKind} {K : Int → Prop} (h : SlIs R c A s l) (hle : A.le H) (hz : ∀ x, (c x).length = z) (hz0 : 0 < z) (hx : x = i) (hi : i < l.length) {f : β → Int} (hj : ∀ y, (c y)[j]? = some (.int q (f y))) (k : ∀ y, R l[i] y → K (f y)) : ixa s x fun p => ldI H q ((p.1, p.2 + x.toNat * z).1, (p.1, p.2 + x.toNat * z).2 + j) K :=
 h.at_ hle hz hz0 hx hi fun p y hy hr => ⟨f y, hr j _ (hj y), k y hy⟩
theorem SlIs.fL {K : Sl → Prop} (h : SlIs R c A s l) (hle : A.le H) (hz : ∀ x, (c x).length = z) (hz0 : 0 < z) (hx : x = i) (hi : i < l.length) {f : β → Sl} (hj : ∀ y, (c y)[j]? = some (slv (f y))) (k : ∀ y, R l[i] y → K (f y)) : ixa s x fun p => ldL H ((p.1, p.2 + x.toNat * z).1, (p.1, p.2 + x.toNat * z).2 + j) K :=
 h.at_ hle hz hz0 hx hi fun p y hy hr => ⟨f y, hr j _ (hj y), k y hy⟩
theorem SlIs.fT {γ : Type} {d : γ → List Value} {K : γ → Prop} (h : SlIs R c A s l) (hle : A.le H) (hz : ∀ x, (c x).length = z) (hz0 : 0 < z) (hx : x = i) (hi : i < l.length) {f : β → γ} (hj : ∀ y n v, (d (f y))[n]? = some v → (c y)[j + n]? = some v) (k : ∀ y, R l[i] y → K (f y)) : ixa s x fun p => ldT H d ((p.1, p.2 + x.toNat * z).1, (p.1, p.2 + x.toNat * z).2 + j) K :=
 h.at_ hle hz hz0 hx hi fun p y hy hr => ⟨f y, QdQ fun n v hn => by
  have := hr (j + n) v (hj y n v hn)
  rw [← Nat.add_assoc] at this; exact this, k y hy⟩
end
theorem n1 {b : Bool} {P Q : Prop} (hb : b = true ↔ ¬P) (h : b = true) : (true = true ↔ ¬(P ∧ Q)) := ⟨fun _ hh => hb.1 h hh.1, fun _ => rfl⟩
theorem n2 {b r : Bool} {P Q : Prop} (hb : b = true ↔ ¬P) (h : b = false) (hr : r = true ↔ ¬Q) : (r = true ↔ ¬(P ∧ Q)) := by
 have hp : P := Classical.byContradiction fun e => by rw [hb.2 e] at h; cases h
 rw [hr]; exact ⟨fun hq hh => hq hh.2, fun hh hq => hh ⟨hp, hq⟩⟩
theorem n3 {b : Bool} {P : Prop} (hb : b = true ↔ ¬P) (h : b = false) : P := Classical.byContradiction fun e => by rw [hb.2 e] at h; cases h
end
section
set_option maxRecDepth 100000
open Go Go.Proofs
structure Qc where
 Rel : Str
 L : Sl
def Qc.c (x : Qc) : List Value := [sv x.Rel, slv x.L]
def Qc.zero : Qc := ⟨[], Sl.nil⟩
structure Qm where
 Kind : Int
 N : Int
 Row : Qc
def Qm.c (x : Qm) : List Value := [.int .u8 x.Kind, .int .i64 x.N, sv x.Row.Rel, slv x.Row.L]
structure Qa where
 Kind : Int
 N : Int
 S : Str
 L : Sl
def Qa.c (x : Qa) : List Value := [.int .u8 x.Kind, .int .i64 x.N, sv x.S, slv x.L]
def Qa.zero : Qa := ⟨0, 0, [], Sl.nil⟩
structure Qb where
 Row : Qc
 N : Int
def Qb.c (x : Qb) : List Value := [sv x.Row.Rel, slv x.Row.L, .int .i64 x.N]
def Qb.zero : Qb := ⟨Qc.zero, 0⟩
structure QZ where
 rels_ : Option Nat
 done_ : Sl
def QZ.c (x : QZ) : List Value := [mv x.rels_, slv x.done_]
structure Qd where
 rel_ : Str
 key_ : Str
 row_ : Sl
 undo_ : Value
def Qd.c (x : Qd) : List Value := [sv x.rel_, sv x.key_, slv x.row_, x.undo_]
def Qd.zero : Qd := ⟨[], [], Sl.nil, .nilFunc⟩
structure Qg where
 rel_ : Str
 key_ : Str
def Qg.c (x : Qg) : List Value := [sv x.rel_, sv x.key_]
def Qg.zero : Qg := ⟨[], []⟩
structure QjV where
 At : Sl
structure QfR where
 lo_ : Int
 hi_ : Int
theorem QdN : CallOk Tryz.prog 7 := ⟨⟨_, Tryz.func7, rfl, by decide +kernel⟩⟩
theorem QdM : CallOk Tryz.prog 8 := ⟨⟨_, Tryz.func8, rfl, by decide +kernel⟩⟩
theorem Qd5 : CallOk Tryz.prog 9 := ⟨⟨_, Tryz.func9, rfl, by decide +kernel⟩⟩
theorem Qel : CallOk Tryz.prog 10 := ⟨⟨_, Tryz.func10, rfl, by decide +kernel⟩⟩
theorem Qcc : CallOk Tryz.prog 11 := ⟨⟨_, Tryz.func11, rfl, by decide +kernel⟩⟩
theorem Qao : CallOk Tryz.prog 12 := ⟨⟨_, Tryz.func12, rfl, by decide +kernel⟩⟩
theorem QaP : CallOk Tryz.prog 13 := ⟨⟨_, Tryz.func13, rfl, by decide +kernel⟩⟩
theorem QW : CallOk Tryz.prog 14 := ⟨⟨_, Tryz.func14, rfl, by decide +kernel⟩⟩
theorem Qb0 : CallOk Tryz.prog 15 := ⟨⟨_, Tryz.func15, rfl, by decide +kernel⟩⟩
theorem Qcy : CallOk Tryz.prog 16 := ⟨⟨_, Tryz.func16, rfl, by decide +kernel⟩⟩
theorem Qc4 : CallOk Tryz.prog 17 := ⟨⟨_, Tryz.func17, rfl, by decide +kernel⟩⟩
theorem Qc5 : CallOk Tryz.prog 22 := ⟨⟨_, Tryz.func22, rfl, by decide +kernel⟩⟩
theorem Qdl : CallOk Tryz.prog 25 := ⟨⟨_, Tryz.func25, rfl, by decide +kernel⟩⟩
theorem QcB : CallOk Tryz.prog 26 := ⟨⟨_, Tryz.func26, rfl, by decide +kernel⟩⟩
theorem Qdi : CallOk Tryz.prog 28 := ⟨⟨_, Tryz.func28, rfl, by decide +kernel⟩⟩
theorem QP : CallOk Tryz.prog 29 := ⟨⟨_, Tryz.func29, rfl, by decide +kernel⟩⟩
theorem QbD : CallOk Tryz.prog 30 := ⟨⟨_, Tryz.func30, rfl, by decide +kernel⟩⟩
theorem QcC : CallOk Tryz.prog 31 := ⟨⟨_, Tryz.func31, rfl, by decide +kernel⟩⟩
theorem Qb1 : CallOk Tryz.prog 32 := ⟨⟨_, Tryz.func32, rfl, by decide +kernel⟩⟩
theorem QaD : CallOk Tryz.prog 33 := ⟨⟨_, Tryz.func33, rfl, by decide +kernel⟩⟩
theorem Qd4 : CallOk Tryz.prog 34 := ⟨⟨_, Tryz.func34, rfl, by decide +kernel⟩⟩
theorem QcU : CallOk Tryz.prog 35 := ⟨⟨_, Tryz.func35, rfl, by decide +kernel⟩⟩
theorem Q4 : CallOk Tryz.prog 36 := ⟨⟨_, Tryz.func36, rfl, by decide +kernel⟩⟩
theorem Qc6 : CallOk Tryz.prog 37 := ⟨⟨_, Tryz.func37, rfl, by decide +kernel⟩⟩
theorem Qd6 : CallOk Tryz.prog 38 := ⟨⟨_, Tryz.func38, rfl, by decide +kernel⟩⟩
theorem QdO : CallOk Tryz.prog 39 := ⟨⟨_, Tryz.func39, rfl, by decide +kernel⟩⟩
theorem QeL : CallOk Tryz.prog 40 := ⟨⟨_, Tryz.func40, rfl, by decide +kernel⟩⟩
theorem Qdm : CallOk Tryz.prog 41 := ⟨⟨_, Tryz.func41, rfl, by decide +kernel⟩⟩
theorem QeK : CallOk Tryz.prog 42 := ⟨⟨_, Tryz.func42, rfl, by decide +kernel⟩⟩
theorem QbC : CallOk Tryz.prog 43 := ⟨⟨_, Tryz.func43, rfl, by decide +kernel⟩⟩
theorem QaC : CallOk Tryz.prog 44 := ⟨⟨_, Tryz.func44, rfl, by decide +kernel⟩⟩
theorem QaO : CallOk Tryz.prog 55 := ⟨⟨_, Tryz.func55, rfl, by decide +kernel⟩⟩
theorem QbQ : CallOk Tryz.prog 56 := ⟨⟨_, Tryz.func56, rfl, by decide +kernel⟩⟩
theorem Qa5 : CallOk Tryz.prog 60 := ⟨⟨_, Tryz.func60, rfl, by decide +kernel⟩⟩
theorem QbW : CallOk Tryz.prog 63 := ⟨⟨_, Tryz.func63, rfl, by decide +kernel⟩⟩
theorem QeU : CallOk Tryz.prog 64 := ⟨⟨_, Tryz.func64, rfl, by decide +kernel⟩⟩
theorem QgE : CallOk Tryz.prog 65 := ⟨⟨_, Tryz.func65, rfl, by decide +kernel⟩⟩
theorem Qeo : CallOk Tryz.prog 66 := ⟨⟨_, Tryz.func66, rfl, by decide +kernel⟩⟩
theorem Qcr : CallOk Tryz.prog 67 := ⟨⟨_, Tryz.func67, rfl, by decide +kernel⟩⟩
theorem QgD : CallOk Tryz.prog 68 := ⟨⟨_, Tryz.func68, rfl, by decide +kernel⟩⟩
theorem QgC : CallOk Tryz.prog 69 := ⟨⟨_, Tryz.func69, rfl, by decide +kernel⟩⟩
theorem Qam : CallOk Tryz.prog 70 := ⟨⟨_, Tryz.func70, rfl, by decide +kernel⟩⟩
theorem Qan : CallOk Tryz.prog 88 := ⟨⟨_, Tryz.func88, rfl, by decide +kernel⟩⟩
theorem Qf2 : CallOk Tryz.prog 89 := ⟨⟨_, Tryz.func89, rfl, by decide +kernel⟩⟩
theorem QK : CallOk Tryz.prog 90 := ⟨⟨_, Tryz.func90, rfl, by decide +kernel⟩⟩
theorem QfC : CallOk Tryz.prog 91 := ⟨⟨_, Tryz.func91, rfl, by decide +kernel⟩⟩
theorem QeM : CallOk Tryz.prog 92 := ⟨⟨_, Tryz.func92, rfl, by decide +kernel⟩⟩
theorem QdP : CallOk Tryz.prog 93 := ⟨⟨_, Tryz.func93, rfl, by decide +kernel⟩⟩
theorem Qcd : CallOk Tryz.prog 94 := ⟨⟨_, Tryz.func94, rfl, by decide +kernel⟩⟩
theorem Qfz : CallOk Tryz.prog 95 := ⟨⟨_, Tryz.func95, rfl, by decide +kernel⟩⟩
theorem Qj : CallOk Tryz.prog 96 := ⟨⟨_, Tryz.func96, rfl, by decide +kernel⟩⟩
theorem Qk : CallOk Tryz.prog 97 := ⟨⟨_, Tryz.func97, rfl, by decide +kernel⟩⟩
theorem QfA : CallOk Tryz.prog 98 := ⟨⟨_, Tryz.func98, rfl, by decide +kernel⟩⟩
theorem Qdj : CallOk Tryz.prog 99 := ⟨⟨_, Tryz.func99, rfl, by decide +kernel⟩⟩
theorem QdK : CallOk Tryz.prog 100 := ⟨⟨_, Tryz.func100, rfl, by decide +kernel⟩⟩
theorem Qf3 : CallOk Tryz.prog 101 := ⟨⟨_, Tryz.func101, rfl, by decide +kernel⟩⟩
theorem Qcp : CallOk Tryz.prog 102 := ⟨⟨_, Tryz.func102, rfl, by decide +kernel⟩⟩
theorem QaH : CallOk Tryz.prog 131 := ⟨⟨_, Tryz.func131, rfl, by decide +kernel⟩⟩
theorem QdJ : CallOk Tryz.prog 132 := ⟨⟨_, Tryz.func132, rfl, by decide +kernel⟩⟩
theorem Qem : CallOk Tryz.prog 133 := ⟨⟨_, Tryz.func133, rfl, by decide +kernel⟩⟩
theorem QdI : CallOk Tryz.prog 134 := ⟨⟨_, Tryz.func134, rfl, by decide +kernel⟩⟩
theorem QfB : CallOk Tryz.prog 135 := ⟨⟨_, Tryz.func135, rfl, by decide +kernel⟩⟩
theorem Qf1 : CallOk Tryz.prog 136 := ⟨⟨_, Tryz.func136, rfl, by decide +kernel⟩⟩
theorem Qen : CallOk Tryz.prog 137 := ⟨⟨_, Tryz.func137, rfl, by decide +kernel⟩⟩
theorem Qav : CallOk Tryz.prog 138 := ⟨⟨_, Tryz.func138, rfl, by decide +kernel⟩⟩
theorem Qbt : CallOk Tryz.prog 139 := ⟨⟨_, Tryz.func139, rfl, by decide +kernel⟩⟩
theorem Qcb : CallOk Tryz.prog 151 := ⟨⟨_, Tryz.func151, rfl, by decide +kernel⟩⟩
theorem QbE : CallOk Tryz.prog 152 := ⟨⟨_, Tryz.func152, rfl, by decide +kernel⟩⟩
theorem Qek : CallOk Tryz.prog 153 := ⟨⟨_, Tryz.func153, rfl, by decide +kernel⟩⟩
theorem Qca : CallOk Tryz.prog 154 := ⟨⟨_, Tryz.func154, rfl, by decide +kernel⟩⟩
theorem Qdk : CallOk Tryz.prog 155 := ⟨⟨_, Tryz.func155, rfl, by decide +kernel⟩⟩
theorem Qfy : CallOk Tryz.prog 156 := ⟨⟨_, Tryz.func156, rfl, by decide +kernel⟩⟩
theorem QbY : CallOk Tryz.prog 157 := ⟨⟨_, Tryz.func157, rfl, by decide +kernel⟩⟩
theorem Q5 : CallOk Tryz.prog 166 := ⟨⟨_, Tryz.func166, rfl, by decide +kernel⟩⟩
theorem Qc3 : CallOk Tryz.prog 167 := ⟨⟨_, Tryz.func167, rfl, by decide +kernel⟩⟩
theorem Qbc : CallOk Tryz.prog 168 := ⟨⟨_, Tryz.func168, rfl, by decide +kernel⟩⟩
theorem QcW : CallOk Tryz.prog 169 := ⟨⟨_, Tryz.func169, rfl, by decide +kernel⟩⟩
theorem QcA : CallOk Tryz.prog 170 := ⟨⟨_, Tryz.func170, rfl, by decide +kernel⟩⟩
theorem QcV : CallOk Tryz.prog 171 := ⟨⟨_, Tryz.func171, rfl, by decide +kernel⟩⟩
theorem Qcz : CallOk Tryz.prog 172 := ⟨⟨_, Tryz.func172, rfl, by decide +kernel⟩⟩
theorem Qcq : CallOk Tryz.prog 173 := ⟨⟨_, Tryz.func173, rfl, by decide +kernel⟩⟩
theorem Qb9 : CallOk Tryz.prog 174 := ⟨⟨_, Tryz.func174, rfl, by decide +kernel⟩⟩
theorem QbZ : CallOk Tryz.prog 175 := ⟨⟨_, Tryz.func175, rfl, by decide +kernel⟩⟩
theorem QbB : CallOk Tryz.prog 176 := ⟨⟨_, Tryz.func176, rfl, by decide +kernel⟩⟩
theorem Qaw : CallOk Tryz.prog 182 := ⟨⟨_, Tryz.func182, rfl, by decide +kernel⟩⟩
theorem Q6 : CallOk Tryz.prog 186 := ⟨⟨_, Tryz.func186, rfl, by decide +kernel⟩⟩
theorem QbX : CallOk Tryz.prog 188 := ⟨⟨_, Tryz.func188, rfl, by decide +kernel⟩⟩
theorem Qau : CallOk Tryz.prog 189 := ⟨⟨_, Tryz.func189, rfl, by decide +kernel⟩⟩
theorem Qco : ExtOk Tryz.prog 158 Extern.AbiNoEscape.same := ⟨⟨_, Tryz.func158, by kernel_rfl, by kernel_rfl, by kernel_rfl, by kernel_rfl⟩⟩
theorem QaW : ExtOk Tryz.prog 195 Extern.BytealgIndexByte.indexByte := ⟨⟨_, Tryz.func195, by kernel_rfl, by kernel_rfl, by kernel_rfl, by kernel_rfl⟩⟩
abbrev tyB : TypeId := 136
abbrev tyE : TypeId := 5
abbrev Bd (bs : Str) : GO := .bld tyB tyE bs
theorem kOk71 : KOk Tryz.prog 71 kp := kPair (by kernel_rfl)
def QF (C : Ctx) (p_ahead : Sl) (p_behind : Sl) (K : Bool → Heap → Prop) (H : Heap) : Prop :=
 Spec Tryz.prog C 3 [slv p_ahead, slv p_behind] H (fun v H2 => ∃ (r0 : Bool), v = .bool r0 ∧ K r0 H2)
theorem QF.gh {C : Ctx} {p_ahead : Sl} {p_behind : Sl} {K : Bool → Heap → Prop} {H : Heap} (h : QF C p_ahead p_behind (fun r0 H2 => ∃ H0, Gh C H2 H0 ∧ K r0 H0) H) : QF C p_ahead p_behind K H :=
 Spec.gh (Spec.mono h fun _ H2 ⟨r0, hv, H0, hg, hk⟩ => ⟨H0, hg, r0, hv, hk⟩)
def QbN (C : Ctx) (p_l : Sl) (K : Bool → Heap → Prop) (H : Heap) : Prop :=
 Spec Tryz.prog C 7 [slv p_l] H (fun v H2 => ∃ (r0 : Bool), v = .bool r0 ∧ K r0 H2)
def QbM (C : Ctx) (K : Bool → Heap → Prop) (H : Heap) : Prop :=
 Spec Tryz.prog C 8 [] H (fun v H2 => ∃ (r0 : Bool), v = .bool r0 ∧ K r0 H2)
def Qcu (C : Ctx) (K : Option (Nat × Nat) → Heap → Prop) (H : Heap) : Prop :=
 Spec Tryz.prog C 9 [] H (fun v H2 => ∃ (r0 : Option (Nat × Nat)), v = pv r0 ∧ K r0 H2)
def Qbr (C : Ctx) (p_l : Option (Nat × Nat)) (p_o : Qm) (K : Heap → Prop) (H : Heap) : Prop :=
 Spec Tryz.prog C 10 [pv p_l, .agg (Qm.c p_o).toArray] H (fun v H2 => v = .tuple #[] ∧ K H2)
def Qbm (C : Ctx) (p_l : Option (Nat × Nat)) (K : Sl → Heap → Prop) (H : Heap) : Prop :=
 Spec Tryz.prog C 11 [pv p_l] H (fun v H2 => ∃ (r0 : Sl), v = slv r0 ∧ K r0 H2)
def Qy (C : Ctx) (p_l : Option (Nat × Nat)) (K : Int → Heap → Prop) (H : Heap) : Prop :=
 Spec Tryz.prog C 12 [pv p_l] H (fun v H2 => ∃ (r0 : Int), v = .int .i64 r0 ∧ K r0 H2)
theorem Qy.gh {C : Ctx} {p_l : Option (Nat × Nat)} {K : Int → Heap → Prop} {H : Heap} (h : Qy C p_l (fun r0 H2 => ∃ H0, Gh C H2 H0 ∧ K r0 H0) H) : Qy C p_l K H :=
 Spec.gh (Spec.mono h fun _ H2 ⟨r0, hv, H0, hg, hk⟩ => ⟨H0, hg, r0, hv, hk⟩)
def QR (C : Ctx) (p_l : Option (Nat × Nat)) (p_mark : Int) (K : Sl → Int → Heap → Prop) (H : Heap) : Prop :=
 Spec Tryz.prog C 13 [pv p_l, .int .i64 p_mark] H (fun v H2 => ∃ (r0 : Sl) (r1 : Int), v = .tuple #[slv r0, .int .i64 r1] ∧ K r0 r1 H2)
def Qq (C : Ctx) (p_l : Option (Nat × Nat)) (p_r : Qc) (K : Bool → Int → Heap → Prop) (H : Heap) : Prop :=
 Spec Tryz.prog C 14 [pv p_l, .agg (Qc.c p_r).toArray] H (fun v H2 => ∃ (r0 : Bool) (r1 : Int), v = .tuple #[.bool r0, .int .i64 r1] ∧ K r0 r1 H2)
def QV (C : Ctx) (p_l : Option (Nat × Nat)) (p_r : Qc) (K : Bool → Int → Heap → Prop) (H : Heap) : Prop :=
 Spec Tryz.prog C 15 [pv p_l, .agg (Qc.c p_r).toArray] H (fun v H2 => ∃ (r0 : Bool) (r1 : Int), v = .tuple #[.bool r0, .int .i64 r1] ∧ K r0 r1 H2)
def QaZ (C : Ctx) (p_a : Sl) (p_b : Sl) (K : Bool → Heap → Prop) (H : Heap) : Prop :=
 Spec Tryz.prog C 16 [slv p_a, slv p_b] H (fun v H2 => ∃ (r0 : Bool), v = .bool r0 ∧ K r0 H2)
def Qbg (C : Ctx) (p_l : Option (Nat × Nat)) (p_mark : Int) (K : Int → Heap → Prop) (H : Heap) : Prop :=
 Spec Tryz.prog C 17 [pv p_l, .int .i64 p_mark] H (fun v H2 => ∃ (r0 : Int), v = .int .i64 r0 ∧ K r0 H2)
def Qbh (C : Ctx) (p_l : Option (Nat × Nat)) (p_rel : Str) (K : Sl → Heap → Prop) (H : Heap) : Prop :=
 Spec Tryz.prog C 22 [pv p_l, sv p_rel] H (fun v H2 => ∃ (r0 : Sl), v = slv r0 ∧ K r0 H2)
def QaU (C : Ctx) (p_l : Option (Nat × Nat)) (p_r : Qc) (K : Bool → Heap → Prop) (H : Heap) : Prop :=
 Spec Tryz.prog C 25 [pv p_l, .agg (Qc.c p_r).toArray] H (fun v H2 => ∃ (r0 : Bool), v = .bool r0 ∧ K r0 H2)
def Qa0 (C : Ctx) (p_l : Option (Nat × Nat)) (K : Sl → Heap → Prop) (H : Heap) : Prop :=
 Spec Tryz.prog C 26 [pv p_l] H (fun v H2 => ∃ (r0 : Sl), v = slv r0 ∧ K r0 H2)
def QN (C : Ctx) (p_v : Qa) (p_most : Int) (K : Int → Heap → Prop) (H : Heap) : Prop :=
 Spec Tryz.prog C 28 [.agg (Qa.c p_v).toArray, .int .i64 p_most] H (fun v H2 => ∃ (r0 : Int), v = .int .i64 r0 ∧ K r0 H2)
theorem QN.gh {C : Ctx} {p_v : Qa} {p_most : Int} {K : Int → Heap → Prop} {H : Heap} (h : QN C p_v p_most (fun r0 H2 => ∃ H0, Gh C H2 H0 ∧ K r0 H0) H) : QN C p_v p_most K H :=
 Spec.gh (Spec.mono h fun _ H2 ⟨r0, hv, H0, hg, hk⟩ => ⟨H0, hg, r0, hv, hk⟩)
def QL (C : Ctx) (p_rel : Str) (p_n : Int) (K : Qc → Heap → Prop) (H : Heap) : Prop :=
 Spec Tryz.prog C 29 [sv p_rel, .int .i64 p_n] H (fun v H2 => ∃ (r0 : Qc), v = .agg (Qc.c r0).toArray ∧ K r0 H2)
def Qae (C : Ctx) (p_a : Sl) (p_b : Sl) (K : Bool → Heap → Prop) (H : Heap) : Prop :=
 Spec Tryz.prog C 30 [slv p_a, slv p_b] H (fun v H2 => ∃ (r0 : Bool), v = .bool r0 ∧ K r0 H2)
def Qa1 (C : Ctx) (p_l : Option (Nat × Nat)) (p_mark : Int) (K : Int → Heap → Prop) (H : Heap) : Prop :=
 Spec Tryz.prog C 31 [pv p_l, .int .i64 p_mark] H (fun v H2 => ∃ (r0 : Int), v = .int .i64 r0 ∧ K r0 H2)
def Qar (C : Ctx) (p_l : Sl) (K : Sl → Heap → Prop) (H : Heap) : Prop :=
 Spec Tryz.prog C 32 [slv p_l] H (fun v H2 => ∃ (r0 : Sl), v = slv r0 ∧ K r0 H2)
def QO (C : Ctx) (p_x : Sl) (p_cmp : Value) (K : Heap → Prop) (H : Heap) : Prop :=
 Spec Tryz.prog C 33 [slv p_x, p_cmp] H (fun v H2 => v = .tuple #[] ∧ K H2)
def Qbi (C : Ctx) (p_a : Qb) (p_b : Qb) (K : Int → Heap → Prop) (H : Heap) : Prop :=
 Spec Tryz.prog C 34 [.agg (Qb.c p_a).toArray, .agg (Qb.c p_b).toArray] H (fun v H2 => ∃ (r0 : Int), v = .int .i64 r0 ∧ K r0 H2)
def Qa7 (C : Ctx) (p_vals : Sl) (K : Int → Heap → Prop) (H : Heap) : Prop :=
 Spec Tryz.prog C 35 [slv p_vals] H (fun v H2 => ∃ (r0 : Int), v = .int .i64 r0 ∧ K r0 H2)
def Qw (C : Ctx) (p_x : Str) (p_y : Str) (K : Int → Heap → Prop) (H : Heap) : Prop :=
 Spec Tryz.prog C 36 [sv p_x, sv p_y] H (fun v H2 => ∃ (r0 : Int), v = .int .i64 r0 ∧ K r0 H2)
def Qbj (C : Ctx) (p_a : Sl) (p_b : Sl) (K : Int → Heap → Prop) (H : Heap) : Prop :=
 Spec Tryz.prog C 37 [slv p_a, slv p_b] H (fun v H2 => ∃ (r0 : Int), v = .int .i64 r0 ∧ K r0 H2)
def Qcv (C : Ctx) (p_l : Sl) (K : Str → Bool → Heap → Prop) (H : Heap) : Prop :=
 Spec Tryz.prog C 38 [slv p_l] H (fun v H2 => ∃ (r0 : Str) (r1 : Bool), v = .tuple #[sv r0, .bool r1] ∧ K r0 r1 H2)
def QbO (C : Ctx) (p_l : Option (Nat × Nat)) (p_rel : Str) (p_key : Str) (p_r : Sl) (K : Heap → Prop) (H : Heap) : Prop :=
 Spec Tryz.prog C 39 [pv p_l, sv p_rel, sv p_key, slv p_r] H (fun v H2 => v = .tuple #[] ∧ K H2)
def QbA (C : Ctx) (v0 : Nat × Nat) (v1 : Nat × Nat) (v2 : Nat × Nat) (K : Heap → Prop) (H : Heap) : Prop :=
 Spec Tryz.prog C 40 [pv (some v0), pv (some v1), pv (some v2)] H (fun v H2 => v = .tuple #[] ∧ K H2)
def Qbn (C : Ctx) (p_l : Option (Nat × Nat)) (p_rel : Str) (p_key : Str) (K : Heap → Prop) (H : Heap) : Prop :=
 Spec Tryz.prog C 41 [pv p_l, sv p_rel, sv p_key] H (fun v H2 => v = .tuple #[] ∧ K H2)
def Qbz (C : Ctx) (v0 : Nat × Nat) (v1 : Nat × Nat) (v2 : Nat × Nat) (v3 : Nat × Nat) (K : Heap → Prop) (H : Heap) : Prop :=
 Spec Tryz.prog C 42 [pv (some v0), pv (some v1), pv (some v2), pv (some v3)] H (fun v H2 => v = .tuple #[] ∧ K H2)
def Qaa (C : Ctx) (p_a : Sl) (p_b : Sl) (K : Bool → Heap → Prop) (H : Heap) : Prop :=
 Spec Tryz.prog C 43 [slv p_a, slv p_b] H (fun v H2 => ∃ (r0 : Bool), v = .bool r0 ∧ K r0 H2)
def Ql (C : Ctx) (p_s : Sl) (K : Value → Heap → Prop) (H : Heap) : Prop :=
 Spec Tryz.prog C 44 [slv p_s] H (fun v H2 => ∃ (r0 : Value), v = r0 ∧ K r0 H2)
theorem Ql.gh {C : Ctx} {p_s : Sl} {K : Value → Heap → Prop} {H : Heap} (h : Ql C p_s (fun r0 H2 => ∃ H0, Gh C H2 H0 ∧ K r0 H0) H) : Ql C p_s K H :=
 Spec.gh (Spec.mono h fun _ H2 ⟨r0, hv, H0, hg, hk⟩ => ⟨H0, hg, r0, hv, hk⟩)
def Qx (C : Ctx) (p_x : Sl) (p_cmp : Value) (K : Heap → Prop) (H : Heap) : Prop :=
 Spec Tryz.prog C 55 [slv p_x, p_cmp] H (fun v H2 => v = .tuple #[] ∧ K H2)
def QaF (C : Ctx) (p_x : Sl) (K : Heap → Prop) (H : Heap) : Prop :=
 Spec Tryz.prog C 56 [slv p_x] H (fun v H2 => v = .tuple #[] ∧ K H2)
def QC (C : Ctx) (p_s : Sl) (K : Sl → Heap → Prop) (H : Heap) : Prop :=
 Spec Tryz.prog C 60 [slv p_s] H (fun v H2 => ∃ (r0 : Sl), v = slv r0 ∧ K r0 H2)
def Q0 (C : Ctx) (p_x : Str) (K : Bool → Heap → Prop) (H : Heap) : Prop :=
 Spec Tryz.prog C 63 [sv p_x] H (fun v H2 => ∃ (r0 : Bool), v = .bool r0 ∧ K r0 H2)
def QcQ (C : Ctx) (p_l : Sl) (K : Bool → Heap → Prop) (H : Heap) : Prop :=
 Spec Tryz.prog C 64 [slv p_l] H (fun v H2 => ∃ (r0 : Bool), v = .bool r0 ∧ K r0 H2)
def Qdg (C : Ctx) (p_a : Bool) (p_b : Bool) (K : Int → Heap → Prop) (H : Heap) : Prop :=
 Spec Tryz.prog C 65 [.bool p_a, .bool p_b] H (fun v H2 => ∃ (r0 : Int), v = .int .i64 r0 ∧ K r0 H2)
def Qbs (C : Ctx) (p_a : Sl) (p_b : Sl) (K : Int → Heap → Prop) (H : Heap) : Prop :=
 Spec Tryz.prog C 66 [slv p_a, slv p_b] H (fun v H2 => ∃ (r0 : Int), v = .int .i64 r0 ∧ K r0 H2)
def QT (C : Ctx) (p_v : Qa) (K : Int → Heap → Prop) (H : Heap) : Prop :=
 Spec Tryz.prog C 67 [.agg (Qa.c p_v).toArray] H (fun v H2 => ∃ (r0 : Int), v = .int .i64 r0 ∧ K r0 H2)
theorem QT.gh {C : Ctx} {p_v : Qa} {K : Int → Heap → Prop} {H : Heap} (h : QT C p_v (fun r0 H2 => ∃ H0, Gh C H2 H0 ∧ K r0 H0) H) : QT C p_v K H :=
 Spec.gh (Spec.mono h fun _ H2 ⟨r0, hv, H0, hg, hk⟩ => ⟨H0, hg, r0, hv, hk⟩)
def Qa8 (C : Ctx) (p_v : Qa) (K : Str → Heap → Prop) (H : Heap) : Prop :=
 Spec Tryz.prog C 68 [.agg (Qa.c p_v).toArray] H (fun v H2 => ∃ (r0 : Str), v = sv r0 ∧ K r0 H2)
theorem Qa8.gh {C : Ctx} {p_v : Qa} {K : Str → Heap → Prop} {H : Heap} (h : Qa8 C p_v (fun r0 H2 => ∃ H0, Gh C H2 H0 ∧ K r0 H0) H) : Qa8 C p_v K H :=
 Spec.gh (Spec.mono h fun _ H2 ⟨r0, hv, H0, hg, hk⟩ => ⟨H0, hg, r0, hv, hk⟩)
def Q2 (C : Ctx) (p_a : Qa) (p_b : Qa) (K : Bool → Heap → Prop) (H : Heap) : Prop :=
 Spec Tryz.prog C 69 [.agg (Qa.c p_a).toArray, .agg (Qa.c p_b).toArray] H (fun v H2 => ∃ (r0 : Bool), v = .bool r0 ∧ K r0 H2)
theorem Q2.gh {C : Ctx} {p_a : Qa} {p_b : Qa} {K : Bool → Heap → Prop} {H : Heap} (h : Q2 C p_a p_b (fun r0 H2 => ∃ H0, Gh C H2 H0 ∧ K r0 H0) H) : Q2 C p_a p_b K H :=
 Spec.gh (Spec.mono h fun _ H2 ⟨r0, hv, H0, hg, hk⟩ => ⟨H0, hg, r0, hv, hk⟩)
def Qat (C : Ctx) (p_yield : Value) (v0 : Nat × Nat) (K : Heap → Prop) (H : Heap) : Prop :=
 Spec Tryz.prog C 70 [p_yield, pv (some v0)] H (fun v H2 => v = .tuple #[] ∧ K H2)
def Qr (C : Ctx) (p_s : Sl) (p_f : Value) (K : Bool → Heap → Prop) (H : Heap) : Prop :=
 Spec Tryz.prog C 88 [slv p_s, p_f] H (fun v H2 => ∃ (r0 : Bool), v = .bool r0 ∧ K r0 H2)
def Qah (C : Ctx) (p_v : Qa) (K : Bool → Heap → Prop) (H : Heap) : Prop :=
 Spec Tryz.prog C 89 [.agg (Qa.c p_v).toArray] H (fun v H2 => ∃ (r0 : Bool), v = .bool r0 ∧ K r0 H2)
theorem Qah.gh {C : Ctx} {p_v : Qa} {K : Bool → Heap → Prop} {H : Heap} (h : Qah C p_v (fun r0 H2 => ∃ H0, Gh C H2 H0 ∧ K r0 H0) H) : Qah C p_v K H :=
 Spec.gh (Spec.mono h fun _ H2 ⟨r0, hv, H0, hg, hk⟩ => ⟨H0, hg, r0, hv, hk⟩)
def Qe (C : Ctx) (p_s1 : Sl) (p_s2 : Sl) (p_cmp : Value) (K : Int → Heap → Prop) (H : Heap) : Prop :=
 Spec Tryz.prog C 90 [slv p_s1, slv p_s2, p_cmp] H (fun v H2 => ∃ (r0 : Int), v = .int .i64 r0 ∧ K r0 H2)
theorem Qe.gh {C : Ctx} {p_s1 : Sl} {p_s2 : Sl} {p_cmp : Value} {K : Int → Heap → Prop} {H : Heap} (h : Qe C p_s1 p_s2 p_cmp (fun r0 H2 => ∃ H0, Gh C H2 H0 ∧ K r0 H0) H) : Qe C p_s1 p_s2 p_cmp K H :=
 Spec.gh (Spec.mono h fun _ H2 ⟨r0, hv, H0, hg, hk⟩ => ⟨H0, hg, r0, hv, hk⟩)
def Qas (C : Ctx) (p_x : Qa) (p_y : Qa) (K : Int → Heap → Prop) (H : Heap) : Prop :=
 Spec Tryz.prog C 91 [.agg (Qa.c p_x).toArray, .agg (Qa.c p_y).toArray] H (fun v H2 => ∃ (r0 : Int), v = .int .i64 r0 ∧ K r0 H2)
theorem Qas.gh {C : Ctx} {p_x : Qa} {p_y : Qa} {K : Int → Heap → Prop} {H : Heap} (h : Qas C p_x p_y (fun r0 H2 => ∃ H0, Gh C H2 H0 ∧ K r0 H0) H) : Qas C p_x p_y K H :=
 Spec.gh (Spec.mono h fun _ H2 ⟨r0, hv, H0, hg, hk⟩ => ⟨H0, hg, r0, hv, hk⟩)
def Qz (C : Ctx) (p_v : Qa) (p_w : Qa) (K : Int → Heap → Prop) (H : Heap) : Prop :=
 Spec Tryz.prog C 92 [.agg (Qa.c p_v).toArray, .agg (Qa.c p_w).toArray] H (fun v H2 => ∃ (r0 : Int), v = .int .i64 r0 ∧ K r0 H2)
theorem Qz.gh {C : Ctx} {p_v : Qa} {p_w : Qa} {K : Int → Heap → Prop} {H : Heap} (h : Qz C p_v p_w (fun r0 H2 => ∃ H0, Gh C H2 H0 ∧ K r0 H0) H) : Qz C p_v p_w K H :=
 Spec.gh (Spec.mono h fun _ H2 ⟨r0, hv, H0, hg, hk⟩ => ⟨H0, hg, r0, hv, hk⟩)
def QU (C : Ctx) (p_v : Qa) (p_most : Int) (K : Int → Heap → Prop) (H : Heap) : Prop :=
 Spec Tryz.prog C 93 [.agg (Qa.c p_v).toArray, .int .i64 p_most] H (fun v H2 => ∃ (r0 : Int), v = .int .i64 r0 ∧ K r0 H2)
theorem QU.gh {C : Ctx} {p_v : Qa} {p_most : Int} {K : Int → Heap → Prop} {H : Heap} (h : QU C p_v p_most (fun r0 H2 => ∃ H0, Gh C H2 H0 ∧ K r0 H0) H) : QU C p_v p_most K H :=
 Spec.gh (Spec.mono h fun _ H2 ⟨r0, hv, H0, hg, hk⟩ => ⟨H0, hg, r0, hv, hk⟩)
def Qv (C : Ctx) (p_v : Qa) (K : Bool → Bool → Heap → Prop) (H : Heap) : Prop :=
 Spec Tryz.prog C 94 [.agg (Qa.c p_v).toArray] H (fun v H2 => ∃ (r0 : Bool) (r1 : Bool), v = .tuple #[.bool r0, .bool r1] ∧ K r0 r1 H2)
theorem Qv.gh {C : Ctx} {p_v : Qa} {K : Bool → Bool → Heap → Prop} {H : Heap} (h : Qv C p_v (fun r0 r1 H2 => ∃ H0, Gh C H2 H0 ∧ K r0 r1 H0) H) : Qv C p_v K H :=
 Spec.gh (Spec.mono h fun _ H2 ⟨r0, r1, hv, H0, hg, hk⟩ => ⟨H0, hg, r0, r1, hv, hk⟩)
def Qcm (C : Ctx) (p_l : Sl) (v0 : Nat × Nat) (v1 : Nat × Nat) (K : Heap → Prop) (H : Heap) : Prop :=
 Spec Tryz.prog C 95 [slv p_l, pv (some v0), pv (some v1)] H (fun v H2 => v = .tuple #[] ∧ K H2)
def Qf (C : Ctx) (p_b : Option (Nat × Nat)) (p_c : Int) (K : Value → Heap → Prop) (H : Heap) : Prop :=
 Spec Tryz.prog C 96 [pv p_b, .int .u8 p_c] H (fun v H2 => ∃ (r0 : Value), v = r0 ∧ K r0 H2)
theorem Qf.gh {C : Ctx} {p_b : Option (Nat × Nat)} {p_c : Int} {K : Value → Heap → Prop} {H : Heap} (h : Qf C p_b p_c (fun r0 H2 => ∃ H0, Gh C H2 H0 ∧ K r0 H0) H) : Qf C p_b p_c K H :=
 Spec.gh (Spec.mono h fun _ H2 ⟨r0, hv, H0, hg, hk⟩ => ⟨H0, hg, r0, hv, hk⟩)
def Qh (C : Ctx) (p_b : Option (Nat × Nat)) (p_s : Str) (K : Int → Value → Heap → Prop) (H : Heap) : Prop :=
 Spec Tryz.prog C 97 [pv p_b, sv p_s] H (fun v H2 => ∃ (r0 : Int) (r1 : Value), v = .tuple #[.int .i64 r0, r1] ∧ K r0 r1 H2)
theorem Qh.gh {C : Ctx} {p_b : Option (Nat × Nat)} {p_s : Str} {K : Int → Value → Heap → Prop} {H : Heap} (h : Qh C p_b p_s (fun r0 r1 H2 => ∃ H0, Gh C H2 H0 ∧ K r0 r1 H0) H) : Qh C p_b p_s K H :=
 Spec.gh (Spec.mono h fun _ H2 ⟨r0, r1, hv, H0, hg, hk⟩ => ⟨H0, hg, r0, r1, hv, hk⟩)
def QaV (C : Ctx) (p_v : Qa) (v0 : Nat × Nat) (v1 : Nat × Nat) (K : Heap → Prop) (H : Heap) : Prop :=
 Spec Tryz.prog C 98 [.agg (Qa.c p_v).toArray, pv (some v0), pv (some v1)] H (fun v H2 => v = .tuple #[] ∧ K H2)
def QaS (C : Ctx) (p_b : Bool) (K : Str → Heap → Prop) (H : Heap) : Prop :=
 Spec Tryz.prog C 99 [.bool p_b] H (fun v H2 => ∃ (r0 : Str), v = sv r0 ∧ K r0 H2)
def QbU (C : Ctx) (p_i : Int) (p_base : Int) (K : Str → Heap → Prop) (H : Heap) : Prop :=
 Spec Tryz.prog C 100 [.int .i64 p_i, .int .i64 p_base] H (fun v H2 => ∃ (r0 : Str), v = sv r0 ∧ K r0 H2)
def QcR (C : Ctx) (p_b : Option (Nat × Nat)) (p_s : Str) (K : Heap → Prop) (H : Heap) : Prop :=
 Spec Tryz.prog C 101 [pv p_b, sv p_s] H (fun v H2 => v = .tuple #[] ∧ K H2)
def Qp (C : Ctx) (p_b : Option (Nat × Nat)) (K : Str → Heap → Prop) (H : Heap) : Prop :=
 Spec Tryz.prog C 102 [pv p_b] H (fun v H2 => ∃ (r0 : Str), v = sv r0 ∧ K r0 H2)
theorem Qp.gh {C : Ctx} {p_b : Option (Nat × Nat)} {K : Str → Heap → Prop} {H : Heap} (h : Qp C p_b (fun r0 H2 => ∃ H0, Gh C H2 H0 ∧ K r0 H0) H) : Qp C p_b K H :=
 Spec.gh (Spec.mono h fun _ H2 ⟨r0, hv, H0, hg, hk⟩ => ⟨H0, hg, r0, hv, hk⟩)
def Qu (C : Ctx) (p_s : Sl) (p_f : Value) (K : Int → Heap → Prop) (H : Heap) : Prop :=
 Spec Tryz.prog C 131 [slv p_s, p_f] H (fun v H2 => ∃ (r0 : Int), v = .int .i64 r0 ∧ K r0 H2)
def Qa4 (C : Ctx) (p_x : Int) (p_y : Int) (K : Int → Heap → Prop) (H : Heap) : Prop :=
 Spec Tryz.prog C 132 [.int .u8 p_x, .int .u8 p_y] H (fun v H2 => ∃ (r0 : Int), v = .int .i64 r0 ∧ K r0 H2)
def Q3 (C : Ctx) (p_a : Str) (p_b : Str) (K : Int → Heap → Prop) (H : Heap) : Prop :=
 Spec Tryz.prog C 133 [sv p_a, sv p_b] H (fun v H2 => ∃ (r0 : Int), v = .int .i64 r0 ∧ K r0 H2)
theorem Q3.gh {C : Ctx} {p_a : Str} {p_b : Str} {K : Int → Heap → Prop} {H : Heap} (h : Q3 C p_a p_b (fun r0 H2 => ∃ H0, Gh C H2 H0 ∧ K r0 H0) H) : Q3 C p_a p_b K H :=
 Spec.gh (Spec.mono h fun _ H2 ⟨r0, hv, H0, hg, hk⟩ => ⟨H0, hg, r0, hv, hk⟩)
def Qa3 (C : Ctx) (p_x : Int) (p_y : Int) (K : Int → Heap → Prop) (H : Heap) : Prop :=
 Spec Tryz.prog C 134 [.int .i64 p_x, .int .i64 p_y] H (fun v H2 => ∃ (r0 : Int), v = .int .i64 r0 ∧ K r0 H2)
def Qcn (C : Ctx) (p_s : Str) (K : Int → Bool → Heap → Prop) (H : Heap) : Prop :=
 Spec Tryz.prog C 135 [sv p_s] H (fun v H2 => ∃ (r0 : Int) (r1 : Bool), v = .tuple #[.int .i64 r0, .bool r1] ∧ K r0 r1 H2)
def QcO (C : Ctx) (p_s : Str) (p_sep : Str) (K : Str → Str → Bool → Heap → Prop) (H : Heap) : Prop :=
 Spec Tryz.prog C 136 [sv p_s, sv p_sep] H (fun v H2 => ∃ (r0 : Str) (r1 : Str) (r2 : Bool), v = .tuple #[sv r0, sv r1, .bool r2] ∧ K r0 r1 r2 H2)
def Qa9 (C : Ctx) (p_s : Str) (K : Bool → Heap → Prop) (H : Heap) : Prop :=
 Spec Tryz.prog C 137 [sv p_s] H (fun v H2 => ∃ (r0 : Bool), v = .bool r0 ∧ K r0 H2)
def QD (C : Ctx) (p_b : Option (Nat × Nat)) (K : Heap → Prop) (H : Heap) : Prop :=
 Spec Tryz.prog C 138 [pv p_b] H (fun v H2 => v = .tuple #[] ∧ K H2)
def Qal (C : Ctx) (p_b : Bool) (K : Str → Heap → Prop) (H : Heap) : Prop :=
 Spec Tryz.prog C 139 [.bool p_b] H (fun v H2 => ∃ (r0 : Str), v = sv r0 ∧ K r0 H2)
def QaN (C : Ctx) (p_x : Int) (K : Bool → Heap → Prop) (H : Heap) : Prop :=
 Spec Tryz.prog C 151 [.int .u8 p_x] H (fun v H2 => ∃ (r0 : Bool), v = .bool r0 ∧ K r0 H2)
def Qaf (C : Ctx) (p_s : Str) (p_prefix : Str) (K : Bool → Heap → Prop) (H : Heap) : Prop :=
 Spec Tryz.prog C 152 [sv p_s, sv p_prefix] H (fun v H2 => ∃ (r0 : Bool), v = .bool r0 ∧ K r0 H2)
def Qbl (C : Ctx) (p_x : Int) (p_y : Int) (K : Int → Heap → Prop) (H : Heap) : Prop :=
 Spec Tryz.prog C 153 [.int .i64 p_x, .int .i64 p_y] H (fun v H2 => ∃ (r0 : Int), v = .int .i64 r0 ∧ K r0 H2)
def QaM (C : Ctx) (p_x : Int) (K : Bool → Heap → Prop) (H : Heap) : Prop :=
 Spec Tryz.prog C 154 [.int .i64 p_x] H (fun v H2 => ∃ (r0 : Bool), v = .bool r0 ∧ K r0 H2)
def QaT (C : Ctx) (p_s : Str) (p_prefix : Str) (K : Str → Heap → Prop) (H : Heap) : Prop :=
 Spec Tryz.prog C 155 [sv p_s, sv p_prefix] H (fun v H2 => ∃ (r0 : Str), v = sv r0 ∧ K r0 H2)
def Q9 (C : Ctx) (p_s : Str) (p_cutset : Str) (K : Str → Heap → Prop) (H : Heap) : Prop :=
 Spec Tryz.prog C 156 [sv p_s, sv p_cutset] H (fun v H2 => ∃ (r0 : Str), v = sv r0 ∧ K r0 H2)
theorem Q9.gh {C : Ctx} {p_s : Str} {p_cutset : Str} {K : Str → Heap → Prop} {H : Heap} (h : Q9 C p_s p_cutset (fun r0 H2 => ∃ H0, Gh C H2 H0 ∧ K r0 H0) H) : Q9 C p_s p_cutset K H :=
 Spec.gh (Spec.mono h fun _ H2 ⟨r0, hv, H0, hg, hk⟩ => ⟨H0, hg, r0, hv, hk⟩)
def QaQ (C : Ctx) (p_s : Str) (p_sep : Str) (K : Str → Str → Bool → Heap → Prop) (H : Heap) : Prop :=
 Spec Tryz.prog C 157 [sv p_s, sv p_sep] H (fun v H2 => ∃ (r0 : Str) (r1 : Str) (r2 : Bool), v = .tuple #[sv r0, sv r1, .bool r2] ∧ K r0 r1 r2 H2)
def Qt (C : Ctx) (p_s : Str) (p_prefix : Str) (K : Bool → Heap → Prop) (H : Heap) : Prop :=
 Spec Tryz.prog C 166 [sv p_s, sv p_prefix] H (fun v H2 => ∃ (r0 : Bool), v = .bool r0 ∧ K r0 H2)
def Qbf (C : Ctx) (p_x : Int) (K : Bool → Heap → Prop) (H : Heap) : Prop :=
 Spec Tryz.prog C 167 [.int .i64 p_x] H (fun v H2 => ∃ (r0 : Bool), v = .bool r0 ∧ K r0 H2)
def Q1 (C : Ctx) (p_s : Str) (p_prefix : Str) (K : Str → Heap → Prop) (H : Heap) : Prop :=
 Spec Tryz.prog C 168 [sv p_s, sv p_prefix] H (fun v H2 => ∃ (r0 : Str), v = sv r0 ∧ K r0 H2)
def Qdd (C : Ctx) (p_s : Str) (p_c : Int) (K : Str → Heap → Prop) (H : Heap) : Prop :=
 Spec Tryz.prog C 169 [sv p_s, .int .u8 p_c] H (fun v H2 => ∃ (r0 : Str), v = sv r0 ∧ K r0 H2)
def QcP (C : Ctx) (p_s : Str) (p_c : Int) (K : Str → Heap → Prop) (H : Heap) : Prop :=
 Spec Tryz.prog C 170 [sv p_s, .int .u8 p_c] H (fun v H2 => ∃ (r0 : Str), v = sv r0 ∧ K r0 H2)
def Qs (C : Ctx) (p_chars : Str) (K : List Value → Bool → Heap → Prop) (H : Heap) : Prop :=
 Spec Tryz.prog C 171 [sv p_chars] H (fun v H2 => ∃ (r0 : List Value) (r1 : Bool), v = .tuple #[.agg (List.toArray r0), .bool r1] ∧ K r0 r1 H2)
theorem Qs.gh {C : Ctx} {p_chars : Str} {K : List Value → Bool → Heap → Prop} {H : Heap} (h : Qs C p_chars (fun r0 r1 H2 => ∃ H0, Gh C H2 H0 ∧ K r0 r1 H0) H) : Qs C p_chars K H :=
 Spec.gh (Spec.mono h fun _ H2 ⟨r0, r1, hv, H0, hg, hk⟩ => ⟨H0, hg, r0, r1, hv, hk⟩)
def Qag (C : Ctx) (p_s : Str) (p_as : Option (Nat × Nat)) (K : Str → Heap → Prop) (H : Heap) : Prop :=
 Spec Tryz.prog C 172 [sv p_s, pv p_as] H (fun v H2 => ∃ (r0 : Str), v = sv r0 ∧ K r0 H2)
def Qab (C : Ctx) (p_s : Str) (p_as : Option (Nat × Nat)) (K : Str → Heap → Prop) (H : Heap) : Prop :=
 Spec Tryz.prog C 173 [sv p_s, pv p_as] H (fun v H2 => ∃ (r0 : Str), v = sv r0 ∧ K r0 H2)
def Qcl (C : Ctx) (p_s : Str) (p_cutset : Str) (K : Str → Heap → Prop) (H : Heap) : Prop :=
 Spec Tryz.prog C 174 [sv p_s, sv p_cutset] H (fun v H2 => ∃ (r0 : Str), v = sv r0 ∧ K r0 H2)
def Qb8 (C : Ctx) (p_s : Str) (p_cutset : Str) (K : Str → Heap → Prop) (H : Heap) : Prop :=
 Spec Tryz.prog C 175 [sv p_s, sv p_cutset] H (fun v H2 => ∃ (r0 : Str), v = sv r0 ∧ K r0 H2)
def QS (C : Ctx) (p_s : Str) (p_substr : Str) (K : Int → Heap → Prop) (H : Heap) : Prop :=
 Spec Tryz.prog C 176 [sv p_s, sv p_substr] H (fun v H2 => ∃ (r0 : Int), v = .int .i64 r0 ∧ K r0 H2)
def QE (C : Ctx) (p_as : Option (Nat × Nat)) (p_c : Int) (K : Bool → Heap → Prop) (H : Heap) : Prop :=
 Spec Tryz.prog C 182 [pv p_as, .int .u8 p_c] H (fun v H2 => ∃ (r0 : Bool), v = .bool r0 ∧ K r0 H2)
def QJ (C : Ctx) (p_s : Str) (p_c : Int) (K : Int → Heap → Prop) (H : Heap) : Prop :=
 Spec Tryz.prog C 186 [sv p_s, .int .u8 p_c] H (fun v H2 => ∃ (r0 : Int), v = .int .i64 r0 ∧ K r0 H2)
def Qb7 (C : Ctx) (p_n : Int) (K : Int → Heap → Prop) (H : Heap) : Prop :=
 Spec Tryz.prog C 188 [.int .i64 p_n] H (fun v H2 => ∃ (r0 : Int), v = .int .i64 r0 ∧ K r0 H2)
def QaB (C : Ctx) (p_s : Str) (p_sep : Str) (K : Int → Heap → Prop) (H : Heap) : Prop :=
 Spec Tryz.prog C 189 [sv p_s, sv p_sep] H (fun v H2 => ∃ (r0 : Int), v = .int .i64 r0 ∧ K r0 H2)
def QcD (C : Ctx) (p_ahead : Sl) (p_behind : Sl) (K : Bool → Heap → Prop) (H : Heap) : Prop :=
 QbN C p_ahead (fun r1 H2 =>
 jn (α := Bool) (fun b3 H9 =>
 jn (α := Bool) (fun b10 H16 =>
 ift b10
 (QbM C (fun r18 H19 =>
 K r18 H19) H16)
 (Qcu C (fun r20 H21 =>
 lp (α := Int) 0 H21 (fun x22 J23 H24 =>
 ift (decide ((x22 : Int) < (Sl.len p_ahead : Int)))
 (ixa p_ahead x22 fun p26 =>
 ldT H24 Qm.c (p26.1, p26.2 + (x22 : Int).toNat * 4) fun x31 =>
 Qbr C r20 x31 (fun H33 =>
 J23 (w .i64 (x22 + 1)) H33) H24)
 (Qbm C r20 (fun r34 H35 =>
 Qy C r20 (fun r36 H37 =>
 lp (α := Int) 0 H37 (fun x38 J39 H40 =>
 ift (decide ((x38 : Int) < (Sl.len p_behind : Int)))
 (ixa p_behind x38 fun p42 =>
 ldT H40 Qm.c (p42.1, p42.2 + (x38 : Int).toNat * 4) fun x47 =>
 Qbr C r20 x47 (fun H49 =>
 J39 (w .i64 (x38 + 1)) H49) H40)
 (Qbm C r20 (fun r50 H51 =>
 QR C r20 r36 (fun r52 r53 H54 =>
 jn (α := Bool) (fun b55 H61 =>
 ift b55
 (K false H61)
 (Qcu C (fun r63 H64 =>
 lp (α := Int) 0 H64 (fun x65 J66 H67 =>
 ift (decide ((x65 : Int) < (Sl.len r34 : Int)))
 (ixa r34 x65 fun p69 =>
 ldT H67 Qc.c (p69.1, p69.2 + (x65 : Int).toNat * 2) fun x74 =>
 Qq C r63 x74 (fun r76 r77 H78 =>
 J66 (w .i64 (x65 + 1)) H78) H67)
 (lp (α := Int) 0 H67 (fun x79 J80 H81 =>
 ift (decide ((x79 : Int) < (Sl.len r52 : Int)))
 (jn (α := Int × Bool) (fun x84 H85 =>
 ift ((!x84.2) || ((x84.1 : Int) != 0))
 (K false H85)
 (J80 (w .i64 (x79 + 1)) H85))
 (fun J83 => ixa r52 x79 fun p87 =>
 ldI H81 .i64 ((p87.1, p87.2 + (x79 : Int).toNat * 3).1, (p87.1, p87.2 + (x79 : Int).toNat * 3).2 + 2) fun x92 =>
 ift ((x92 : Int) == 1)
 (ixa r52 x79 fun p95 =>
 ldT H81 Qc.c ((p95.1, p95.2 + (x79 : Int).toNat * 3).1, (p95.1, p95.2 + (x79 : Int).toNat * 3).2 + 0) fun x100 =>
 Qq C r63 x100 (fun r102 r103 H104 =>
 J83 (r103, r102) H104) H81)
 (ixa r52 x79 fun p105 =>
 ldT H81 Qc.c ((p105.1, p105.2 + (x79 : Int).toNat * 3).1, (p105.1, p105.2 + (x79 : Int).toNat * 3).2 + 0) fun x110 =>
 QV C r63 x110 (fun r112 r113 H114 =>
 J83 (r113, r112) H114) H81)))
 (Qbm C r63 (fun r117 H118 =>
 QaZ C r117 r50 (fun r119 H120 =>
 jn (α := Bool) (fun b121 H127 =>
 jn (α := Bool) (fun b128 H136 =>
 jn (α := Bool) (fun b137 H143 =>
 ift b137
 (K false H143)
 (QR C r20 r36 (fun r145 r146 H147 =>
 K (((r146 : Int) == 0) && (((Sl.len r145 : Int) : Int) == 0)) H147) H143))
 (fun J138 => ift b128
 (J138 true H136)
 (Qy C r20 (fun r141 H142 =>
 J138 ((r141 : Int) != r36) H142) H136)))
 (fun J129 => ift b121
 (J129 true H127)
 (Qbm C r20 (fun r132 H133 =>
 QaZ C r132 r34 (fun r134 H135 =>
 J129 (!r134) H135) H133) H127)))
 (fun J122 => ift (!r119)
 (J122 true H120)
 (Qbg C r20 r36 (fun r125 H126 =>
 J122 ((r125 : Int) != 0) H126) H120))) H118) H81))))) H61))
 (fun J56 => ift ((r53 : Int) != 0)
 (J56 true H54)
 (Qy C r20 (fun r59 H60 =>
 J56 (decide (((Sl.len r52 : Int) : Int) > (w .i64 (r59 - r36)))) H60) H54))) H51) H40))) H35) H24))) H16))
 (fun J11 => ift b3
 (J11 true H9)
 (QbM C (fun r14 H15 =>
 J11 (!r14) H15) H9)))
 (fun J4 => ift r1
 (J4 true H2)
 (QbN C p_behind (fun r7 H8 =>
 J4 r7 H8) H2))) H
theorem Qez (C p_ahead p_behind K H) (h : QcD C p_ahead p_behind K H) : QF C p_ahead p_behind K H := by
 refine Ye Tryz.func3 rfl Tryz.ntmps3 [(0, slv p_ahead), (1, slv p_behind)] (Zo (Za (GL.nil (GC.seq (Zo (Zm (Zc h QdN ?_)))))))
 rintro _ H2 ⟨r1, rfl, h⟩
 refine Zm ?_
 obtain ⟨J4, h, hR5⟩ := h
 refine GL.cut (α := Bool) 3 J4 (fun b3 => [(22, .bool b3), (0, slv p_ahead), (1, slv p_behind)]) ?_ ?_
 rcases h.em with ⟨u6, h⟩ | ⟨u6, h⟩
 refine Zk u6 (Zk u6 (Zt u6 ?_))
 exact Yj I3 true h
 refine Zu u6 Ym (GL.call h (Yt u6) rfl QdN (vs := [slv p_behind]) rfl ?_)
 rintro _ H8 ⟨r7, rfl, h⟩
 refine Zn u6 ?_
 exact Yj I3 r7 h
 intro b3 H9 h
 replace h := hR5 b3 H9 h
 refine Zm ?_
 obtain ⟨J11, h, hR12⟩ := h
 refine GL.cut (α := Bool) 3 J11 (fun b10 => [(26, .bool b10), (0, slv p_ahead), (1, slv p_behind)]) ?_ ?_
 rcases h.em with ⟨u13, h⟩ | ⟨u13, h⟩
 refine Zk u13 (Zk u13 (Zt u13 ?_))
 exact Yj I3 true h
 refine GL.call h (Yt u13) rfl QdM (vs := []) rfl ?_
 rintro _ H15 ⟨r14, rfl, h⟩
 refine Zu u13 (OV.not rfl) (Zn u13 ?_)
 exact Yj I3 (!r14) h
 intro b10 H16 h
 replace h := hR12 b10 H16 h
 refine GL.nil (Yd h (fun u17 h => ?_) fun u17 h => ?_)
 refine Zo (Zc h QdM ?_)
 rintro _ H19 ⟨r18, rfl, h⟩
 refine Za (GL.nil ?_)
 exact Y1 I3 ⟨r18, rfl, h⟩
 refine GC.skip (Zo (Zc h Qd5 ?_))
 rintro _ H21 ⟨r20, rfl, h⟩
 refine Za (GL.nil (GC.seq (Zo (Za (GL.nil (GC.block (Yp h (fun x22 => [(6, .int .i64 x22), (0, slv p_ahead), (1, slv p_behind), (5, pv r20)]) ?_)))))))
 intro x22 H24 J23 h
 refine GC.seq (Zo (Zm (Zm (Zq (Zi (.bool (decide ((x22 : Int) < (Sl.len p_ahead : Int)))) (GL.nil (Yd h (fun u25 h => ?_) fun u25 h => ?_)))))))
 refine GC.skip (GC.seq (GC.block (GC.region (Zm (Zm (Zm (Yx h fun p26 h => ?_)))))))
 obtain ⟨x31, v32, h⟩ := h
 refine Zv (OV.loadT rfl rfl rfl v32) (Zc h Qel ?_)
 rintro _ H33 ⟨rfl, h⟩
 refine GL.nil_to (fun _ _ h => h) (GC.region (Zm (Zi (.int .i64 (w .i64 (x22 + 1))) (Za ?_))))
 exact Yj I3 (w .i64 (x22 + 1)) h
 refine GC.exit_to (fun _ _ h => h) (Zo (Zm (Zc h Qcc ?_)))
 rintro _ H35 ⟨r34, rfl, h⟩
 refine Zm (Zc h Qao ?_)
 rintro _ H37 ⟨r36, rfl, h⟩
 refine Za (Za (GL.nil (GC.seq (Zo (Za (GL.nil (GC.block (Yp h (fun x38 => [(9, .int .i64 x38), (1, slv p_behind), (5, pv r20), (7, slv r34), (8, .int .i64 r36)]) ?_))))))))
 intro x38 H40 J39 h
 refine GC.seq (Zo (Zm (Zm (Zq (Zi (.bool (decide ((x38 : Int) < (Sl.len p_behind : Int)))) (GL.nil (Yd h (fun u41 h => ?_) fun u41 h => ?_)))))))
 refine GC.skip (GC.seq (GC.block (GC.region (Zm (Zm (Zm (Yx h fun p42 h => ?_)))))))
 obtain ⟨x47, v48, h⟩ := h
 refine Zv (OV.loadT rfl rfl rfl v48) (Zc h Qel ?_)
 rintro _ H49 ⟨rfl, h⟩
 refine GL.nil_to (fun _ _ h => h) (GC.region (Zm (Zi (.int .i64 (w .i64 (x38 + 1))) (Za ?_))))
 exact Yj I3 (w .i64 (x38 + 1)) h
 refine GC.exit_to (fun _ _ h => h) (Zo (Zm (Zc h Qcc ?_)))
 rintro _ H51 ⟨r50, rfl, h⟩
 refine Za (GL.nil (Zo (Zm (Zm (Zc h QaP ?_)))))
 rintro _ H54 ⟨r52, r53, rfl, h⟩
 refine Zm (Yv (slv r52) rfl rfl (Yv (.int .i64 r53) rfl rfl (Za (Za (GL.nil (GC.seq (Zo (Zm (Zi (.bool ((r53 : Int) != 0)) (Zm ?_))))))))))
 obtain ⟨J56, h, hR57⟩ := h
 refine GL.cut (α := Bool) 8 J56 (fun b55 => [(75, .bool b55), (5, pv r20), (7, slv r34), (8, .int .i64 r36), (10, slv r50), (11, slv r52)]) ?_ ?_
 rcases h.em with ⟨u58, h⟩ | ⟨u58, h⟩
 refine Zk u58 (Zk u58 (Zk u58 (Zk u58 (Zk u58 (Zk u58 (Zk u58 (Zt u58 ?_)))))))
 exact Yj I3 true h
 refine Zu u58 Ym (Zu u58 (OV.lenSl rfl rfl) (Zu u58 Ym (GL.call h (Yt u58) rfl Qao (vs := [pv r20]) rfl ?_)))
 rintro _ H60 ⟨r59, rfl, h⟩
 refine Zu u58 Ym (Zu u58 (OV.ibin (v := .int .i64 (w .i64 (r59 - r36))) rfl rfl rfl) (Zu u58 (OV.ibin (v := .bool (decide (((Sl.len r52 : Int) : Int) > (w .i64 (r59 - r36))))) rfl rfl rfl) (Zn u58 ?_)))
 exact Yj I3 (decide (((Sl.len r52 : Int) : Int) > (w .i64 (r59 - r36)))) h
 intro b55 H61 h
 replace h := hR57 b55 H61 h
 refine GL.nil (Yd h (fun u62 h => ?_) fun u62 h => ?_)
 refine Zo (Za (GL.nil ?_))
 exact Y1 I3 ⟨false, rfl, h⟩
 refine GC.skip (Zo (Zc h Qd5 ?_))
 rintro _ H64 ⟨r63, rfl, h⟩
 refine Za (GL.nil (GC.seq (Zo (Za (GL.nil (GC.block (Yp h (fun x65 => [(14, .int .i64 x65), (5, pv r20), (7, slv r34), (8, .int .i64 r36), (10, slv r50), (11, slv r52), (13, pv r63)]) ?_)))))))
 intro x65 H67 J66 h
 refine GC.seq (Zo (Zm (Zm (Zq (Zi (.bool (decide ((x65 : Int) < (Sl.len r34 : Int)))) (GL.nil (Yd h (fun u68 h => ?_) fun u68 h => ?_)))))))
 refine GC.skip (GC.seq (GC.block (GC.region (Zm (Zm (Zm (Yx h fun p69 h => ?_)))))))
 obtain ⟨x74, v75, h⟩ := h
 refine Zv (OV.loadT rfl rfl rfl v75) (Zc h QW ?_)
 rintro _ H78 ⟨r76, r77, rfl, h⟩
 refine GL.nil_to (fun _ _ h => h) (GC.region (Zm (Zi (.int .i64 (w .i64 (x65 + 1))) (Za ?_))))
 exact Yj I3 (w .i64 (x65 + 1)) h
 refine GC.exit_to (fun _ _ h => h) (GC.seq (Zo (Za (GL.nil (GC.block (Yp h (fun x79 => [(15, .int .i64 x79), (5, pv r20), (7, slv r34), (8, .int .i64 r36), (10, slv r50), (11, slv r52), (13, pv r63)]) ?_))))))
 intro x79 H81 J80 h
 refine GC.seq (Zo (Zm (Zm (Zq (Zi (.bool (decide ((x79 : Int) < (Sl.len r52 : Int)))) (GL.nil (Yd h (fun u82 h => ?_) fun u82 h => ?_)))))))
 refine GC.skip (GC.seq (GC.block (Zo (Za (GL.nil ?_)))))
 obtain ⟨J83, h, hR86⟩ := h
 refine GC.join (α := Int × Bool) J83 (fun x84 => [(12, .int .i64 x84.1), (16, .bool x84.2), (5, pv r20), (7, slv r34), (8, .int .i64 r36), (10, slv r50), (11, slv r52), (13, pv r63), (15, .int .i64 x79)]) ?_ ?_
 refine Zo (Zm (Zm (Yx h fun p87 h => ?_)))
 refine Zf (Yl h fun x92 h => ?_)
 refine Zi (.bool ((x92 : Int) == 1)) (GL.nil (Yd h (fun u94 h => ?_) fun u94 h => ?_))
 refine GC.region (Zm (Zm (Zm (Yx h fun p95 h => ?_))))
 refine Zf ?_
 obtain ⟨x100, v101, h⟩ := h
 refine Zv (OV.loadT rfl rfl rfl v101) (Zc h QW ?_)
 rintro _ H104 ⟨r102, r103, rfl, h⟩
 refine Zm (Yv (.bool r102) rfl rfl (Yv (.int .i64 r103) rfl rfl (Za (Za ?_))))
 exact Yj I3 (r103, r102) h
 refine GC.region (Zm (Zm (Zm (Yx h fun p105 h => ?_))))
 refine Zf ?_
 obtain ⟨x110, v111, h⟩ := h
 refine Zv (OV.loadT rfl rfl rfl v111) (Zc h Qb0 ?_)
 rintro _ H114 ⟨r112, r113, rfl, h⟩
 refine Zm (Yv (.bool r112) rfl rfl (Yv (.int .i64 r113) rfl rfl (Za (Za ?_))))
 exact Yj I3 (r113, r112) h
 intro x84 H85 h
 replace h := hR86 x84 H85 h
 refine Zo (Zm (Zv (OV.not rfl) (Zm (GL.cut0 3 [(126, .bool ((!x84.2) || ((x84.1 : Int) != 0))), (5, pv r20), (7, slv r34), (8, .int .i64 r36), (10, slv r50), (11, slv r52), (13, pv r63), (15, .int .i64 x79)] ?_ ?_))))
 rcases Zb (!x84.2) with u115 | u115
 refine Zk u115 (Zk u115 (Zt u115 ?_))
 exact GL.jump0 (fun _ _ h => h) () rfl ⟨(by rw [u115]; rfl), rfl, rfl, rfl, rfl, rfl, rfl, rfl, trivial⟩
 refine Zu u115 Ym (Zu u115 (OV.ibin (v := .bool ((x84.1 : Int) != 0)) rfl rfl rfl) (Zn u115 ?_))
 exact GL.jump0 (fun _ _ h => h) () rfl ⟨(by rw [u115]; rfl), rfl, rfl, rfl, rfl, rfl, rfl, rfl, trivial⟩
 refine GL.nil (Yd h (fun u116 h => ?_) fun u116 h => ?_)
 refine Zo (Za (GL.nil ?_))
 exact Y1 I3 ⟨false, rfl, h⟩
 refine GC.skip_to (fun _ _ h => h) (GC.region (Zm (Zi (.int .i64 (w .i64 (x79 + 1))) (Za ?_))))
 exact Yj I3 (w .i64 (x79 + 1)) h
 refine GC.exit_to (fun _ _ h => h) (GC.seq (Zo (Zm (Zc h Qcc ?_))))
 rintro _ H118 ⟨r117, rfl, h⟩
 refine Zm (Zc h Qcy ?_)
 rintro _ H120 ⟨r119, rfl, h⟩
 refine Zv (OV.not rfl) (Zm ?_)
 obtain ⟨J122, h, hR123⟩ := h
 refine GL.cut (α := Bool) 5 J122 (fun b121 => [(137, .bool b121), (5, pv r20), (7, slv r34), (8, .int .i64 r36)]) ?_ ?_
 rcases h.em with ⟨u124, h⟩ | ⟨u124, h⟩
 refine Zk u124 (Zk u124 (Zk u124 (Zk u124 (Zt u124 ?_))))
 exact Yj I3 true h
 refine Zu u124 Ym (Zu u124 Ym (GL.call h (Yt u124) rfl Qc4 (vs := [pv r20, .int .i64 r36]) rfl ?_))
 rintro _ H126 ⟨r125, rfl, h⟩
 refine Zu u124 (OV.ibin (v := .bool ((r125 : Int) != 0)) rfl rfl rfl) (Zn u124 ?_)
 exact Yj I3 ((r125 : Int) != 0) h
 intro b121 H127 h
 replace h := hR123 b121 H127 h
 refine Zm ?_
 obtain ⟨J129, h, hR130⟩ := h
 refine GL.cut (α := Bool) 6 J129 (fun b128 => [(144, .bool b128), (5, pv r20), (8, .int .i64 r36)]) ?_ ?_
 rcases h.em with ⟨u131, h⟩ | ⟨u131, h⟩
 refine Zk u131 (Zk u131 (Zk u131 (Zk u131 (Zk u131 (Zt u131 ?_)))))
 exact Yj I3 true h
 refine Zu u131 Ym (GL.call h (Yt u131) rfl Qcc (vs := [pv r20]) rfl ?_)
 rintro _ H133 ⟨r132, rfl, h⟩
 refine Zu u131 Ym (GL.call h (Yt u131) rfl Qcy (vs := [slv r132, slv r34]) rfl ?_)
 rintro _ H135 ⟨r134, rfl, h⟩
 refine Zu u131 (OV.not rfl) (Zn u131 ?_)
 exact Yj I3 (!r134) h
 intro b128 H136 h
 replace h := hR130 b128 H136 h
 refine Zm ?_
 obtain ⟨J138, h, hR139⟩ := h
 refine GL.cut (α := Bool) 5 J138 (fun b137 => [(150, .bool b137), (5, pv r20), (8, .int .i64 r36)]) ?_ ?_
 rcases h.em with ⟨u140, h⟩ | ⟨u140, h⟩
 refine Zk u140 (Zk u140 (Zk u140 (Zk u140 (Zt u140 ?_))))
 exact Yj I3 true h
 refine Zu u140 Ym (GL.call h (Yt u140) rfl Qao (vs := [pv r20]) rfl ?_)
 rintro _ H142 ⟨r141, rfl, h⟩
 refine Zu u140 Ym (Zu u140 (OV.ibin (v := .bool ((r141 : Int) != r36)) rfl rfl rfl) (Zn u140 ?_))
 exact Yj I3 ((r141 : Int) != r36) h
 intro b137 H143 h
 replace h := hR139 b137 H143 h
 refine GL.nil (Yd h (fun u144 h => ?_) fun u144 h => ?_)
 refine Zo (Za (GL.nil ?_))
 exact Y1 I3 ⟨false, rfl, h⟩
 refine GC.skip (Zo (Zm (Zm (Zc h QaP ?_))))
 rintro _ H147 ⟨r145, r146, rfl, h⟩
 refine Zm (Yv (slv r145) rfl rfl (Yv (.int .i64 r146) rfl rfl (Za (Za (GL.nil (Zo (Zm (Zi (.bool ((r146 : Int) == 0)) (Zm (GL.cut0 4 [(163, .bool (((r146 : Int) == 0) && (((Sl.len r145 : Int) : Int) == 0)))] ?_ ?_))))))))))
 rcases Zb ((r146 : Int) == 0) with u148 | u148
 refine Zu u148 Ym (Zu u148 (OV.lenSl rfl rfl) (Zu u148 (OV.ibin (v := .bool (((Sl.len r145 : Int) : Int) == 0)) rfl rfl rfl) (Zt u148 ?_)))
 exact GL.jump0 (fun _ _ h => h) () rfl ⟨(by rw [u148]; rfl), trivial⟩
 refine Zk u148 (Zk u148 (Zk u148 (Zn u148 ?_)))
 exact GL.jump0 (fun _ _ h => h) () rfl ⟨(by rw [u148]; rfl), trivial⟩
 refine Za (GL.nil ?_)
 exact Y1 I3 ⟨(((r146 : Int) == 0) && (((Sl.len r145 : Int) : Int) == 0)), rfl, h⟩
def QdT (C : Ctx) (p_l : Sl) (K : Bool → Heap → Prop) (H : Heap) : Prop :=
 lp (α := Int × Int) (0, 0) H (fun x1 J2 H3 =>
 ift ((decide ((x1.2 : Int) < (Sl.len p_l : Int))) && (decide ((x1.1 : Int) < 800)))
 (ixa p_l x1.2 fun p6 =>
 ldS H3 (((p6.1, p6.2 + (x1.2 : Int).toNat * 4).1, (p6.1, p6.2 + (x1.2 : Int).toNat * 4).2 + 2).1, ((p6.1, p6.2 + (x1.2 : Int).toNat * 4).1, (p6.1, p6.2 + (x1.2 : Int).toNat * 4).2 + 2).2 + 0) fun x11 =>
 lp (α := Int × Int) ((w .i64 ((w .i64 (x1.1 + 2)) + (w .i64 (Int.tdiv (List.length x11 : Int) 50)))), 0) H3 (fun x13 J14 H15 =>
 ixa p_l x1.2 fun p16 =>
 ldL H15 (((p16.1, p16.2 + (x1.2 : Int).toNat * 4).1, (p16.1, p16.2 + (x1.2 : Int).toNat * 4).2 + 2).1, ((p16.1, p16.2 + (x1.2 : Int).toNat * 4).1, (p16.1, p16.2 + (x1.2 : Int).toNat * 4).2 + 2).2 + 1) fun x21 =>
 ift ((decide ((x13.2 : Int) < (Sl.len x21 : Int))) && (decide ((x13.1 : Int) < 800)))
 (ixa p_l x1.2 fun p25 =>
 ldL H15 (((p25.1, p25.2 + (x1.2 : Int).toNat * 4).1, (p25.1, p25.2 + (x1.2 : Int).toNat * 4).2 + 2).1, ((p25.1, p25.2 + (x1.2 : Int).toNat * 4).1, (p25.1, p25.2 + (x1.2 : Int).toNat * 4).2 + 2).2 + 1) fun x30 =>
 ixa x30 x13.2 fun p32 =>
 ldT H15 Qa.c (p32.1, p32.2 + (x13.2 : Int).toNat * 4) fun x37 =>
 QN C x37 800 (fun r39 H40 =>
 J14 ((w .i64 (x13.1 + r39)), (w .i64 (x13.2 + 1))) H40) H15)
 (J2 (x13.1, (w .i64 (x1.2 + 1))) H15)))
 (K (decide ((x1.1 : Int) ≥ 800)) H3))
theorem QfU (C p_l K H) (h : QdT C p_l K H) : QbN C p_l K H := by
 refine Ye Tryz.func7 rfl Tryz.ntmps7 [(0, slv p_l)] (Zo (Za (GL.nil (Zo (Za (GL.nil (GC.seq (Zo (Za (GL.nil (GC.block (Yp h (fun x1 => [(3, .int .i64 x1.1), (4, .int .i64 x1.2), (0, slv p_l)]) ?_))))))))))))
 intro x1 H3 J2 h
 refine GC.seq (Zo (Zm (Zm (Zq (Zi (.bool (decide ((x1.2 : Int) < (Sl.len p_l : Int)))) (Zm (GL.cut0 3 [(13, .bool ((decide ((x1.2 : Int) < (Sl.len p_l : Int))) && (decide ((x1.1 : Int) < 800)))), (0, slv p_l), (3, .int .i64 x1.1), (4, .int .i64 x1.2)] ?_ ?_)))))))
 rcases Zb (decide ((x1.2 : Int) < (Sl.len p_l : Int))) with u4 | u4
 refine Zu u4 Ym (Zu u4 (OV.ibin (v := .bool (decide ((x1.1 : Int) < 800))) rfl rfl rfl) (Zt u4 ?_))
 exact GL.jump0 (fun _ _ h => h) () rfl ⟨(by rw [u4]; rfl), rfl, rfl, rfl, trivial⟩
 refine Zk u4 (Zk u4 (Zn u4 ?_))
 exact GL.jump0 (fun _ _ h => h) () rfl ⟨(by rw [u4]; rfl), rfl, rfl, rfl, trivial⟩
 refine GL.nil (Yd h (fun u5 h => ?_) fun u5 h => ?_)
 refine GC.skip (GC.seq (GC.block (Zo (Zm (Zi (.int .i64 (w .i64 (x1.1 + 2))) (Zm (Zm (Yx h fun p6 h => ?_))))))))
 refine Zf (Zf (Yl h fun x11 h => ?_))
 refine Zr (Zv (OV.quo rfl rfl (by decide)) (Zi (.int .i64 (w .i64 ((w .i64 (x1.1 + 2)) + (w .i64 (Int.tdiv (List.length x11 : Int) 50))))) (Za (GL.nil (Zo (Za (GL.nil (GC.block (Yp h (fun x13 => [(3, .int .i64 x13.1), (5, .int .i64 x13.2), (0, slv p_l), (4, .int .i64 x1.2)]) ?_)))))))))
 intro x13 H15 J14 h
 refine GC.seq (Zo (Zm (Zm (Zm (Yx h fun p16 h => ?_)))))
 refine Zf (Zf (Yl h fun x21 h => ?_))
 refine Zq (Zi (.bool (decide ((x13.2 : Int) < (Sl.len x21 : Int)))) (Zm (GL.cut0 3 [(39, .bool ((decide ((x13.2 : Int) < (Sl.len x21 : Int))) && (decide ((x13.1 : Int) < 800)))), (0, slv p_l), (3, .int .i64 x13.1), (4, .int .i64 x1.2), (5, .int .i64 x13.2)] ?_ ?_)))
 rcases Zb (decide ((x13.2 : Int) < (Sl.len x21 : Int))) with u23 | u23
 refine Zu u23 Ym (Zu u23 (OV.ibin (v := .bool (decide ((x13.1 : Int) < 800))) rfl rfl rfl) (Zt u23 ?_))
 exact GL.jump0 (fun _ _ h => h) () rfl ⟨(by rw [u23]; rfl), rfl, rfl, rfl, rfl, trivial⟩
 refine Zk u23 (Zk u23 (Zn u23 ?_))
 exact GL.jump0 (fun _ _ h => h) () rfl ⟨(by rw [u23]; rfl), rfl, rfl, rfl, rfl, trivial⟩
 refine GL.nil (Yd h (fun u24 h => ?_) fun u24 h => ?_)
 refine GC.skip (GC.seq (GC.block (GC.region (Zm (Zm (Zm (Yx h fun p25 h => ?_)))))))
 refine Zf (Zf (Yl h fun x30 h => ?_))
 refine Zm (Yx h fun p32 h => ?_)
 obtain ⟨x37, v38, h⟩ := h
 refine Zv (OV.loadT rfl rfl rfl v38) (Zc h Qdi ?_)
 rintro _ H40 ⟨r39, rfl, h⟩
 refine Zi (.int .i64 (w .i64 (x13.1 + r39))) (Za (GL.nil_to (fun _ _ h => h) (GC.region (Zm (Zi (.int .i64 (w .i64 (x13.2 + 1))) (Za ?_))))))
 exact Yj I3 ((w .i64 (x13.1 + r39)), (w .i64 (x13.2 + 1))) h
 refine GC.exit_to (fun _ _ h => h) (GC.region (Zm (Zi (.int .i64 (w .i64 (x1.2 + 1))) (Za ?_))))
 exact Yj I3 (x13.1, (w .i64 (x1.2 + 1))) h
 refine GC.exit_to (fun _ _ h => h) (Zo (Zm (Zi (.bool (decide ((x1.1 : Int) ≥ 800))) (Za (GL.nil ?_)))))
 exact Y1 I3 ⟨(decide ((x1.1 : Int) ≥ 800)), rfl, h⟩
def QdS (C : Ctx) (K : Bool → Heap → Prop) (H : Heap) : Prop :=
 Qcu C (fun r1 H2 =>
 QL C [114] 1 (fun r3 H4 =>
 Qq C r1 r3 (fun r5 r6 H7 =>
 QL C [114] 2 (fun r8 H9 =>
 Qq C r1 r8 (fun r10 r11 H12 =>
 QL C [114] 1 (fun r13 H14 =>
 Qq C r1 r13 (fun r15 r16 H17 =>
 QL C [114] 1 (fun r18 H19 =>
 QV C r1 r18 (fun r20 r21 H22 =>
 QL C [115] 1 (fun r23 H24 =>
 Qq C r1 r23 (fun r25 r26 H27 =>
 QR C r1 2 (fun r28 r29 H30 =>
 QR C r1 0 (fun r31 r32 H33 =>
 jn (α := Bool) (fun b45 H51 =>
 ift b45
 (K false H51)
 (QL C [114] 1 (fun r53 H54 =>
 QL C [115] 1 (fun r55 H56 =>
 nw ((Qb.c (⟨r53, (-1)⟩ : Qb)) ++ (Qb.c (⟨r55, 1⟩ : Qb)) ++ []) (fun b57 H58 =>
 Qae C r28 (Sl.of (some (b57, 0)) 2 2) (fun r59 H60 =>
 jn (α := Bool) (fun b61 H73 =>
 ift b61
 (K false H73)
 (Qbg C r1 2 (fun r75 H76 =>
 jn (α := Bool) (fun b77 H83 =>
 jn (α := Bool) (fun b84 H90 =>
 jn (α := Bool) (fun b91 H99 =>
 jn (α := Bool) (fun b100 H108 =>
 jn (α := Bool) (fun b109 H115 =>
 K b109 H115)
 (fun J110 => ift b100
 (Qy C r1 (fun r113 H114 =>
 J110 ((r113 : Int) == 2) H114) H108)
 (J110 false H108)))
 (fun J101 => ift b91
 (QL C [115] 1 (fun r104 H105 =>
 QaU C r1 r104 (fun r106 H107 =>
 J101 (!r106) H107) H105) H99)
 (J101 false H99)))
 (fun J92 => ift b84
 (QL C [114] 1 (fun r95 H96 =>
 QaU C r1 r95 (fun r97 H98 =>
 J92 r97 H98) H96) H90)
 (J92 false H90)))
 (fun J85 => ift b77
 (Qa0 C r1 (fun r88 H89 =>
 J85 (((Sl.len r88 : Int) : Int) == 1) H89) H83)
 (J85 false H83)))
 (fun J78 => ift ((r75 : Int) == 0)
 (Qbh C r1 [114] (fun r81 H82 =>
 J78 (((Sl.len r81 : Int) : Int) == 2) H82) H76)
 (J78 false H76))) H73))
 (fun J62 => ift (!r59)
 (J62 true H60)
 (QL C [114] 2 (fun r65 H66 =>
 QL C [115] 1 (fun r67 H68 =>
 nw ((Qb.c (⟨r65, 1⟩ : Qb)) ++ (Qb.c (⟨r67, 1⟩ : Qb)) ++ []) (fun b69 H70 =>
 Qae C r31 (Sl.of (some (b69, 0)) 2 2) (fun r71 H72 =>
 J62 (!r71) H72) H70) H68) H66) H60))) H58) H56) H54) H51))
 (fun J46 => ift ((((((((((((!r5) || (!r10)) || r15) || (!r20)) || (!r25)) || ((r6 : Int) != 0)) || ((r11 : Int) != 0)) || ((r16 : Int) != 0)) || ((r21 : Int) != 0)) || ((r26 : Int) != 0)) || ((r29 : Int) != 0)) || ((r32 : Int) != 0))
 (J46 true H33)
 (Qy C r1 (fun r49 H50 =>
 J46 ((r49 : Int) != 4) H50) H33))) H30) H27) H24) H22) H19) H17) H14) H12) H9) H7) H4) H2) H
theorem QfT (C : Ctx) (K : Bool → Heap → Prop) (H : Heap) (h : QdS C  K H) : QbM C  K H := by
 refine Spec.enter Tryz.func8 rfl Tryz.ntmps8 rfl (GC.sub [] trivial (Zo (Za (GL.nil (Zo (Zc h Qd5 ?_))))))
 rintro _ H2 ⟨r1, rfl, h⟩
 refine Za (GL.nil (Zo (Zm (Zc h QP ?_))))
 rintro _ H4 ⟨r3, rfl, h⟩
 refine Zc h QW ?_
 rintro _ H7 ⟨r5, r6, rfl, h⟩
 refine Zm (Yv (.bool r5) rfl rfl (Yv (.int .i64 r6) rfl rfl (Za (Za (GL.nil (Zo (Zm (Zc h QP ?_))))))))
 rintro _ H9 ⟨r8, rfl, h⟩
 refine Zc h QW ?_
 rintro _ H12 ⟨r10, r11, rfl, h⟩
 refine Zm (Yv (.bool r10) rfl rfl (Yv (.int .i64 r11) rfl rfl (Za (Za (GL.nil (Zo (Zm (Zc h QP ?_))))))))
 rintro _ H14 ⟨r13, rfl, h⟩
 refine Zc h QW ?_
 rintro _ H17 ⟨r15, r16, rfl, h⟩
 refine Zm (Yv (.bool r15) rfl rfl (Yv (.int .i64 r16) rfl rfl (Za (Za (GL.nil (Zo (Zm (Zc h QP ?_))))))))
 rintro _ H19 ⟨r18, rfl, h⟩
 refine Zc h Qb0 ?_
 rintro _ H22 ⟨r20, r21, rfl, h⟩
 refine Zm (Yv (.bool r20) rfl rfl (Yv (.int .i64 r21) rfl rfl (Za (Za (GL.nil (Zo (Zm (Zc h QP ?_))))))))
 rintro _ H24 ⟨r23, rfl, h⟩
 refine Zc h QW ?_
 rintro _ H27 ⟨r25, r26, rfl, h⟩
 refine Zm (Yv (.bool r25) rfl rfl (Yv (.int .i64 r26) rfl rfl (Za (Za (GL.nil (Zo (Zm (Zc h QaP ?_))))))))
 rintro _ H30 ⟨r28, r29, rfl, h⟩
 refine Zm (Yv (slv r28) rfl rfl (Yv (.int .i64 r29) rfl rfl (Za (Za (GL.nil (Zo (Zm (Zc h QaP ?_))))))))
 rintro _ H33 ⟨r31, r32, rfl, h⟩
 refine Zm (Yv (slv r31) rfl rfl (Yv (.int .i64 r32) rfl rfl (Za (Za (GL.nil (GC.seq (Zo (Zm (Zv (OV.not rfl) (Zm (GL.cut0 3 [(62, .bool ((!r5) || (!r10))), (1, pv r1), (3, .int .i64 r6), (5, .int .i64 r11), (6, .bool r15), (7, .int .i64 r16), (8, .bool r20), (9, .int .i64 r21), (10, .bool r25), (11, .int .i64 r26), (12, slv r28), (13, .int .i64 r29), (14, slv r31), (15, .int .i64 r32)] ?_ ?_)))))))))))
 rcases Zb (!r5) with u34 | u34
 refine Zk u34 (Zk u34 (Zt u34 ?_))
 exact GL.jump0 (fun _ _ h => h) () rfl ⟨(by rw [u34]; rfl), rfl, rfl, rfl, rfl, rfl, rfl, rfl, rfl, rfl, rfl, rfl, rfl, rfl, trivial⟩
 refine Zu u34 Ym (Zu u34 (OV.not rfl) (Zn u34 ?_))
 exact GL.jump0 (fun _ _ h => h) () rfl ⟨(by rw [u34]; rfl), rfl, rfl, rfl, rfl, rfl, rfl, rfl, rfl, rfl, rfl, rfl, rfl, rfl, trivial⟩
 refine Zm (GL.cut0 2 [(65, .bool (((!r5) || (!r10)) || r15)), (1, pv r1), (3, .int .i64 r6), (5, .int .i64 r11), (7, .int .i64 r16), (8, .bool r20), (9, .int .i64 r21), (10, .bool r25), (11, .int .i64 r26), (12, slv r28), (13, .int .i64 r29), (14, slv r31), (15, .int .i64 r32)] ?_ ?_)
 rcases Zb ((!r5) || (!r10)) with u35 | u35
 refine Zk u35 (Zt u35 ?_)
 exact GL.jump0 (fun _ _ h => h) () rfl ⟨(by rw [u35]; rfl), rfl, rfl, rfl, rfl, rfl, rfl, rfl, rfl, rfl, rfl, rfl, rfl, trivial⟩
 refine Zu u35 Ym (Zn u35 ?_)
 exact GL.jump0 (fun _ _ h => h) () rfl ⟨(by rw [u35]; rfl), rfl, rfl, rfl, rfl, rfl, rfl, rfl, rfl, rfl, rfl, rfl, rfl, trivial⟩
 refine Zm (GL.cut0 3 [(69, .bool ((((!r5) || (!r10)) || r15) || (!r20))), (1, pv r1), (3, .int .i64 r6), (5, .int .i64 r11), (7, .int .i64 r16), (9, .int .i64 r21), (10, .bool r25), (11, .int .i64 r26), (12, slv r28), (13, .int .i64 r29), (14, slv r31), (15, .int .i64 r32)] ?_ ?_)
 rcases Zb (((!r5) || (!r10)) || r15) with u36 | u36
 refine Zk u36 (Zk u36 (Zt u36 ?_))
 exact GL.jump0 (fun _ _ h => h) () rfl ⟨(by rw [u36]; rfl), rfl, rfl, rfl, rfl, rfl, rfl, rfl, rfl, rfl, rfl, rfl, trivial⟩
 refine Zu u36 Ym (Zu u36 (OV.not rfl) (Zn u36 ?_))
 exact GL.jump0 (fun _ _ h => h) () rfl ⟨(by rw [u36]; rfl), rfl, rfl, rfl, rfl, rfl, rfl, rfl, rfl, rfl, rfl, rfl, trivial⟩
 refine Zm (GL.cut0 3 [(73, .bool (((((!r5) || (!r10)) || r15) || (!r20)) || (!r25))), (1, pv r1), (3, .int .i64 r6), (5, .int .i64 r11), (7, .int .i64 r16), (9, .int .i64 r21), (11, .int .i64 r26), (12, slv r28), (13, .int .i64 r29), (14, slv r31), (15, .int .i64 r32)] ?_ ?_)
 rcases Zb ((((!r5) || (!r10)) || r15) || (!r20)) with u37 | u37
 refine Zk u37 (Zk u37 (Zt u37 ?_))
 exact GL.jump0 (fun _ _ h => h) () rfl ⟨(by rw [u37]; rfl), rfl, rfl, rfl, rfl, rfl, rfl, rfl, rfl, rfl, rfl, trivial⟩
 refine Zu u37 Ym (Zu u37 (OV.not rfl) (Zn u37 ?_))
 exact GL.jump0 (fun _ _ h => h) () rfl ⟨(by rw [u37]; rfl), rfl, rfl, rfl, rfl, rfl, rfl, rfl, rfl, rfl, rfl, trivial⟩
 refine Zm (GL.cut0 3 [(77, .bool ((((((!r5) || (!r10)) || r15) || (!r20)) || (!r25)) || ((r6 : Int) != 0))), (1, pv r1), (5, .int .i64 r11), (7, .int .i64 r16), (9, .int .i64 r21), (11, .int .i64 r26), (12, slv r28), (13, .int .i64 r29), (14, slv r31), (15, .int .i64 r32)] ?_ ?_)
 rcases Zb (((((!r5) || (!r10)) || r15) || (!r20)) || (!r25)) with u38 | u38
 refine Zk u38 (Zk u38 (Zt u38 ?_))
 exact GL.jump0 (fun _ _ h => h) () rfl ⟨(by rw [u38]; rfl), rfl, rfl, rfl, rfl, rfl, rfl, rfl, rfl, rfl, trivial⟩
 refine Zu u38 Ym (Zu u38 (OV.ibin (v := .bool ((r6 : Int) != 0)) rfl rfl rfl) (Zn u38 ?_))
 exact GL.jump0 (fun _ _ h => h) () rfl ⟨(by rw [u38]; rfl), rfl, rfl, rfl, rfl, rfl, rfl, rfl, rfl, rfl, trivial⟩
 refine Zm (GL.cut0 3 [(81, .bool (((((((!r5) || (!r10)) || r15) || (!r20)) || (!r25)) || ((r6 : Int) != 0)) || ((r11 : Int) != 0))), (1, pv r1), (7, .int .i64 r16), (9, .int .i64 r21), (11, .int .i64 r26), (12, slv r28), (13, .int .i64 r29), (14, slv r31), (15, .int .i64 r32)] ?_ ?_)
 rcases Zb ((((((!r5) || (!r10)) || r15) || (!r20)) || (!r25)) || ((r6 : Int) != 0)) with u39 | u39
 refine Zk u39 (Zk u39 (Zt u39 ?_))
 exact GL.jump0 (fun _ _ h => h) () rfl ⟨(by rw [u39]; rfl), rfl, rfl, rfl, rfl, rfl, rfl, rfl, rfl, trivial⟩
 refine Zu u39 Ym (Zu u39 (OV.ibin (v := .bool ((r11 : Int) != 0)) rfl rfl rfl) (Zn u39 ?_))
 exact GL.jump0 (fun _ _ h => h) () rfl ⟨(by rw [u39]; rfl), rfl, rfl, rfl, rfl, rfl, rfl, rfl, rfl, trivial⟩
 refine Zm (GL.cut0 3 [(85, .bool ((((((((!r5) || (!r10)) || r15) || (!r20)) || (!r25)) || ((r6 : Int) != 0)) || ((r11 : Int) != 0)) || ((r16 : Int) != 0))), (1, pv r1), (9, .int .i64 r21), (11, .int .i64 r26), (12, slv r28), (13, .int .i64 r29), (14, slv r31), (15, .int .i64 r32)] ?_ ?_)
 rcases Zb (((((((!r5) || (!r10)) || r15) || (!r20)) || (!r25)) || ((r6 : Int) != 0)) || ((r11 : Int) != 0)) with u40 | u40
 refine Zk u40 (Zk u40 (Zt u40 ?_))
 exact GL.jump0 (fun _ _ h => h) () rfl ⟨(by rw [u40]; rfl), rfl, rfl, rfl, rfl, rfl, rfl, rfl, trivial⟩
 refine Zu u40 Ym (Zu u40 (OV.ibin (v := .bool ((r16 : Int) != 0)) rfl rfl rfl) (Zn u40 ?_))
 exact GL.jump0 (fun _ _ h => h) () rfl ⟨(by rw [u40]; rfl), rfl, rfl, rfl, rfl, rfl, rfl, rfl, trivial⟩
 refine Zm (GL.cut0 3 [(89, .bool (((((((((!r5) || (!r10)) || r15) || (!r20)) || (!r25)) || ((r6 : Int) != 0)) || ((r11 : Int) != 0)) || ((r16 : Int) != 0)) || ((r21 : Int) != 0))), (1, pv r1), (11, .int .i64 r26), (12, slv r28), (13, .int .i64 r29), (14, slv r31), (15, .int .i64 r32)] ?_ ?_)
 rcases Zb ((((((((!r5) || (!r10)) || r15) || (!r20)) || (!r25)) || ((r6 : Int) != 0)) || ((r11 : Int) != 0)) || ((r16 : Int) != 0)) with u41 | u41
 refine Zk u41 (Zk u41 (Zt u41 ?_))
 exact GL.jump0 (fun _ _ h => h) () rfl ⟨(by rw [u41]; rfl), rfl, rfl, rfl, rfl, rfl, rfl, trivial⟩
 refine Zu u41 Ym (Zu u41 (OV.ibin (v := .bool ((r21 : Int) != 0)) rfl rfl rfl) (Zn u41 ?_))
 exact GL.jump0 (fun _ _ h => h) () rfl ⟨(by rw [u41]; rfl), rfl, rfl, rfl, rfl, rfl, rfl, trivial⟩
 refine Zm (GL.cut0 3 [(93, .bool ((((((((((!r5) || (!r10)) || r15) || (!r20)) || (!r25)) || ((r6 : Int) != 0)) || ((r11 : Int) != 0)) || ((r16 : Int) != 0)) || ((r21 : Int) != 0)) || ((r26 : Int) != 0))), (1, pv r1), (12, slv r28), (13, .int .i64 r29), (14, slv r31), (15, .int .i64 r32)] ?_ ?_)
 rcases Zb (((((((((!r5) || (!r10)) || r15) || (!r20)) || (!r25)) || ((r6 : Int) != 0)) || ((r11 : Int) != 0)) || ((r16 : Int) != 0)) || ((r21 : Int) != 0)) with u42 | u42
 refine Zk u42 (Zk u42 (Zt u42 ?_))
 exact GL.jump0 (fun _ _ h => h) () rfl ⟨(by rw [u42]; rfl), rfl, rfl, rfl, rfl, rfl, trivial⟩
 refine Zu u42 Ym (Zu u42 (OV.ibin (v := .bool ((r26 : Int) != 0)) rfl rfl rfl) (Zn u42 ?_))
 exact GL.jump0 (fun _ _ h => h) () rfl ⟨(by rw [u42]; rfl), rfl, rfl, rfl, rfl, rfl, trivial⟩
 refine Zm (GL.cut0 3 [(97, .bool (((((((((((!r5) || (!r10)) || r15) || (!r20)) || (!r25)) || ((r6 : Int) != 0)) || ((r11 : Int) != 0)) || ((r16 : Int) != 0)) || ((r21 : Int) != 0)) || ((r26 : Int) != 0)) || ((r29 : Int) != 0))), (1, pv r1), (12, slv r28), (14, slv r31), (15, .int .i64 r32)] ?_ ?_)
 rcases Zb ((((((((((!r5) || (!r10)) || r15) || (!r20)) || (!r25)) || ((r6 : Int) != 0)) || ((r11 : Int) != 0)) || ((r16 : Int) != 0)) || ((r21 : Int) != 0)) || ((r26 : Int) != 0)) with u43 | u43
 refine Zk u43 (Zk u43 (Zt u43 ?_))
 exact GL.jump0 (fun _ _ h => h) () rfl ⟨(by rw [u43]; rfl), rfl, rfl, rfl, rfl, trivial⟩
 refine Zu u43 Ym (Zu u43 (OV.ibin (v := .bool ((r29 : Int) != 0)) rfl rfl rfl) (Zn u43 ?_))
 exact GL.jump0 (fun _ _ h => h) () rfl ⟨(by rw [u43]; rfl), rfl, rfl, rfl, rfl, trivial⟩
 refine Zm (GL.cut0 3 [(101, .bool ((((((((((((!r5) || (!r10)) || r15) || (!r20)) || (!r25)) || ((r6 : Int) != 0)) || ((r11 : Int) != 0)) || ((r16 : Int) != 0)) || ((r21 : Int) != 0)) || ((r26 : Int) != 0)) || ((r29 : Int) != 0)) || ((r32 : Int) != 0))), (1, pv r1), (12, slv r28), (14, slv r31)] ?_ ?_)
 rcases Zb (((((((((((!r5) || (!r10)) || r15) || (!r20)) || (!r25)) || ((r6 : Int) != 0)) || ((r11 : Int) != 0)) || ((r16 : Int) != 0)) || ((r21 : Int) != 0)) || ((r26 : Int) != 0)) || ((r29 : Int) != 0)) with u44 | u44
 refine Zk u44 (Zk u44 (Zt u44 ?_))
 exact GL.jump0 (fun _ _ h => h) () rfl ⟨(by rw [u44]; rfl), rfl, rfl, rfl, trivial⟩
 refine Zu u44 Ym (Zu u44 (OV.ibin (v := .bool ((r32 : Int) != 0)) rfl rfl rfl) (Zn u44 ?_))
 exact GL.jump0 (fun _ _ h => h) () rfl ⟨(by rw [u44]; rfl), rfl, rfl, rfl, trivial⟩
 refine Zm ?_
 obtain ⟨J46, h, hR47⟩ := h
 refine GL.cut (α := Bool) 4 J46 (fun b45 => [(106, .bool b45), (1, pv r1), (12, slv r28), (14, slv r31)]) ?_ ?_
 rcases h.em with ⟨u48, h⟩ | ⟨u48, h⟩
 refine Zk u48 (Zk u48 (Zk u48 (Zt u48 ?_)))
 exact Yj I3 true h
 refine Zu u48 Ym (GL.call h (Yt u48) rfl Qao (vs := [pv r1]) rfl ?_)
 rintro _ H50 ⟨r49, rfl, h⟩
 refine Zu u48 (OV.ibin (v := .bool ((r49 : Int) != 4)) rfl rfl rfl) (Zn u48 ?_)
 exact Yj I3 ((r49 : Int) != 4) h
 intro b45 H51 h
 replace h := hR47 b45 H51 h
 refine GL.nil (Yd h (fun u52 h => ?_) fun u52 h => ?_)
 refine Zo (Za (GL.nil ?_))
 exact Y1 I3 ⟨false, rfl, h⟩
 refine GC.skip (GC.seq (Zo (Zm (Zc h QP ?_))))
 rintro _ H54 ⟨r53, rfl, h⟩
 refine Zv (OV.build (vs := [(0, .agg (Qc.c r53).toArray), (1, .int .i64 (-1))]) (v := .agg (Qb.c (⟨r53, (-1)⟩ : Qb)).toArray) rfl (fun _ => by kernel_rfl)) (Zc h QP ?_)
 rintro _ H56 ⟨r55, rfl, h⟩
 refine Zv (OV.build (vs := [(0, .agg (Qc.c r55).toArray), (1, .int .i64 1)]) (v := .agg (Qb.c (⟨r55, 1⟩ : Qb)).toArray) rfl (fun _ => by kernel_rfl)) (GL.buildSlice (cs := (Qb.c (⟨r53, (-1)⟩ : Qb)) ++ (Qb.c (⟨r55, 1⟩ : Qb)) ++ []) h trivial rfl (vs := [(0, .agg (Qb.c (⟨r53, (-1)⟩ : Qb)).toArray), (1, .agg (Qb.c (⟨r55, 1⟩ : Qb)).toArray)]) rfl ⟨43, fun _ => by kernel_rfl⟩ ?_)
 intro b57 H58 h
 refine Zc h QbD ?_
 rintro _ H60 ⟨r59, rfl, h⟩
 refine Zv (OV.not rfl) (Zm ?_)
 obtain ⟨J62, h, hR63⟩ := h
 refine GL.cut (α := Bool) 9 J62 (fun b61 => [(124, .bool b61), (1, pv r1)]) ?_ ?_
 rcases h.em with ⟨u64, h⟩ | ⟨u64, h⟩
 refine Zk u64 (Zk u64 (Zk u64 (Zk u64 (Zk u64 (Zk u64 (Zk u64 (Zk u64 (Zt u64 ?_))))))))
 exact Yj I3 true h
 refine Zu u64 Ym (GL.call h (Yt u64) rfl QP (vs := [sv [114], .int .i64 2]) rfl ?_)
 rintro _ H66 ⟨r65, rfl, h⟩
 refine Zu u64 (OV.build (vs := [(0, .agg (Qc.c r65).toArray), (1, .int .i64 1)]) (v := .agg (Qb.c (⟨r65, 1⟩ : Qb)).toArray) rfl (fun _ => by kernel_rfl)) (GL.call h (Yt u64) rfl QP (vs := [sv [115], .int .i64 1]) rfl ?_)
 rintro _ H68 ⟨r67, rfl, h⟩
 refine Zu u64 (OV.build (vs := [(0, .agg (Qc.c r67).toArray), (1, .int .i64 1)]) (v := .agg (Qb.c (⟨r67, 1⟩ : Qb)).toArray) rfl (fun _ => by kernel_rfl)) (GL.buildSlice (cs := (Qb.c (⟨r65, 1⟩ : Qb)) ++ (Qb.c (⟨r67, 1⟩ : Qb)) ++ []) h (Yt u64) rfl (vs := [(0, .agg (Qb.c (⟨r65, 1⟩ : Qb)).toArray), (1, .agg (Qb.c (⟨r67, 1⟩ : Qb)).toArray)]) rfl ⟨43, fun _ => by kernel_rfl⟩ ?_)
 intro b69 H70 h
 refine GL.call h (Yt u64) rfl QbD (vs := [slv r31, slv (Sl.of (some (b69, 0)) 2 2)]) rfl ?_
 rintro _ H72 ⟨r71, rfl, h⟩
 refine Zu u64 (OV.not rfl) (Zn u64 ?_)
 exact Yj I3 (!r71) h
 intro b61 H73 h
 replace h := hR63 b61 H73 h
 refine GL.nil (Yd h (fun u74 h => ?_) fun u74 h => ?_)
 refine Zo (Za (GL.nil ?_))
 exact Y1 I3 ⟨false, rfl, h⟩
 refine GC.skip (Zo (Zm (Zc h Qc4 ?_)))
 rintro _ H76 ⟨r75, rfl, h⟩
 refine Za (GL.nil (Zo (Zm (Zi (.bool ((r75 : Int) == 0)) (Zm ?_)))))
 obtain ⟨J78, h, hR79⟩ := h
 refine GL.cut (α := Bool) 5 J78 (fun b77 => [(134, .bool b77), (1, pv r1)]) ?_ ?_
 rcases h.em with ⟨u80, h⟩ | ⟨u80, h⟩
 refine Zu u80 Ym (GL.call h (Yt u80) rfl Qc5 (vs := [pv r1, sv [114]]) rfl ?_)
 rintro _ H82 ⟨r81, rfl, h⟩
 refine Zu u80 (OV.lenSl rfl rfl) (Zu u80 (OV.ibin (v := .bool (((Sl.len r81 : Int) : Int) == 2)) rfl rfl rfl) (Zt u80 ?_))
 exact Yj I3 (((Sl.len r81 : Int) : Int) == 2) h
 refine Zk u80 (Zk u80 (Zk u80 (Zk u80 (Zn u80 ?_))))
 exact Yj I3 false h
 intro b77 H83 h
 replace h := hR79 b77 H83 h
 refine Zm ?_
 obtain ⟨J85, h, hR86⟩ := h
 refine GL.cut (α := Bool) 5 J85 (fun b84 => [(140, .bool b84), (1, pv r1)]) ?_ ?_
 rcases h.em with ⟨u87, h⟩ | ⟨u87, h⟩
 refine Zu u87 Ym (GL.call h (Yt u87) rfl QcB (vs := [pv r1]) rfl ?_)
 rintro _ H89 ⟨r88, rfl, h⟩
 refine Zu u87 (OV.lenSl rfl rfl) (Zu u87 (OV.ibin (v := .bool (((Sl.len r88 : Int) : Int) == 1)) rfl rfl rfl) (Zt u87 ?_))
 exact Yj I3 (((Sl.len r88 : Int) : Int) == 1) h
 refine Zk u87 (Zk u87 (Zk u87 (Zk u87 (Zn u87 ?_))))
 exact Yj I3 false h
 intro b84 H90 h
 replace h := hR86 b84 H90 h
 refine Zm ?_
 obtain ⟨J92, h, hR93⟩ := h
 refine GL.cut (α := Bool) 4 J92 (fun b91 => [(145, .bool b91), (1, pv r1)]) ?_ ?_
 rcases h.em with ⟨u94, h⟩ | ⟨u94, h⟩
 refine Zu u94 Ym (GL.call h (Yt u94) rfl QP (vs := [sv [114], .int .i64 1]) rfl ?_)
 rintro _ H96 ⟨r95, rfl, h⟩
 refine GL.call h (Yt u94) rfl Qdl (vs := [pv r1, .agg (Qc.c r95).toArray]) rfl ?_
 rintro _ H98 ⟨r97, rfl, h⟩
 refine Zt u94 ?_
 exact Yj I3 r97 h
 refine Zk u94 (Zk u94 (Zk u94 (Zn u94 ?_)))
 exact Yj I3 false h
 intro b91 H99 h
 replace h := hR93 b91 H99 h
 refine Zm ?_
 obtain ⟨J101, h, hR102⟩ := h
 refine GL.cut (α := Bool) 5 J101 (fun b100 => [(151, .bool b100), (1, pv r1)]) ?_ ?_
 rcases h.em with ⟨u103, h⟩ | ⟨u103, h⟩
 refine Zu u103 Ym (GL.call h (Yt u103) rfl QP (vs := [sv [115], .int .i64 1]) rfl ?_)
 rintro _ H105 ⟨r104, rfl, h⟩
 refine GL.call h (Yt u103) rfl Qdl (vs := [pv r1, .agg (Qc.c r104).toArray]) rfl ?_
 rintro _ H107 ⟨r106, rfl, h⟩
 refine Zu u103 (OV.not rfl) (Zt u103 ?_)
 exact Yj I3 (!r106) h
 refine Zk u103 (Zk u103 (Zk u103 (Zk u103 (Zn u103 ?_))))
 exact Yj I3 false h
 intro b100 H108 h
 replace h := hR102 b100 H108 h
 refine Zm ?_
 obtain ⟨J110, h, hR111⟩ := h
 refine GL.cut (α := Bool) 4 J110 (fun b109 => [(156, .bool b109)]) ?_ ?_
 rcases h.em with ⟨u112, h⟩ | ⟨u112, h⟩
 refine Zu u112 Ym (GL.call h (Yt u112) rfl Qao (vs := [pv r1]) rfl ?_)
 rintro _ H114 ⟨r113, rfl, h⟩
 refine Zu u112 (OV.ibin (v := .bool ((r113 : Int) == 2)) rfl rfl rfl) (Zt u112 ?_)
 exact Yj I3 ((r113 : Int) == 2) h
 refine Zk u112 (Zk u112 (Zk u112 (Zn u112 ?_)))
 exact Yj I3 false h
 intro b109 H115 h
 replace h := hR111 b109 H115 h
 refine Za (GL.nil ?_)
 exact Y1 I3 ⟨b109, rfl, h⟩
def QfJ (C : Ctx) (K : Option (Nat × Nat) → Heap → Prop) (H : Heap) : Prop :=
 mkM (fun b1 H2 =>
 nw (QZ.c (⟨(some b1), Sl.nil⟩ : QZ)) (fun b3 H4 =>
 K (some (b3, 0)) H4) H2) H
theorem Qhn (C : Ctx) (K : Option (Nat × Nat) → Heap → Prop) (H : Heap) (h : QfJ C  K H) : Qcu C  K H := by
 refine Spec.enter Tryz.func9 rfl Tryz.ntmps9 rfl (GC.sub [] trivial (Zo (Za (GL.nil (Zo (GL.makeMap h trivial rfl ?_))))))
 intro b1 H2 h
 refine Zv (OV.build (vs := [(0, mv (some b1))]) (v := .agg (QZ.c (⟨(some b1), Sl.nil⟩ : QZ)).toArray) rfl (fun _ => by kernel_rfl)) (GL.box (v := .agg (QZ.c (⟨(some b1), Sl.nil⟩ : QZ)).toArray) (cs := QZ.c (⟨(some b1), Sl.nil⟩ : QZ)) h trivial rfl rfl rfl ?_)
 intro b3 H4 h
 refine Za (GL.nil ?_)
 exact Y1 I3 ⟨(some (b3, 0)), rfl, h⟩
def Qeq (C : Ctx) (p_l : Option (Nat × Nat)) (p_o : Qm) (K : Heap → Prop) (H : Heap) : Prop :=
 nw (Qm.c p_o) (fun b1 H2 =>
 jn (α := Unit) (fun x4 H5 =>
 ldI H5 .u8 ((b1, 0).1, (b1, 0).2 + 0) fun x15 =>
 ift ((x15 : Int) == 1)
 (ldT H5 Qc.c ((b1, 0).1, (b1, 0).2 + 2) fun x18 =>
 QV C p_l x18 (fun r20 r21 H22 =>
 K H22) H5)
 (K H5))
 (fun J3 => ldI H2 .u8 ((b1, 0).1, (b1, 0).2 + 0) fun x7 =>
 ift ((x7 : Int) == 0)
 (ldT H2 Qc.c ((b1, 0).1, (b1, 0).2 + 2) fun x10 =>
 Qq C p_l x10 (fun r12 r13 H14 =>
 J3 () H14) H2)
 (J3 () H2))) H
theorem Qgo (C p_l p_o K H) (h : Qeq C p_l p_o K H) : Qbr C p_l p_o K H := by
 refine Ye Tryz.func10 rfl Tryz.ntmps10 [(0, pv p_l), (1, .agg (Qm.c p_o).toArray)] (Zo (GL.box (v := .agg (Qm.c p_o).toArray) (cs := Qm.c p_o) h trivial rfl rfl rfl ?_))
 intro b1 H2 h
 refine GL.nil ?_
 obtain ⟨J3, h, hR6⟩ := h
 refine GC.join (α := Unit) J3 (fun _ => [(0, pv p_l), (3, pv (some (b1, 0)))]) ?_ ?_
 refine Zo (Zf (Yl h fun x7 h => ?_))
 refine Zi (.bool ((x7 : Int) == 0)) (GL.nil (Yd h (fun u9 h => ?_) fun u9 h => ?_))
 refine GC.region (Zm (Zf ?_))
 obtain ⟨x10, v11, h⟩ := h
 refine Zv (OV.loadT rfl rfl rfl v11) (Zc h QW ?_)
 rintro _ H14 ⟨r12, r13, rfl, h⟩
 exact Yj I3 () h
 exact Yk I3 () h
 intro x4 H5 h
 replace h := hR6 x4 H5 h
 refine Zo (Zf (Yl h fun x15 h => ?_))
 refine Zi (.bool ((x15 : Int) == 1)) (GL.nil (Yd h (fun u17 h => ?_) fun u17 h => ?_))
 refine GC.region (Zm (Zf ?_))
 obtain ⟨x18, v19, h⟩ := h
 refine Zv (OV.loadT rfl rfl rfl v19) (Zc h Qb0 ?_)
 rintro _ H22 ⟨r20, r21, rfl, h⟩
 exact GL.ends (fun _ _ hf hs => QB rfl hf hs ⟨rfl, h⟩)
 exact GC.ends (fun _ _ hf hs => QB rfl hf hs ⟨rfl, h⟩)
end
section
set_option maxRecDepth 100000
open Go Go.Proofs
def QeW (C : Ctx) (p_l : Option (Nat × Nat)) (K : Sl → Heap → Prop) (H : Heap) : Prop :=
 Qa0 C p_l (fun r1 H2 =>
 lp (α := Sl × Int) (Sl.nil, 0) H2 (fun x3 J4 H5 =>
 ift (decide ((x3.2 : Int) < (Sl.len r1 : Int)))
 (ixa r1 x3.2 fun p7 =>
 ldS H5 (p7.1, p7.2 + (x3.2 : Int).toNat * 1) fun x12 =>
 Qbh C p_l x12 (fun r14 H15 =>
 lp (α := Sl × Int) (x3.1, 0) H15 (fun x16 J17 H18 =>
 ift (decide ((x16.2 : Int) < (Sl.len r14 : Int)))
 (dr H18 fun Hs20 =>
 ixa r1 x3.2 fun p22 =>
 ldS Hs20 (p22.1, p22.2 + (x3.2 : Int).toNat * 1) fun x27 =>
 ixa r14 x16.2 fun p29 =>
 ldL Hs20 (p29.1, p29.2 + (x16.2 : Int).toNat * 1) fun x34 =>
 nw ((Qc.c (⟨x27, x34⟩ : Qc)) ++ []) (fun b37 H38 =>
 Heap.le Hs20 H38 ∧
 apS (Qc.c Qc.zero) 40 x16.1 (Sl.of (some (b37, 0)) 1 1) (fun r40 H41 =>
 Heap.le Hs20 H41 ∧
 J17 (r40, (w .i64 (x16.2 + 1))) H41) H38) H18)
 (J4 (x16.1, (w .i64 (x3.2 + 1))) H18))) H5)
 (K x3.1 H5))) H
theorem QgS (C p_l K H) (h : QeW C p_l K H) : Qbm C p_l K H := by
 refine Ye Tryz.func11 rfl Tryz.ntmps11 [(0, pv p_l)] (Zo (Za (GL.nil (Zo (Za (GL.nil (Zo (Zm (Zc h QcB ?_)))))))))
 rintro _ H2 ⟨r1, rfl, h⟩
 refine Za (GL.nil (GC.seq (Zo (Za (GL.nil (GC.block (Yp h (fun x3 => [(3, slv x3.1), (5, .int .i64 x3.2), (0, pv p_l), (4, slv r1)]) ?_)))))))
 intro x3 H5 J4 h
 refine GC.seq (Zo (Zm (Zm (Zq (Zi (.bool (decide ((x3.2 : Int) < (Sl.len r1 : Int)))) (GL.nil (Yd h (fun u6 h => ?_) fun u6 h => ?_)))))))
 refine GC.skip (GC.seq (GC.block (Zo (Zm (Zm (Zm (Yx h fun p7 h => ?_)))))))
 refine Yl h fun x12 h => ?_
 refine Zc h Qc5 ?_
 rintro _ H15 ⟨r14, rfl, h⟩
 refine Za (GL.nil (Zo (Za (GL.nil (GC.block (Yp h (fun x16 => [(3, slv x16.1), (7, .int .i64 x16.2), (0, pv p_l), (4, slv r1), (5, .int .i64 x3.2), (6, slv r14)]) ?_))))))
 intro x16 H18 J17 h
 refine GC.seq (Zo (Zm (Zm (Zq (Zi (.bool (decide ((x16.2 : Int) < (Sl.len r14 : Int)))) (GL.nil (Yd h (fun u19 h => ?_) fun u19 h => ?_)))))))
 refine GC.skip (GC.seq (GC.block ?_))
 obtain ⟨Hs20, hle21, h⟩ := h
 refine GC.any (Hs := Hs20) (by kernel_rfl) hle21 (Zp 0 rfl Ym (Zp 1 rfl Ym (Zp 2 rfl Ym ?_)))
 obtain ⟨p22, ha23, hb24, u25, hd26, h⟩ := h
 refine Zp 3 rfl (OV.indexAddr rfl rfl rfl rfl ha23 hb24 u25 hd26) ?_
 obtain ⟨x27, v28, h⟩ := h
 refine Zp 4 rfl (Yo v28) (Zp 5 rfl Ym (Zp 6 rfl Ym ?_))
 obtain ⟨p29, ha30, hb31, u32, hd33, h⟩ := h
 refine Zp 7 rfl (OV.indexAddr rfl rfl rfl rfl ha30 hb31 u32 hd33) ?_
 obtain ⟨x34, v35, h⟩ := h
 refine Zp 8 rfl (Yo v35) (Zp 9 rfl (OV.build (vs := [(0, sv x27), (1, slv x34)]) (v := .agg (Qc.c (⟨x27, x34⟩ : Qc)).toArray) rfl (fun _ => by kernel_rfl)) (GA.eff 10 rfl (by kernel_rfl) (GL.buildSlice (cs := (Qc.c (⟨x27, x34⟩ : Qc)) ++ []) h trivial rfl (vs := [(0, .agg (Qc.c (⟨x27, x34⟩ : Qc)).toArray)]) rfl ⟨30, fun _ => by kernel_rfl⟩ ?_)))
 intro b37 H38 h
 obtain ⟨hle36, h⟩ := h
 refine GA.back hle36 (GA.eff 11 rfl (by kernel_rfl) (GL.appendS (s := x16.1) (s2 := (Sl.of (some (b37, 0)) 1 1)) (zc := Qc.c Qc.zero) (bytes := 40) h trivial rfl rfl rfl ⟨⟨_, _, _, rfl, rfl, rfl, rfl, rfl, rfl⟩⟩ rfl ?_))
 intro r40 H41 h
 obtain ⟨hle39, h⟩ := h
 refine GA.back hle39 (Zp 12 rfl Ya (GA.done (by kernel_rfl) (GL.nil_to (fun _ _ h => h) (GC.region (Zm (Zi (.int .i64 (w .i64 (x16.2 + 1))) (Za ?_)))))))
 exact Yj I3 (r40, (w .i64 (x16.2 + 1))) h
 refine GC.exit_to (fun _ _ h => h) (GC.region (Zm (Zi (.int .i64 (w .i64 (x3.2 + 1))) (Za ?_))))
 exact Yj I3 (x16.1, (w .i64 (x3.2 + 1))) h
 refine GC.exit_to (fun _ _ h => h) (Zo (Zm (Za (GL.nil ?_))))
 exact Y1 I3 ⟨x3.1, rfl, h⟩
def Qda (C : Ctx) (p_l : Option (Nat × Nat)) (K : Int → Heap → Prop) (H : Heap) : Prop :=
 ift (Option.isNone p_l)
 (K 0 H)
 (nck p_l fun p2 =>
 ldL H (p2.1, p2.2 + 1) fun x4 =>
 K (Sl.len x4 : Int) H)
theorem Qe4 (C p_l K H) (h : Qda C p_l K H) : Qy C p_l K H := by
 refine Ye Tryz.func12 rfl Tryz.ntmps12 [(0, pv p_l)] (Zo (Za (GL.nil (GC.seq (Zo (Zm (Zv (OV.eqlNil (p := p_l) rfl rfl rfl) (GL.nil (Yd h (fun u1 h => ?_) fun u1 h => ?_)))))))))
 refine Zo (Za (GL.nil ?_))
 exact Y1 I3 ⟨0, rfl, h⟩
 refine GC.skip (Zo (Zm ?_))
 obtain ⟨p2, hp3, h⟩ := h
 refine Zv (OV.nilCheck (q := p_l) rfl hp3) (Zf (Yl h fun x4 h => ?_))
 refine Zq (Za (GL.nil ?_))
 exact Y1 I3 ⟨(Sl.len x4 : Int), rfl, h⟩
def QcI (C : Ctx) (p_l : Option (Nat × Nat)) (p_mark : Int) (K : Sl → Int → Heap → Prop) (H : Heap) : Prop :=
 Qa1 C p_l p_mark (fun r1 H2 =>
 ift ((r1 : Int) != 0)
 (K Sl.nil r1 H2)
 (mkM (fun b4 H5 =>
 nck p_l fun p6 =>
 ldL H5 (p6.1, p6.2 + 1) fun x8 =>
 slL x8 p_mark (Sl.len x8 : Int) (Sl.cap x8 : Int) 4 fun t10 =>
 lp (α := Int) 0 H5 (fun x16 J17 H18 =>
 ift (decide ((x16 : Int) < (Sl.len t10 : Int)))
 (jn (α := Unit) (fun x21 H22 =>
 J17 (w .i64 (x16 + 1)) H22)
 (fun J20 => ixa t10 x16 fun p24 =>
 ldT H18 Qd.c (p24.1, p24.2 + (x16 : Int).toNat * 4) fun x29 =>
 nw (Qd.c Qd.zero) (fun b31 H32 =>
 (List.all (Qd.c x29) Value.oneCell' = true) ∧
 stT (b31, 0) (Qd.c x29) (fun H33 =>
 ldS H33 ((b31, 0).1, (b31, 0).2 + 0) fun x35 =>
 ldS H33 ((b31, 0).1, (b31, 0).2 + 1) fun x37 =>
 nw (Qg.c Qg.zero) (fun b39 H40 =>
 stT (b39, 0) (Qg.c (⟨x35, x37⟩ : Qg)) (fun H41 =>
 ldT H41 Qg.c (b39, 0) fun x42 =>
 lkM kp (fun x : Sl => (slv x : Value)) Sl.nil (some b4) (x42.rel_, x42.key_) (fun x44 is45 =>
 ift is45
 (ldT H41 Qg.c (b39, 0) fun x48 =>
 delS kp (fun x : Sl => (slv x : Value)) (some b4) (x48.rel_, x48.key_) (fun H50 =>
 J20 () H50) H41)
 (ldT H41 Qg.c (b39, 0) fun x51 =>
 ldL H41 ((b31, 0).1, (b31, 0).2 + 2) fun x53 =>
 upS kp (fun x : Sl => (slv x : Value)) (some b4) (x51.rel_, x51.key_) x53 (fun H55 =>
 J20 () H55) H41)) H41) H40) H33) H32) H18))
 (rgM kp (fun x : Sl => (slv x : Value)) (some b4) (fun b56 H57 =>
 lp (α := Sl) Sl.nil H57 (fun x58 J59 H60 =>
 nxB kp (fun x : Sl => (slv x : Value)) b56 (fun b61 H62 =>
 ift b61
 (enM kp (fun x : Sl => (slv x : Value)) b56 (fun k64 x65 =>
 nw (Qg.c Qg.zero) (fun b67 H68 =>
 stT (b67, 0) (Qg.c (⟨k64.1, k64.2⟩ : Qg)) (fun H69 =>
 jn (α := Nat × Nat) (fun x71 H72 =>
 jn (α := Unit) (fun x93 H94 =>
 ldT H94 Qb.c x71 fun x112 =>
 apd (Qb.c Qb.zero) 48 x58 ((Qb.c x112) ++ []) 1 (fun r114 H115 =>
 J59 r114 H115) H94)
 (fun J92 => nck p_l fun p96 =>
 ldM H72 (p96.1, p96.2 + 0) fun x98 =>
 ldS H72 ((b67, 0).1, (b67, 0).2 + 0) fun x100 =>
 lkM sv (fun x : Option Nat => (mv x : Value)) none x98 x100 (fun x102 is103 =>
 ldS H72 ((b67, 0).1, (b67, 0).2 + 1) fun x105 =>
 lkM sv (fun x : Sl => (slv x : Value)) Sl.nil x102 x105 (fun x107 is108 =>
 ift is108
 (st (x71.1, x71.2 + 2) (.int .i64 1) (fun H111 =>
 J92 () H111) H72)
 (J92 () H72)) H72) H72))
 (fun J70 => dr H69 fun Hs74 =>
 ldS Hs74 ((b67, 0).1, (b67, 0).2 + 0) fun x76 =>
 (Qar C x65 (fun r79 H80 =>
 Heap.le Hs74 H80 ∧
 nw (Qb.c Qb.zero) (fun b82 H83 =>
 Heap.le Hs74 H83 ∧
 stT (b82, 0) (Qb.c (⟨(⟨x76, r79⟩ : Qc), (-1)⟩ : Qb)) (fun H84 =>
 J70 (b82, 0) H84) H83) H80) H69) ∧
 (nw (Qb.c Qb.zero) (fun b86 H87 =>
 Heap.le Hs74 H87 ∧
 Qar C x65 (fun r89 H90 =>
 Heap.le Hs74 H90 ∧
 stT (b86, 0) (Qb.c (⟨(⟨x76, r89⟩ : Qc), (-1)⟩ : Qb)) (fun H91 =>
 J70 (b86, 0) H91) H90) H87) H69))) H68) H62) H62)
 (QO C x58 (.func (.func 34) (List.toArray []) (List.toArray []) : Value) (fun H116 =>
 K x58 0 H116) H62)) H60)) H18))) H2)) H
theorem QeE (C p_l p_mark K H) (h : QcI C p_l p_mark K H) : QR C p_l p_mark K H := by
 refine Ye Tryz.func13 rfl Tryz.ntmps13 [(0, pv p_l), (1, .int .i64 p_mark)] (Zo (Za (Za (GL.nil (GC.seq (Zo (Zm (Zm (Zc h QcC ?_)))))))))
 rintro _ H2 ⟨r1, rfl, h⟩
 refine Za (GL.nil (Zo (Zm (Zi (.bool ((r1 : Int) != 0)) (GL.nil (Yd h (fun u3 h => ?_) fun u3 h => ?_))))))
 refine Zo (Zm (Za (Za (GL.nil ?_))))
 exact Y2 I3 ⟨Sl.nil, r1, rfl, h⟩
 refine GC.skip (Zo (GL.makeMap h trivial rfl ?_))
 intro b4 H5 h
 refine Za (GL.nil (GC.seq (Zo (Zm ?_))))
 obtain ⟨p6, hp7, h⟩ := h
 refine Zv (OV.nilCheck (q := p_l) rfl hp7) (Zf (Yl h fun x8 h => ?_))
 refine Zm ?_
 obtain ⟨h11, h12, h13, h14, t10, h15, h⟩ := h
 refine Zv (OV.sliceSl (s := x8) h11 h12 h13 h14 h15 rfl rfl rfl rfl rfl rfl rfl (fun h => by first | rfl | cases h) rfl rfl) (Zq (Zm (GL.nil (GC.block (Yp h (fun x16 => [(33, .int .i64 x16), (0, pv p_l), (7, mv (some b4)), (31, slv t10), (32, .int .i64 (Sl.len t10 : Int))]) ?_)))))
 intro x16 H18 J17 h
 refine Zo (Zi (.bool (decide ((x16 : Int) < (Sl.len t10 : Int)))) (GL.nil (GC.seq (Yd h (fun u19 h => ?_) fun u19 h => ?_))))
 refine GC.skip ?_
 obtain ⟨J20, h, hR23⟩ := h
 refine GC.join (α := Unit) J20 (fun _ => [(0, pv p_l), (7, mv (some b4)), (31, slv t10), (32, .int .i64 (Sl.len t10 : Int)), (33, .int .i64 x16)]) ?_ ?_
 refine GC.block (Zo (Yx h fun p24 h => ?_))
 obtain ⟨x29, v30, h⟩ := h
 refine Zv (OV.loadT rfl rfl rfl v30) (GL.alloc (cs := Qd.c Qd.zero) h trivial rfl rfl rfl ?_)
 intro b31 H32 h
 obtain ⟨h134, h⟩ := h
 refine GL.storeT (p := (b31, 0)) (vs := Qd.c x29) h trivial rfl rfl h134 rfl ?_
 intro H33 h
 refine GL.nil (Zo (Zf (Yl h fun x35 h => ?_)))
 refine Zf (Yl h fun x37 h => ?_)
 refine Zv (OV.build (vs := [(0, sv x35), (1, sv x37)]) (v := .agg (Qg.c (⟨x35, x37⟩ : Qg)).toArray) rfl (fun _ => by kernel_rfl)) (GL.alloc (cs := Qg.c Qg.zero) h trivial rfl rfl rfl ?_)
 intro b39 H40 h
 refine GL.storeT (p := (b39, 0)) (vs := Qg.c (⟨x35, x37⟩ : Qg)) h trivial rfl rfl rfl rfl ?_
 intro H41 h
 refine GL.nil (Zo (Zm ?_))
 obtain ⟨x42, v43, h⟩ := h
 refine Zv (OV.loadT rfl rfl rfl v43) ?_
 obtain ⟨x44, is45, v46, h⟩ := h
 refine Zv (OV.lookup2 (v := .tuple #[slv x44, .bool is45]) (ke := kp) (enc := (fun x : Sl => (slv x : Value))) (z := Sl.nil) (q := (some b4)) (k := (x42.rel_, x42.key_)) (x := x44) (b := is45) rfl v46 rfl rfl rfl kOk71 rfl) (Zm (Yv (slv x44) rfl rfl (Yv (.bool is45) rfl rfl (Za (Za (GL.nil (Zo (Zm (GL.nil (Yd h (fun u47 h => ?_) fun u47 h => ?_))))))))))
 refine GC.region (Zm ?_)
 obtain ⟨x48, v49, h⟩ := h
 refine Zv (OV.loadT rfl rfl rfl v49) (GL.deleteM (ke := kp) (enc := (fun x : Sl => (slv x : Value))) (q := (some b4)) (k := (x48.rel_, x48.key_)) h trivial rfl rfl rfl kOk71 ?_)
 intro H50 h
 exact Yj I3 () h
 refine GC.region (Zm ?_)
 obtain ⟨x51, v52, h⟩ := h
 refine Zv (OV.loadT rfl rfl rfl v52) (Zf (Yl h fun x53 h => ?_))
 refine GL.mapUpdateS (ke := kp) (enc := (fun x : Sl => (slv x : Value))) (q := (some b4)) (k := (x51.rel_, x51.key_)) (x := x53) h trivial rfl rfl rfl rfl kOk71 ?_
 intro H55 h
 exact Yj I3 () h
 intro x21 H22 h
 replace h := hR23 x21 H22 h
 refine GC.region (Zi (.int .i64 (w .i64 (x16 + 1))) (Zm ?_))
 exact Yj I3 (w .i64 (x16 + 1)) h
 refine GC.exit_to (fun _ _ h => h) (Zo (Za (GL.nil (GC.seq (Zo (Zm (GL.rangeQ (ke := kp) (enc := (fun x : Sl => (slv x : Value))) (q := (some b4)) h trivial rfl rfl rfl kOk71 ?_)))))))
 intro b56 H57 h
 refine GL.nil (GC.block (Yp h (fun x58 => [(13, slv x58), (0, pv p_l), (57, pv (some (b56, 0)))]) ?_))
 intro x58 H60 J59 h
 refine Zo (GL.nextB (ke := kp) (enc := (fun x : Sl => (slv x : Value))) (it := b56) h trivial rfl rfl rfl rfl rfl ?_)
 intro b61 H62 h
 refine GL.nil (GC.seq (Yd h (fun u63 h => ?_) fun u63 h => ?_))
 refine GC.skip (GC.block (Zo ?_))
 obtain ⟨k64, x65, v66, h⟩ := h
 refine Zv (OV.entryM (ke := kp) (enc := (fun x : Sl => (slv x : Value))) (it := b56) (k := k64) (x := x65) (v := .tuple #[kp k64, slv x65]) rfl v66 rfl) (Yv (.agg (Qg.c (⟨k64.1, k64.2⟩ : Qg)).toArray) rfl rfl (Yv (slv x65) rfl rfl (GL.alloc (cs := Qg.c Qg.zero) h trivial rfl rfl rfl ?_)))
 intro b67 H68 h
 refine GL.storeT (p := (b67, 0)) (vs := Qg.c (⟨k64.1, k64.2⟩ : Qg)) h trivial rfl rfl rfl rfl ?_
 intro H69 h
 refine Za (GL.nil (GC.seq ?_))
 obtain ⟨J70, h, hR73⟩ := h
 refine GC.meet (α := Nat × Nat) J70 (fun x71 => [(16, pv (some x71)), (0, pv p_l), (13, slv x58), (14, pv (some (b67, 0))), (57, pv (some (b56, 0)))]) ?_ ?_
 obtain ⟨Hs74, hle75, h⟩ := h
 refine GC.tail (Hs := Hs74) 7 (by kernel_rfl) hle75 (by kernel_rfl) (Zy 0 rfl Yf ?_)
 obtain ⟨x76, v77, h⟩ := h
 refine Zy 1 rfl (Yo v77) (Zy 2 rfl Ym (GT.effs [3, 6] (by kernel_rfl) (by simp) (List.forall_mem_cons.2 ⟨⟨_, rfl, rfl, ?_⟩, List.forall_mem_cons.2 ⟨⟨_, rfl, rfl, ?_⟩, fun _ h => by cases h⟩⟩)))
 replace h := h.1
 refine Zc h Qb1 ?_
 rintro _ H80 ⟨r79, rfl, h⟩
 obtain ⟨hle78, h⟩ := h
 refine GT.back hle78 (Zy 4 rfl (OV.build (vs := [(0, sv x76), (1, slv r79)]) (v := .agg (Qc.c (⟨x76, r79⟩ : Qc)).toArray) rfl (fun _ => by kernel_rfl)) (Zy 5 rfl (OV.build (vs := [(0, .agg (Qc.c (⟨x76, r79⟩ : Qc)).toArray), (1, .int .i64 (-1))]) (v := .agg (Qb.c (⟨(⟨x76, r79⟩ : Qc), (-1)⟩ : Qb)).toArray) rfl (fun _ => by kernel_rfl)) (GT.eff 6 rfl (by kernel_rfl) rfl (GL.alloc (cs := Qb.c Qb.zero) h trivial rfl rfl rfl ?_))))
 intro b82 H83 h
 obtain ⟨hle81, h⟩ := h
 refine GT.back hle81 (GT.done (by kernel_rfl) ?_)
 show GL _ _ _ _ _ [_] _ _
 refine GL.storeT (p := (b82, 0)) (vs := Qb.c (⟨(⟨x76, r79⟩ : Qc), (-1)⟩ : Qb)) h trivial rfl rfl rfl rfl ?_
 intro H84 h
 exact Yj I3 (b82, 0) h
 replace h := h.2
 refine GL.alloc (cs := Qb.c Qb.zero) h trivial rfl rfl rfl ?_
 intro b86 H87 h
 obtain ⟨hle85, h⟩ := h
 refine GT.back hle85 (GT.eff 3 rfl (by kernel_rfl) rfl (Zc h Qb1 ?_))
 rintro _ H90 ⟨r89, rfl, h⟩
 obtain ⟨hle88, h⟩ := h
 refine GT.back hle88 (Zy 4 rfl (OV.build (vs := [(0, sv x76), (1, slv r89)]) (v := .agg (Qc.c (⟨x76, r89⟩ : Qc)).toArray) rfl (fun _ => by kernel_rfl)) (Zy 5 rfl (OV.build (vs := [(0, .agg (Qc.c (⟨x76, r89⟩ : Qc)).toArray), (1, .int .i64 (-1))]) (v := .agg (Qb.c (⟨(⟨x76, r89⟩ : Qc), (-1)⟩ : Qb)).toArray) rfl (fun _ => by kernel_rfl)) (GT.done (by kernel_rfl) ?_)))
 show GL _ _ _ _ _ [_] _ _
 refine GL.storeT (p := (b86, 0)) (vs := Qb.c (⟨(⟨x76, r89⟩ : Qc), (-1)⟩ : Qb)) h trivial rfl rfl rfl rfl ?_
 intro H91 h
 exact Yj I3 (b86, 0) h
 intro x71 H72 h
 replace h := hR73 x71 H72 h
 refine GL.nil ?_
 obtain ⟨J92, h, hR95⟩ := h
 refine GC.join (α := Unit) J92 (fun _ => [(0, pv p_l), (13, slv x58), (16, pv (some x71)), (57, pv (some (b56, 0)))]) ?_ ?_
 refine GC.seq (GC.draw (by kernel_rfl) (by kernel_rfl) (GQ.val trivial rfl (OV.move (v := pv p_l) rfl) ?_))
 obtain ⟨p96, hp97, h⟩ := h
 refine GQ.val trivial rfl (OV.nilCheck (q := p_l) rfl hp97) (GQ.val trivial rfl (OV.fieldAddr (p := p96) rfl rfl) ?_)
 obtain ⟨x98, v99, h⟩ := h
 refine GQ.val trivial rfl (OV.load (p := (p96.1, p96.2 + 0)) rfl rfl v99) (GQ.val trivial rfl (OV.fieldAddr (p := (b67, 0)) rfl rfl) ?_)
 obtain ⟨x100, v101, h⟩ := h
 refine GQ.val trivial rfl (OV.load (p := ((b67, 0).1, (b67, 0).2 + 0)) rfl rfl v101) ?_
 obtain ⟨x102, is103, v104, h⟩ := h
 refine GQ.val trivial rfl (OV.lookup1 (v := mv x102) (ke := sv) (enc := (fun x : Option Nat => (mv x : Value))) (z := none) (q := x98) (k := x100) (x := x102) (b := is103) rfl v104 rfl rfl rfl (kText rfl) rfl) (GQ.val trivial rfl (OV.fieldAddr (p := (b67, 0)) rfl rfl) ?_)
 obtain ⟨x105, v106, h⟩ := h
 refine GQ.val trivial rfl (OV.load (p := ((b67, 0).1, (b67, 0).2 + 1)) rfl rfl v106) ?_
 obtain ⟨x107, is108, v109, h⟩ := h
 refine GQ.val trivial rfl (OV.lookup2 (v := .tuple #[slv x107, .bool is108]) (ke := sv) (enc := (fun x : Sl => (slv x : Value))) (z := Sl.nil) (q := x102) (k := x105) (x := x107) (b := is108) rfl v109 rfl rfl rfl (kText rfl) rfl) (GQ.val trivial rfl (OV.move (v := .tuple #[slv x107, .bool is108]) rfl) (GQ.val trivial rfl (OV.extract (v := slv x107) rfl rfl) (GQ.val trivial rfl (OV.extract (v := .bool is108) rfl rfl) (GQ.val trivial rfl (OV.assign (v := slv x107) rfl) (GQ.val trivial rfl (OV.assign (v := .bool is108) rfl) (GQ.nil (GL.nil (Zo (Zm (GL.nil (Yd h (fun u110 h => ?_) fun u110 h => ?_)))))))))))
 refine GC.region (Zf (GL.store (p := (x71.1, x71.2 + 2)) (v := .int .i64 1) h trivial rfl rfl rfl rfl ?_))
 intro H111 h
 exact Yj I3 () h
 exact Yk I3 () h
 intro x93 H94 h
 replace h := hR95 x93 H94 h
 refine GC.region (Zm ?_)
 obtain ⟨x112, v113, h⟩ := h
 refine Zv (OV.loadT rfl rfl rfl v113) (GL.appendLit (s := x58) (ys := (Qb.c x112) ++ []) (zc := Qb.c Qb.zero) (bytes := 48) h trivial rfl (fun _ => trivial) rfl (fun _ => rfl) (fun _ => rfl) (vs := [(0, .agg (Qb.c x112).toArray)]) rfl ⟨43, fun _ => by kernel_rfl⟩ ⟨⟨_, _, _, rfl, rfl, rfl, rfl, rfl, rfl⟩⟩ rfl rfl ?_)
 intro _ r114 H115 h
 refine Za ?_
 exact Yj I3 r114 h
 refine GC.exit_to (fun _ _ h => h) (Zo (Zm (Zc h QaD ?_)))
 rintro _ H116 ⟨rfl, h⟩
 refine GL.nil (Zo (Zm (Za (Za (GL.nil ?_)))))
 exact Y2 I3 ⟨x58, 0, rfl, h⟩
def Qds (C : Ctx) (p_l : Option (Nat × Nat)) (p_r : Qc) (K : Bool → Int → Heap → Prop) (H : Heap) : Prop :=
 nw ([pv p_l]) (fun b1 H2 =>
 nw (Qc.c p_r) (fun b3 H4 =>
 ldP H4 (b1, 0) fun x5 =>
 ift (Option.isNone x5)
 (K false 2 H4)
 (ldL H4 ((b3, 0).1, (b3, 0).2 + 1) fun x8 =>
 Qcv C x8 (fun r10 r11 H12 =>
 nw ([sv []]) (fun b13 H14 =>
 st (b13, 0) (sv r10) (fun H15 =>
 ift (!r11)
 (K false 4 H15)
 (ldP H15 (b1, 0) fun x17 =>
 nck x17 fun p19 =>
 ldM H15 (p19.1, p19.2 + 0) fun x21 =>
 ldS H15 ((b3, 0).1, (b3, 0).2 + 0) fun x23 =>
 lkM sv (fun x : Option Nat => (mv x : Value)) none x21 x23 (fun x25 is26 =>
 ldS H15 (b13, 0) fun x28 =>
 lkM sv (fun x : Sl => (slv x : Value)) Sl.nil x25 x28 (fun x30 is31 =>
 ift is31
 (K false 0 H15)
 (ldL H15 ((b3, 0).1, (b3, 0).2 + 1) fun x34 =>
 Qar C x34 (fun r36 H37 =>
 ldP H37 (b1, 0) fun x38 =>
 ldS H37 ((b3, 0).1, (b3, 0).2 + 0) fun x40 =>
 ldS H37 (b13, 0) fun x42 =>
 QbO C x38 x40 x42 r36 (fun H44 =>
 dr H44 fun Hs45 =>
 ldP Hs45 (b1, 0) fun x47 =>
 ldP Hs45 (b1, 0) fun x49 =>
 nck x49 fun p51 =>
 ldL Hs45 (p51.1, p51.2 + 1) fun x53 =>
 ldS Hs45 ((b3, 0).1, (b3, 0).2 + 0) fun x55 =>
 ldS Hs45 (b13, 0) fun x57 =>
 nw ((Qd.c (⟨x55, x57, r36, (.func (.func 40) (List.toArray []) (List.toArray [pv (some (b1, 0)), pv (some (b3, 0)), pv (some (b13, 0))]) : Value)⟩ : Qd)) ++ []) (fun b60 H61 =>
 Heap.le Hs45 H61 ∧
 apS (Qd.c Qd.zero) 64 x53 (Sl.of (some (b60, 0)) 1 1) (fun r63 H64 =>
 Heap.le Hs45 H64 ∧
 nck x47 fun p65 =>
 st (p65.1, p65.2 + 1) (slv r63) (fun H67 =>
 K true 0 H67) H64) H61) H44) H37) H15)) H15) H15)) H14) H12) H4)) H2) H
theorem Qfi (C p_l p_r K H) (h : Qds C p_l p_r K H) : Qq C p_l p_r K H := by
 refine Ye Tryz.func14 rfl Tryz.ntmps14 [(0, pv p_l), (1, .agg (Qc.c p_r).toArray)] (Zo (GL.box (v := pv p_l) (cs := [pv p_l]) h trivial rfl rfl rfl ?_))
 intro b1 H2 h
 refine GL.box (v := .agg (Qc.c p_r).toArray) (cs := Qc.c p_r) h trivial rfl rfl rfl ?_
 intro b3 H4 h
 refine Za (Za (GL.nil (GC.seq (Zo (Yl h fun x5 h => ?_)))))
 refine Zv (OV.eqlNil (p := x5) rfl rfl rfl) (GL.nil (Yd h (fun u7 h => ?_) fun u7 h => ?_))
 refine Zo (Za (Za (GL.nil ?_)))
 exact Y2 I3 ⟨false, 2, rfl, h⟩
 refine GC.skip (Zo (Zf (Yl h fun x8 h => ?_)))
 refine Zc h Qd6 ?_
 rintro _ H12 ⟨r10, r11, rfl, h⟩
 refine Zm (Yv (sv r10) rfl rfl (Yv (.bool r11) rfl rfl (GL.alloc (cs := [sv []]) h trivial rfl rfl rfl ?_)))
 intro b13 H14 h
 refine GL.store (p := (b13, 0)) (v := sv r10) h trivial rfl rfl rfl rfl ?_
 intro H15 h
 refine Za (GL.nil (GC.seq (Zo (Zm (Zv (OV.not rfl) (GL.nil (Yd h (fun u16 h => ?_) fun u16 h => ?_)))))))
 refine Zo (Za (Za (GL.nil ?_)))
 exact Y2 I3 ⟨false, 4, rfl, h⟩
 refine GC.skip (GC.seq (GC.seq (GC.draw (by kernel_rfl) (by kernel_rfl) ?_)))
 obtain ⟨x17, v18, h⟩ := h
 refine GQ.val trivial rfl (OV.load (p := (b1, 0)) rfl rfl v18) ?_
 obtain ⟨p19, hp20, h⟩ := h
 refine GQ.val trivial rfl (OV.nilCheck (q := x17) rfl hp20) (GQ.val trivial rfl (OV.fieldAddr (p := p19) rfl rfl) ?_)
 obtain ⟨x21, v22, h⟩ := h
 refine GQ.val trivial rfl (OV.load (p := (p19.1, p19.2 + 0)) rfl rfl v22) (GQ.val trivial rfl (OV.fieldAddr (p := (b3, 0)) rfl rfl) ?_)
 obtain ⟨x23, v24, h⟩ := h
 refine GQ.val trivial rfl (OV.load (p := ((b3, 0).1, (b3, 0).2 + 0)) rfl rfl v24) ?_
 obtain ⟨x25, is26, v27, h⟩ := h
 refine GQ.val trivial rfl (OV.lookup1 (v := mv x25) (ke := sv) (enc := (fun x : Option Nat => (mv x : Value))) (z := none) (q := x21) (k := x23) (x := x25) (b := is26) rfl v27 rfl rfl rfl (kText rfl) rfl) ?_
 obtain ⟨x28, v29, h⟩ := h
 refine GQ.val trivial rfl (OV.load (p := (b13, 0)) rfl rfl v29) ?_
 obtain ⟨x30, is31, v32, h⟩ := h
 refine GQ.val trivial rfl (OV.lookup2 (v := .tuple #[slv x30, .bool is31]) (ke := sv) (enc := (fun x : Sl => (slv x : Value))) (z := Sl.nil) (q := x25) (k := x28) (x := x30) (b := is31) rfl v32 rfl rfl rfl (kText rfl) rfl) (GQ.val trivial rfl (OV.move (v := .tuple #[slv x30, .bool is31]) rfl) (GQ.val trivial rfl (OV.extract (v := slv x30) rfl rfl) (GQ.val trivial rfl (OV.extract (v := .bool is31) rfl rfl) (GQ.val trivial rfl (OV.assign (v := slv x30) rfl) (GQ.val trivial rfl (OV.assign (v := .bool is31) rfl) (GQ.nil (GL.nil (Zo (Zm (GL.nil (Yd h (fun u33 h => ?_) fun u33 h => ?_)))))))))))
 refine Zo (Za (Za (GL.nil ?_)))
 exact Y2 I3 ⟨false, 0, rfl, h⟩
 refine GC.skip (Zo (Zf (Yl h fun x34 h => ?_)))
 refine Zc h Qb1 ?_
 rintro _ H37 ⟨r36, rfl, h⟩
 refine Za (GL.nil (Zo (Yl h fun x38 h => ?_)))
 refine Zf (Yl h fun x40 h => ?_)
 refine Yl h fun x42 h => ?_
 refine Zm (Zc h QdO ?_)
 rintro _ H44 ⟨rfl, h⟩
 refine GL.nil (GC.seq ?_)
 obtain ⟨Hs45, hle46, h⟩ := h
 refine GC.tail (Hs := Hs45) 15 (by kernel_rfl) hle46 (by kernel_rfl) ?_
 obtain ⟨x47, v48, h⟩ := h
 refine Zy 0 rfl (Yo v48) ?_
 obtain ⟨x49, v50, h⟩ := h
 refine Zy 1 rfl (Yo v50) ?_
 obtain ⟨p51, hp52, h⟩ := h
 refine Zy 2 rfl (OV.nilCheck (q := x49) rfl hp52) (Zy 3 rfl Yf ?_)
 obtain ⟨x53, v54, h⟩ := h
 refine Zy 4 rfl (Yo v54) (Zy 5 rfl Yf ?_)
 obtain ⟨x55, v56, h⟩ := h
 refine Zy 6 rfl (Yo v56) ?_
 obtain ⟨x57, v58, h⟩ := h
 refine Zy 7 rfl (Yo v58) (Zy 8 rfl Ym (Zy 9 rfl (OV.makeFunc (vs := []) (us := [pv (some (b1, 0)), pv (some (b3, 0)), pv (some (b13, 0))]) rfl rfl) (Zy 10 rfl (OV.build (vs := [(0, sv x55), (1, sv x57), (2, slv r36), (3, .func (.func 40) (List.toArray []) (List.toArray [pv (some (b1, 0)), pv (some (b3, 0)), pv (some (b13, 0))]))]) (v := .agg (Qd.c (⟨x55, x57, r36, (.func (.func 40) (List.toArray []) (List.toArray [pv (some (b1, 0)), pv (some (b3, 0)), pv (some (b13, 0))]) : Value)⟩ : Qd)).toArray) rfl (fun _ => by kernel_rfl)) (GT.eff 11 rfl (by kernel_rfl) rfl (GL.buildSlice (cs := (Qd.c (⟨x55, x57, r36, (.func (.func 40) (List.toArray []) (List.toArray [pv (some (b1, 0)), pv (some (b3, 0)), pv (some (b13, 0))]) : Value)⟩ : Qd)) ++ []) h trivial rfl (vs := [(0, .agg (Qd.c (⟨x55, x57, r36, (.func (.func 40) (List.toArray []) (List.toArray [pv (some (b1, 0)), pv (some (b3, 0)), pv (some (b13, 0))]) : Value)⟩ : Qd)).toArray)]) rfl ⟨69, fun _ => by kernel_rfl⟩ ?_)))))
 intro b60 H61 h
 obtain ⟨hle59, h⟩ := h
 refine GT.back hle59 (GT.eff 12 rfl (by kernel_rfl) rfl (GL.appendS (s := x53) (s2 := (Sl.of (some (b60, 0)) 1 1)) (zc := Qd.c Qd.zero) (bytes := 64) h trivial rfl rfl rfl ⟨⟨_, _, _, rfl, rfl, rfl, rfl, rfl, rfl⟩⟩ rfl ?_))
 intro r63 H64 h
 obtain ⟨hle62, h⟩ := h
 refine GT.back hle62 ?_
 obtain ⟨p65, hp66, h⟩ := h
 refine Zy 13 rfl (OV.nilCheck (q := x47) rfl hp66) (Zy 14 rfl Yf (GT.done (by kernel_rfl) ?_))
 show GL _ _ _ _ _ [_] _ _
 refine GL.store (p := (p65.1, p65.2 + 1)) (v := slv r63) h trivial rfl rfl rfl rfl ?_
 intro H67 h
 refine GL.nil (Zo (Za (Za (GL.nil ?_))))
 exact Y2 I3 ⟨true, 0, rfl, h⟩
def Qdq (C : Ctx) (p_l : Option (Nat × Nat)) (p_r : Qc) (K : Bool → Int → Heap → Prop) (H : Heap) : Prop :=
 nw ([pv p_l]) (fun b1 H2 =>
 nw (Qc.c p_r) (fun b3 H4 =>
 ldP H4 (b1, 0) fun x5 =>
 ift (Option.isNone x5)
 (K false 2 H4)
 (ldL H4 ((b3, 0).1, (b3, 0).2 + 1) fun x8 =>
 Qcv C x8 (fun r10 r11 H12 =>
 nw ([sv []]) (fun b13 H14 =>
 st (b13, 0) (sv r10) (fun H15 =>
 ift (!r11)
 (K false 4 H15)
 (dr H15 fun Hs17 =>
 ldP Hs17 (b1, 0) fun x19 =>
 nck x19 fun p21 =>
 ldM Hs17 (p21.1, p21.2 + 0) fun x23 =>
 ldS Hs17 ((b3, 0).1, (b3, 0).2 + 0) fun x25 =>
 lkM sv (fun x : Option Nat => (mv x : Value)) none x23 x25 (fun x27 is28 =>
 ldS Hs17 (b13, 0) fun x30 =>
 lkM sv (fun x : Sl => (slv x : Value)) Sl.nil x27 x30 (fun x32 is33 =>
 nw ([slv Sl.nil]) (fun b36 H37 =>
 Heap.le Hs17 H37 ∧
 st (b36, 0) (slv x32) (fun H39 =>
 Heap.le Hs17 H39 ∧
 ift (!is33)
 (K false 0 H39)
 (ldP H39 (b1, 0) fun x41 =>
 ldS H39 ((b3, 0).1, (b3, 0).2 + 0) fun x43 =>
 ldS H39 (b13, 0) fun x45 =>
 Qbn C x41 x43 x45 (fun H47 =>
 dr H47 fun Hs48 =>
 ldP Hs48 (b1, 0) fun x50 =>
 ldP Hs48 (b1, 0) fun x52 =>
 nck x52 fun p54 =>
 ldL Hs48 (p54.1, p54.2 + 1) fun x56 =>
 ldS Hs48 ((b3, 0).1, (b3, 0).2 + 0) fun x58 =>
 ldS Hs48 (b13, 0) fun x60 =>
 ldL Hs48 (b36, 0) fun x62 =>
 nw ((Qd.c (⟨x58, x60, x62, (.func (.func 42) (List.toArray []) (List.toArray [pv (some (b1, 0)), pv (some (b3, 0)), pv (some (b13, 0)), pv (some (b36, 0))]) : Value)⟩ : Qd)) ++ []) (fun b65 H66 =>
 Heap.le Hs48 H66 ∧
 apS (Qd.c Qd.zero) 64 x56 (Sl.of (some (b65, 0)) 1 1) (fun r68 H69 =>
 Heap.le Hs48 H69 ∧
 nck x50 fun p70 =>
 st (p70.1, p70.2 + 1) (slv r68) (fun H72 =>
 K true 0 H72) H69) H66) H47) H39)) H37) H15) Hs17) Hs17)) H14) H12) H4)) H2) H
theorem Qfg (C p_l p_r K H) (h : Qdq C p_l p_r K H) : QV C p_l p_r K H := by
 refine Ye Tryz.func15 rfl Tryz.ntmps15 [(0, pv p_l), (1, .agg (Qc.c p_r).toArray)] (Zo (GL.box (v := pv p_l) (cs := [pv p_l]) h trivial rfl rfl rfl ?_))
 intro b1 H2 h
 refine GL.box (v := .agg (Qc.c p_r).toArray) (cs := Qc.c p_r) h trivial rfl rfl rfl ?_
 intro b3 H4 h
 refine Za (Za (GL.nil (GC.seq (Zo (Yl h fun x5 h => ?_)))))
 refine Zv (OV.eqlNil (p := x5) rfl rfl rfl) (GL.nil (Yd h (fun u7 h => ?_) fun u7 h => ?_))
 refine Zo (Za (Za (GL.nil ?_)))
 exact Y2 I3 ⟨false, 2, rfl, h⟩
 refine GC.skip (Zo (Zf (Yl h fun x8 h => ?_)))
 refine Zc h Qd6 ?_
 rintro _ H12 ⟨r10, r11, rfl, h⟩
 refine Zm (Yv (sv r10) rfl rfl (Yv (.bool r11) rfl rfl (GL.alloc (cs := [sv []]) h trivial rfl rfl rfl ?_)))
 intro b13 H14 h
 refine GL.store (p := (b13, 0)) (v := sv r10) h trivial rfl rfl rfl rfl ?_
 intro H15 h
 refine Za (GL.nil (GC.seq (Zo (Zm (Zv (OV.not rfl) (GL.nil (Yd h (fun u16 h => ?_) fun u16 h => ?_)))))))
 refine Zo (Za (Za (GL.nil ?_)))
 exact Y2 I3 ⟨false, 4, rfl, h⟩
 refine GC.skip (GC.seq ?_)
 obtain ⟨Hs17, hle18, h⟩ := h
 refine GC.any (Hs := Hs17) (by kernel_rfl) hle18 ?_
 obtain ⟨x19, v20, h⟩ := h
 refine Zp 0 rfl (Yo v20) ?_
 obtain ⟨p21, hp22, h⟩ := h
 refine Zp 1 rfl (OV.nilCheck (q := x19) rfl hp22) (Zp 2 rfl Yf ?_)
 obtain ⟨x23, v24, h⟩ := h
 refine Zp 3 rfl (Yo v24) (Zp 4 rfl Yf ?_)
 obtain ⟨x25, v26, h⟩ := h
 refine Zp 5 rfl (Yo v26) ?_
 obtain ⟨x27, is28, v29, h⟩ := h
 refine Zp 6 rfl (OV.lookup1 (v := mv x27) (ke := sv) (enc := (fun x : Option Nat => (mv x : Value))) (z := none) (q := x23) (k := x25) (x := x27) (b := is28) rfl v29 rfl rfl rfl (kText rfl) rfl) ?_
 obtain ⟨x30, v31, h⟩ := h
 refine Zp 7 rfl (Yo v31) ?_
 obtain ⟨x32, is33, v34, h⟩ := h
 refine Zp 8 rfl (OV.lookup2 (v := .tuple #[slv x32, .bool is33]) (ke := sv) (enc := (fun x : Sl => (slv x : Value))) (z := Sl.nil) (q := x27) (k := x30) (x := x32) (b := is33) rfl v34 rfl rfl rfl (kText rfl) rfl) (Zp 9 rfl Ym (Zp 10 rfl (OV.extract (v := slv x32) rfl rfl) (Zp 11 rfl (OV.extract (v := .bool is33) rfl rfl) (GA.eff 12 rfl (by kernel_rfl) (GL.alloc (cs := [slv Sl.nil]) h trivial rfl rfl rfl ?_)))))
 intro b36 H37 h
 obtain ⟨hle35, h⟩ := h
 refine GA.back hle35 (GA.eff 13 rfl (by kernel_rfl) (GL.store (p := (b36, 0)) (v := slv x32) h trivial rfl rfl rfl rfl ?_))
 intro H39 h
 obtain ⟨hle38, h⟩ := h
 refine GA.back hle38 (Zp 14 rfl Ya (GA.done (by kernel_rfl) (GL.nil (GC.seq (Zo (Zm (Zv (OV.not rfl) (GL.nil (Yd h (fun u40 h => ?_) fun u40 h => ?_)))))))))
 refine Zo (Za (Za (GL.nil ?_)))
 exact Y2 I3 ⟨false, 0, rfl, h⟩
 refine GC.skip (Zo (Yl h fun x41 h => ?_))
 refine Zf (Yl h fun x43 h => ?_)
 refine Yl h fun x45 h => ?_
 refine Zc h Qdm ?_
 rintro _ H47 ⟨rfl, h⟩
 refine GL.nil (GC.seq ?_)
 obtain ⟨Hs48, hle49, h⟩ := h
 refine GC.tail (Hs := Hs48) 15 (by kernel_rfl) hle49 (by kernel_rfl) ?_
 obtain ⟨x50, v51, h⟩ := h
 refine Zy 0 rfl (Yo v51) ?_
 obtain ⟨x52, v53, h⟩ := h
 refine Zy 1 rfl (Yo v53) ?_
 obtain ⟨p54, hp55, h⟩ := h
 refine Zy 2 rfl (OV.nilCheck (q := x52) rfl hp55) (Zy 3 rfl Yf ?_)
 obtain ⟨x56, v57, h⟩ := h
 refine Zy 4 rfl (Yo v57) (Zy 5 rfl Yf ?_)
 obtain ⟨x58, v59, h⟩ := h
 refine Zy 6 rfl (Yo v59) ?_
 obtain ⟨x60, v61, h⟩ := h
 refine Zy 7 rfl (Yo v61) ?_
 obtain ⟨x62, v63, h⟩ := h
 refine Zy 8 rfl (Yo v63) (Zy 9 rfl (OV.makeFunc (vs := []) (us := [pv (some (b1, 0)), pv (some (b3, 0)), pv (some (b13, 0)), pv (some (b36, 0))]) rfl rfl) (Zy 10 rfl (OV.build (vs := [(0, sv x58), (1, sv x60), (2, slv x62), (3, .func (.func 42) (List.toArray []) (List.toArray [pv (some (b1, 0)), pv (some (b3, 0)), pv (some (b13, 0)), pv (some (b36, 0))]))]) (v := .agg (Qd.c (⟨x58, x60, x62, (.func (.func 42) (List.toArray []) (List.toArray [pv (some (b1, 0)), pv (some (b3, 0)), pv (some (b13, 0)), pv (some (b36, 0))]) : Value)⟩ : Qd)).toArray) rfl (fun _ => by kernel_rfl)) (GT.eff 11 rfl (by kernel_rfl) rfl (GL.buildSlice (cs := (Qd.c (⟨x58, x60, x62, (.func (.func 42) (List.toArray []) (List.toArray [pv (some (b1, 0)), pv (some (b3, 0)), pv (some (b13, 0)), pv (some (b36, 0))]) : Value)⟩ : Qd)) ++ []) h trivial rfl (vs := [(0, .agg (Qd.c (⟨x58, x60, x62, (.func (.func 42) (List.toArray []) (List.toArray [pv (some (b1, 0)), pv (some (b3, 0)), pv (some (b13, 0)), pv (some (b36, 0))]) : Value)⟩ : Qd)).toArray)]) rfl ⟨69, fun _ => by kernel_rfl⟩ ?_))))
 intro b65 H66 h
 obtain ⟨hle64, h⟩ := h
 refine GT.back hle64 (GT.eff 12 rfl (by kernel_rfl) rfl (GL.appendS (s := x56) (s2 := (Sl.of (some (b65, 0)) 1 1)) (zc := Qd.c Qd.zero) (bytes := 64) h trivial rfl rfl rfl ⟨⟨_, _, _, rfl, rfl, rfl, rfl, rfl, rfl⟩⟩ rfl ?_))
 intro r68 H69 h
 obtain ⟨hle67, h⟩ := h
 refine GT.back hle67 ?_
 obtain ⟨p70, hp71, h⟩ := h
 refine Zy 13 rfl (OV.nilCheck (q := x50) rfl hp71) (Zy 14 rfl Yf (GT.done (by kernel_rfl) ?_))
 show GL _ _ _ _ _ [_] _ _
 refine GL.store (p := (p70.1, p70.2 + 1)) (v := slv r68) h trivial rfl rfl rfl rfl ?_
 intro H72 h
 refine GL.nil (Zo (Za (Za (GL.nil ?_))))
 exact Y2 I3 ⟨true, 0, rfl, h⟩
def QcE (C : Ctx) (p_a : Sl) (p_b : Sl) (K : Bool → Heap → Prop) (H : Heap) : Prop :=
 ift (((Sl.len p_a : Int) : Int) != (Sl.len p_b : Int))
 (K false H)
 (lp (α := Int) 0 H (fun x2 J3 H4 =>
 ift (decide ((x2 : Int) < (Sl.len p_a : Int)))
 (jn (α := Bool) (fun x7 H8 =>
 ift x7
 (K false H8)
 (J3 (w .i64 (x2 + 1)) H8))
 (fun J6 => dr H4 fun Hs10 =>
 ixa p_a x2 fun p12 =>
 ldS Hs10 ((p12.1, p12.2 + (x2 : Int).toNat * 2).1, (p12.1, p12.2 + (x2 : Int).toNat * 2).2 + 0) fun x17 =>
 ixa p_b x2 fun p19 =>
 ldS Hs10 ((p19.1, p19.2 + (x2 : Int).toNat * 2).1, (p19.1, p19.2 + (x2 : Int).toNat * 2).2 + 0) fun x24 =>
 ift (!(x17 == x24))
 (J6 true H4)
 (ixa p_a x2 fun p27 =>
 ldL Hs10 ((p27.1, p27.2 + (x2 : Int).toNat * 2).1, (p27.1, p27.2 + (x2 : Int).toNat * 2).2 + 1) fun x32 =>
 ixa p_b x2 fun p34 =>
 ldL Hs10 ((p34.1, p34.2 + (x2 : Int).toNat * 2).1, (p34.1, p34.2 + (x2 : Int).toNat * 2).2 + 1) fun x39 =>
 Qaa C x32 x39 (fun r42 H43 =>
 Heap.le Hs10 H43 ∧
 J6 (!r42) H43) H4)))
 (K true H4)))
theorem QeA (C p_a p_b K H) (h : QcE C p_a p_b K H) : QaZ C p_a p_b K H := by
 refine Ye Tryz.func16 rfl Tryz.ntmps16 [(0, slv p_a), (1, slv p_b)] (Zo (Za (GL.nil (GC.seq (Zo (Zm (Zq (Zm (Zq (Zi (.bool (((Sl.len p_a : Int) : Int) != (Sl.len p_b : Int))) (GL.nil (Yd h (fun u1 h => ?_) fun u1 h => ?_))))))))))))
 refine Zo (Za (GL.nil ?_))
 exact Y1 I3 ⟨false, rfl, h⟩
 refine GC.skip (GC.seq (Zo (Za (GL.nil (GC.block (Yp h (fun x2 => [(5, .int .i64 x2), (0, slv p_a), (1, slv p_b)]) ?_))))))
 intro x2 H4 J3 h
 refine GC.seq (Zo (Zm (Zm (Zq (Zi (.bool (decide ((x2 : Int) < (Sl.len p_a : Int)))) (GL.nil (Yd h (fun u5 h => ?_) fun u5 h => ?_)))))))
 refine GC.skip (GC.seq (GC.block (GC.seq ?_)))
 obtain ⟨J6, h, hR9⟩ := h
 refine GC.meet (α := Bool) J6 (fun x7 => [(41, .bool x7), (0, slv p_a), (1, slv p_b), (5, .int .i64 x2)]) ?_ ?_
 obtain ⟨Hs10, hle11, h⟩ := h
 refine GC.any (Hs := Hs10) (by kernel_rfl) hle11 (Zp 0 rfl Ym (Zp 1 rfl Ym ?_))
 obtain ⟨p12, ha13, hb14, u15, hd16, h⟩ := h
 refine Zp 2 rfl (OV.indexAddr rfl rfl rfl rfl ha13 hb14 u15 hd16) (Zp 3 rfl Yf ?_)
 obtain ⟨x17, v18, h⟩ := h
 refine Zp 4 rfl (Yo v18) (Zp 5 rfl Ym (Zp 6 rfl Ym ?_))
 obtain ⟨p19, ha20, hb21, u22, hd23, h⟩ := h
 refine Zp 7 rfl (OV.indexAddr rfl rfl rfl rfl ha20 hb21 u22 hd23) (Zp 8 rfl Yf ?_)
 obtain ⟨x24, v25, h⟩ := h
 refine Zp 9 rfl (Yo v25) (Zp 10 rfl (OV.sbin (a := x17) (b := x24) (v := .bool (!(x17 == x24))) rfl rfl rfl) (Zp 11 rfl Ym ?_))
 rcases h.em with ⟨u26, h⟩ | ⟨u26, h⟩
 refine Zj 12 rfl (Yw u26) (Zj 13 rfl (Yw u26) (Zj 14 rfl (Yw u26) (Zj 15 rfl (Yw u26) (Zj 16 rfl (Yw u26) (Zj 17 rfl (Yw u26) (Zj 18 rfl (Yw u26) (Zj 19 rfl (Yw u26) (Zj 20 rfl (Yw u26) (Zj 21 rfl (Yw u26) (Zj 22 rfl (Yw u26) (Zj 23 rfl (Yw u26) (Zp 24 rfl (OV.pickT rfl u26 rfl) (GA.done (by kernel_rfl) ?_)))))))))))))
 exact Yj I3 true h
 refine Zg 12 rfl (Yt u26) Ym (Zg 13 rfl (Yt u26) Ym ?_)
 obtain ⟨p27, ha28, hb29, u30, hd31, h⟩ := h
 refine Zg 14 rfl (Yt u26) (OV.indexAddr rfl rfl rfl rfl ha28 hb29 u30 hd31) (Zg 15 rfl (Yt u26) Yf ?_)
 obtain ⟨x32, v33, h⟩ := h
 refine Zg 16 rfl (Yt u26) (Yo v33) (Zg 17 rfl (Yt u26) Ym (Zg 18 rfl (Yt u26) Ym ?_))
 obtain ⟨p34, ha35, hb36, u37, hd38, h⟩ := h
 refine Zg 19 rfl (Yt u26) (OV.indexAddr rfl rfl rfl rfl ha35 hb36 u37 hd38) (Zg 20 rfl (Yt u26) Yf ?_)
 obtain ⟨x39, v40, h⟩ := h
 refine Zg 21 rfl (Yt u26) (Yo v40) (GA.eff 22 rfl (by kernel_rfl) (GL.call h (Yt u26) rfl QbC (vs := [slv x32, slv x39]) rfl ?_))
 rintro _ H43 ⟨r42, rfl, h⟩
 obtain ⟨hle41, h⟩ := h
 refine GA.back hle41 (Zg 23 rfl (Yt u26) (OV.not rfl) (Zp 24 rfl (OV.pickF rfl u26 rfl) (GA.done (by kernel_rfl) ?_)))
 exact Yj I3 (!r42) h
 intro x7 H8 h
 replace h := hR9 x7 H8 h
 refine GL.nil (Yd h (fun u44 h => ?_) fun u44 h => ?_)
 refine Zo (Za (GL.nil ?_))
 exact Y1 I3 ⟨false, rfl, h⟩
 refine GC.skip_to (fun _ _ h => h) (GC.region (Zm (Zi (.int .i64 (w .i64 (x2 + 1))) (Za ?_))))
 exact Yj I3 (w .i64 (x2 + 1)) h
 refine GC.exit_to (fun _ _ h => h) (Zo (Za (GL.nil ?_)))
 exact Y1 I3 ⟨true, rfl, h⟩
def Qc9 (C : Ctx) (p_l : Option (Nat × Nat)) (p_mark : Int) (K : Int → Heap → Prop) (H : Heap) : Prop :=
 Qa1 C p_l p_mark (fun r1 H2 =>
 ift ((r1 : Int) != 0)
 (K r1 H2)
 (nck p_l fun p4 =>
 ldL H2 (p4.1, p4.2 + 1) fun x6 =>
 slL x6 p_mark (Sl.len x6 : Int) (Sl.cap x6 : Int) 4 fun t8 =>
 Ql C t8 (fun r14 H15 =>
 Rf.rng Tryz.prog C r14 2 H15
 (fun yl19 r20 us K23 H24 => ∃ (u16 : Int) (u17 : Qd), us = [.int .i64 u16, .agg (Qd.c u17).toArray] ∧
 nw (Qd.c Qd.zero) (fun b42 H43 =>
 (List.all (Qd.c u17) Value.oneCell' = true) ∧
 stT (b42, 0) (Qd.c u17) (fun H44 =>
 H44 yl19 = some (true, Rf.lrec r20 .ready none) ∧
 ldV (Heap.put H44 yl19 (Rf.lrec r20 .busy none)) ((b42, 0).1, (b42, 0).2 + 3) fun x48 =>
 callU Tryz.prog C x48 [] (Heap.put H44 yl19 (Rf.lrec r20 .busy none)) (fun v H50 => v = .tuple #[] ∧
 H50 yl19 = some (true, Rf.lrec r20 .busy none) ∧ K23 true (Heap.put H50 yl19 (Rf.lrec r20 .ready none)))) H43) H24)
 (fun D18 H78 =>
 nck p_l fun p57 =>
 ldL H78 (p57.1, p57.2 + 1) fun x59 =>
 slL x59 0 p_mark p_mark 4 fun t61 =>
 nck p_l fun p67 =>
 st (p67.1, p67.2 + 1) (slv t61) (fun H69 =>
 Rf.mk1 H69 D18 (fun Hm70 =>
 K 0 Hm70)) H78)
 (fun D18 H79 =>
 Rf.mk1 H79 D18 (fun Hm74 =>
 K 0 Hm74))) H2)) H
theorem Qe3 (C p_l p_mark K H) (h : Qc9 C p_l p_mark K H) : Qbg C p_l p_mark K H := by
 refine Rf.Spec.enterI Tryz.func17 rfl Tryz.ntmps17 rfl ?_
 refine Rf.GI.sub [(0, pv p_l), (1, .int .i64 p_mark)] ⟨rfl, rfl, trivial⟩ ?_
 refine Rf.GI.seq ?_
 refine Rf.GI.region (fun _ _ h => h) rfl ?_
 refine GL.val trivial rfl (OV.assign (v := .int .i64 0) rfl) ?_
 refine Rf.GI.nil ?_
 refine Rf.GI.seq ?_
 refine Rf.GI.seq ?_
 refine Rf.GI.region (fun _ _ h => h) rfl ?_
 refine GL.val trivial rfl (OV.move (v := pv p_l) rfl) ?_
 refine GL.val trivial rfl (OV.move (v := .int .i64 p_mark) rfl) ?_
 refine GL.call h trivial rfl QcC (vs := [pv p_l, .int .i64 p_mark]) rfl ?_
 rintro _ H2 ⟨r1, rfl, h⟩
 refine GL.val trivial rfl (OV.assign (v := .int .i64 r1) rfl) ?_
 refine Rf.GI.nil ?_
 refine Rf.GI.seq ?_
 refine Rf.GI.region (fun _ _ h => h) rfl ?_
 refine GL.val trivial rfl (OV.move (v := .int .i64 r1) rfl) ?_
 refine GL.val trivial rfl (OV.ibin (v := .bool ((r1 : Int) != 0)) rfl rfl rfl) ?_
 refine Rf.GI.nil ?_
 refine Rf.GI.cond (b := (r1 : Int) != 0) rfl (fun hc3 => ?_) (fun hc3 => ?_)
 ·replace h := And.left h hc3
  refine Rf.GI.seq ?_
  refine Rf.GI.region (fun _ _ h => h) rfl ?_
  refine GL.val trivial rfl (OV.move (v := .int .i64 r1) rfl) ?_
  refine GL.val trivial rfl (OV.assign (v := .int .i64 r1) rfl) ?_
  refine Rf.GI.nil ?_
  exact Rf.GI.ret (fun _ _ hf hs => Qep rfl rfl hf hs ⟨r1, rfl, h⟩)
 ·replace h := And.right h hc3
  refine Rf.GI.skip ?_
  refine Rf.GI.seq ?_
  refine Rf.GI.seq ?_
  refine Rf.GI.region (fun _ _ h => h) rfl ?_
  refine GL.val trivial rfl (OV.move (v := pv p_l) rfl) ?_
  obtain ⟨p4, hp5, h⟩ := h
  refine GL.val trivial rfl (OV.nilCheck (q := p_l) rfl hp5) ?_
  refine GL.val trivial rfl (OV.fieldAddr (p := p4) rfl rfl) ?_
  obtain ⟨x6, hr7, h⟩ := h
  refine GL.val trivial rfl (OV.load (p := (p4.1, p4.2 + 1)) rfl rfl hr7) ?_
  refine GL.val trivial rfl (OV.move (v := .int .i64 p_mark) rfl) ?_
  obtain ⟨h9, h10, h11, h12, t8, h13, h⟩ := h
  refine GL.val trivial rfl (OV.sliceSl (s := x6) h9 h10 h11 h12 h13 rfl rfl rfl rfl rfl rfl rfl (fun h => by first | rfl | cases h) rfl rfl) ?_
  refine GL.call h trivial rfl QaC (vs := [slv t8]) rfl ?_
  rintro _ H15 ⟨r14, rfl, h⟩
  refine Rf.GI.nil ?_
  refine Rf.GI.block ?_
  obtain ⟨gf26, xb27, hv28, hok29, h⟩ := h
  refine Rf.GI.rangeFunc (gf := gf26) (xb := xb27) (congrArg some hv28) hok29 ?_
  intro D18 yl19 r20 hD30 hyl31 hne32 hr22 hra33 hrb34 hfr35
  obtain ⟨Y21, hY36, h⟩ := h D18 yl19 r20 hD30 hyl31 hne32
  have hyy40 : Rf.YldS Tryz.prog C yl19 Y21 := by
   refine Rf.YldS.rounds hfr35 (by rw [hr22]; rfl) ?_
   intro us37 K23 H24 hz41
   obtain ⟨q38, q39, h⟩ := hY36 us37 K23 H24 hz41
   refine ⟨q38, by rw [hr22]; exact q39, ?_⟩
   obtain ⟨u16, u17, rfl, h⟩ := h
   rw [hr22, hra33]
   refine Rf.GI.sub [(22, .agg (Qd.c u17).toArray)] ⟨rfl, trivial⟩ ?_
   refine Rf.GI.region (fun _ _ h => h) rfl ?_
   refine GL.alloc (cs := Qd.c Qd.zero) h trivial rfl rfl rfl ?_
   intro b42 H43 h
   obtain ⟨h145, h⟩ := h
   refine GL.storeT (p := (b42, 0)) (vs := Qd.c u17) h trivial rfl rfl h145 rfl ?_
   intro H44 h
   obtain ⟨q46, h⟩ := h
   refine Rf.RA.mk q46 ?_
   rw [hrb34]
   refine Rf.GI.block ?_
   refine Rf.GI.region (fun _ _ h => h) rfl ?_
   refine GL.val trivial rfl (OV.fieldAddr (p := (b42, 0)) rfl rfl) ?_
   obtain ⟨x48, hr49, h⟩ := h
   refine GL.val trivial rfl (OV.load (p := ((b42, 0).1, (b42, 0).2 + 3)) rfl rfl hr49) ?_
   refine GL.callU (xv := x48) (vs := []) h trivial rfl rfl rfl ?_
   rintro _ H50 ⟨rfl, h⟩
   exact GL.ends (fun _ _ hf hs => ⟨_, hs, h⟩)
  refine Spec.mono (h hyy40) fun u51 H52 h => ?_
  obtain ⟨st53, pend54, k55, k56, ⟨rfl, h⟩ | ⟨rfl, h⟩⟩ := h
  ·refine Rf.RK.nrm (P := Tryz.prog) k55 k56 ?_
   refine Rf.GI.nil_to (fun _ _ h => h) ?_
   refine Rf.GI.seq ?_
   refine Rf.GI.region (fun _ _ h => h) rfl ?_
   refine GL.val trivial rfl (OV.move (v := pv p_l) rfl) ?_
   refine GL.val trivial rfl (OV.move (v := pv p_l) rfl) ?_
   obtain ⟨p57, hp58, h⟩ := h
   refine GL.val trivial rfl (OV.nilCheck (q := p_l) rfl hp58) ?_
   refine GL.val trivial rfl (OV.fieldAddr (p := p57) rfl rfl) ?_
   obtain ⟨x59, hr60, h⟩ := h
   refine GL.val trivial rfl (OV.load (p := (p57.1, p57.2 + 1)) rfl rfl hr60) ?_
   refine GL.val trivial rfl (OV.move (v := .int .i64 p_mark) rfl) ?_
   refine GL.val trivial rfl (OV.move (v := .int .i64 p_mark) rfl) ?_
   obtain ⟨h62, h63, h64, h65, t61, h66, h⟩ := h
   refine GL.val trivial rfl (OV.sliceSl (s := x59) h62 h63 h64 h65 h66 rfl rfl rfl rfl rfl rfl rfl (fun h => by first | rfl | cases h) rfl rfl) ?_
   obtain ⟨p67, hp68, h⟩ := h
   refine GL.val trivial rfl (OV.nilCheck (q := p_l) rfl hp68) ?_
   refine GL.val trivial rfl (OV.fieldAddr (p := p67) rfl rfl) ?_
   refine GL.store (p := (p67.1, p67.2 + 1)) (v := slv t61) h trivial rfl rfl rfl rfl ?_
   intro H69 h
   refine Rf.GI.nil ?_
   refine Rf.GI.seq ?_
   refine Rf.GI.region (fun _ _ h => h) rfl ?_
   refine GL.val trivial rfl (OV.assign (v := .int .i64 0) rfl) ?_
   refine Rf.GI.nil ?_
   obtain ⟨Hm70, hle71, h72, hd73, h⟩ := h
   refine Rf.GI.ret (fun _ _ hf hs => ?_)
   refine Rf.Qge hf hs hle71 h72 hd73 ?_
   exact (fun _ _ hf hs => Qep rfl rfl hf hs ⟨0, rfl, h⟩)
  ·refine Rf.RK.ret k55 k56 ?_
   obtain ⟨Hm74, hle75, h76, hd77, h⟩ := h
   refine (fun _ _ hf hs => ?_)
   refine Rf.Qge hf hs hle75 h76 hd77 ?_
   exact (fun _ _ hf hs => Qep rfl rfl hf hs ⟨0, rfl, h⟩)
def Qdb (C : Ctx) (p_l : Option (Nat × Nat)) (p_rel : Str) (K : Sl → Heap → Prop) (H : Heap) : Prop :=
 ift (Option.isNone p_l)
 (K Sl.nil H)
 (nck p_l fun p2 =>
 ldM H (p2.1, p2.2 + 0) fun x4 =>
 lkM sv (fun x : Option Nat => (mv x : Value)) none x4 p_rel (fun x6 is7 =>
 rgM sv (fun x : Sl => (slv x : Value)) x6 (fun b9 H10 =>
 lp (α := Sl) Sl.nil H10 (fun x11 J12 H13 =>
 nxB sv (fun x : Sl => (slv x : Value)) b9 (fun b14 H15 =>
 ift b14
 (enM sv (fun x : Sl => (slv x : Value)) b9 (fun k17 x18 =>
 Qar C x18 (fun r20 H21 =>
 apd ([slv Sl.nil]) 24 x11 ([slv r20]) 1 (fun r22 H23 =>
 J12 r22 H23) H21) H15) H15)
 (Qx C x11 (.func (.func 37) (List.toArray []) (List.toArray []) : Value) (fun H24 =>
 K x11 H24) H15)) H13)) H) H)
theorem Qe5 (C p_l p_rel K H) (h : Qdb C p_l p_rel K H) : Qbh C p_l p_rel K H := by
 refine Ye Tryz.func22 rfl Tryz.ntmps22 [(0, pv p_l), (1, sv p_rel)] (Zo (Za (GL.nil (GC.seq (Zo (Zm (Zv (OV.eqlNil (p := p_l) rfl rfl rfl) (GL.nil (Yd h (fun u1 h => ?_) fun u1 h => ?_)))))))))
 refine Zo (Za (GL.nil ?_))
 exact Y1 I3 ⟨Sl.nil, rfl, h⟩
 refine GC.skip (Zo (Za (GL.nil (GC.seq (Zo (Zm ?_))))))
 obtain ⟨p2, hp3, h⟩ := h
 refine Zv (OV.nilCheck (q := p_l) rfl hp3) (Zf (Yl h fun x4 h => ?_))
 refine Zm ?_
 obtain ⟨x6, is7, v8, h⟩ := h
 refine Zv (OV.lookup1 (v := mv x6) (ke := sv) (enc := (fun x : Option Nat => (mv x : Value))) (z := none) (q := x4) (k := p_rel) (x := x6) (b := is7) rfl v8 rfl rfl rfl (kText rfl) rfl) (GL.rangeQ (ke := sv) (enc := (fun x : Sl => (slv x : Value))) (q := x6) h trivial rfl rfl rfl (kText rfl) ?_)
 intro b9 H10 h
 refine GL.nil (GC.block (Yp h (fun x11 => [(5, slv x11), (16, pv (some (b9, 0)))]) ?_))
 intro x11 H13 J12 h
 refine Zo (GL.nextB (ke := sv) (enc := (fun x : Sl => (slv x : Value))) (it := b9) h trivial rfl rfl rfl rfl rfl ?_)
 intro b14 H15 h
 refine GL.nil (GC.seq (Yd h (fun u16 h => ?_) fun u16 h => ?_))
 refine GC.skip (GC.block (Zo ?_))
 obtain ⟨k17, x18, v19, h⟩ := h
 refine Zv (OV.entryM (ke := sv) (enc := (fun x : Sl => (slv x : Value))) (it := b9) (k := k17) (x := x18) (v := .tuple #[sv k17, slv x18]) rfl v19 rfl) (Yv (slv x18) rfl rfl (Za (GL.nil (GC.region (Zm (Zm (Zc h Qb1 ?_)))))))
 rintro _ H21 ⟨r20, rfl, h⟩
 refine GL.appendLit (s := x11) (ys := [slv r20]) (zc := [slv Sl.nil]) (bytes := 24) h trivial rfl (fun _ => trivial) rfl (fun _ => rfl) (fun _ => rfl) (vs := [(0, slv r20)]) rfl ⟨28, fun _ => by kernel_rfl⟩ ⟨⟨_, _, _, rfl, rfl, rfl, rfl, rfl, rfl⟩⟩ rfl rfl ?_
 intro _ r22 H23 h
 refine Za ?_
 exact Yj I3 r22 h
 refine GC.exit_to (fun _ _ h => h) (Zo (Zm (Zc h QaO ?_)))
 rintro _ H24 ⟨rfl, h⟩
 refine GL.nil (Zo (Zm (Za (GL.nil ?_))))
 exact Y1 I3 ⟨x11, rfl, h⟩
def Qdr (C : Ctx) (p_l : Option (Nat × Nat)) (p_r : Qc) (K : Bool → Heap → Prop) (H : Heap) : Prop :=
 nw (Qc.c p_r) (fun b1 H2 =>
 ift (Option.isNone p_l)
 (K false H2)
 (ldL H2 ((b1, 0).1, (b1, 0).2 + 1) fun x4 =>
 Qcv C x4 (fun r6 r7 H8 =>
 nck p_l fun p9 =>
 ldM H8 (p9.1, p9.2 + 0) fun x11 =>
 ldS H8 ((b1, 0).1, (b1, 0).2 + 0) fun x13 =>
 lkM sv (fun x : Option Nat => (mv x : Value)) none x11 x13 (fun x15 is16 =>
 lkM sv (fun x : Sl => (slv x : Value)) Sl.nil x15 r6 (fun x18 is19 =>
 K (r7 && is19) H8) H8) H8) H2)) H
theorem Qfh (C p_l p_r K H) (h : Qdr C p_l p_r K H) : QaU C p_l p_r K H := by
 refine Ye Tryz.func25 rfl Tryz.ntmps25 [(0, pv p_l), (1, .agg (Qc.c p_r).toArray)] (Zo (GL.box (v := .agg (Qc.c p_r).toArray) (cs := Qc.c p_r) h trivial rfl rfl rfl ?_))
 intro b1 H2 h
 refine Za (GL.nil (GC.seq (Zo (Zm (Zv (OV.eqlNil (p := p_l) rfl rfl rfl) (GL.nil (Yd h (fun u3 h => ?_) fun u3 h => ?_)))))))
 refine Zo (Za (GL.nil ?_))
 exact Y1 I3 ⟨false, rfl, h⟩
 refine GC.skip (Zo (Zf (Yl h fun x4 h => ?_)))
 refine Zc h Qd6 ?_
 rintro _ H8 ⟨r6, r7, rfl, h⟩
 refine Zm (Yv (sv r6) rfl rfl (Yv (.bool r7) rfl rfl (Za (Za (GL.nil (GC.seq (GC.draw (by kernel_rfl) (by kernel_rfl) (GQ.val trivial rfl (OV.move (v := pv p_l) rfl) ?_))))))))
 obtain ⟨p9, hp10, h⟩ := h
 refine GQ.val trivial rfl (OV.nilCheck (q := p_l) rfl hp10) (GQ.val trivial rfl (OV.fieldAddr (p := p9) rfl rfl) ?_)
 obtain ⟨x11, v12, h⟩ := h
 refine GQ.val trivial rfl (OV.load (p := (p9.1, p9.2 + 0)) rfl rfl v12) (GQ.val trivial rfl (OV.fieldAddr (p := (b1, 0)) rfl rfl) ?_)
 obtain ⟨x13, v14, h⟩ := h
 refine GQ.val trivial rfl (OV.load (p := ((b1, 0).1, (b1, 0).2 + 0)) rfl rfl v14) ?_
 obtain ⟨x15, is16, v17, h⟩ := h
 refine GQ.val trivial rfl (OV.lookup1 (v := mv x15) (ke := sv) (enc := (fun x : Option Nat => (mv x : Value))) (z := none) (q := x11) (k := x13) (x := x15) (b := is16) rfl v17 rfl rfl rfl (kText rfl) rfl) (GQ.val trivial rfl (OV.move (v := sv r6) rfl) ?_)
 obtain ⟨x18, is19, v20, h⟩ := h
 refine GQ.val trivial rfl (OV.lookup2 (v := .tuple #[slv x18, .bool is19]) (ke := sv) (enc := (fun x : Sl => (slv x : Value))) (z := Sl.nil) (q := x15) (k := r6) (x := x18) (b := is19) rfl v20 rfl rfl rfl (kText rfl) rfl) (GQ.val trivial rfl (OV.move (v := .tuple #[slv x18, .bool is19]) rfl) (GQ.val trivial rfl (OV.extract (v := slv x18) rfl rfl) (GQ.val trivial rfl (OV.extract (v := .bool is19) rfl rfl) (GQ.val trivial rfl (OV.assign (v := slv x18) rfl) (GQ.val trivial rfl (OV.assign (v := .bool is19) rfl) (GQ.nil (GL.nil (Zo (Zm (Zm (GL.cut0 2 [(32, .bool (r7 && is19))] ?_ ?_)))))))))))
 rcases Bool.eq_false_or_eq_true r7 with u21 | u21
 refine Zu u21 Ym (Zt u21 ?_)
 exact GL.jump0 (fun _ _ h => h) () rfl ⟨(by rw [u21]; rfl), trivial⟩
 refine Zk u21 (Zn u21 ?_)
 exact GL.jump0 (fun _ _ h => h) () rfl ⟨(by rw [u21]; rfl), trivial⟩
 refine Za (GL.nil ?_)
 exact Y1 I3 ⟨(r7 && is19), rfl, h⟩
def QcG (C : Ctx) (p_l : Option (Nat × Nat)) (K : Sl → Heap → Prop) (H : Heap) : Prop :=
 ift (Option.isNone p_l)
 (K Sl.nil H)
 (nck p_l fun p2 =>
 ldM H (p2.1, p2.2 + 0) fun x4 =>
 rgM sv (fun x : Option Nat => (mv x : Value)) x4 (fun b6 H7 =>
 lp (α := Sl) Sl.nil H7 (fun x8 J9 H10 =>
 nxB sv (fun x : Option Nat => (mv x : Value)) b6 (fun b11 H12 =>
 ift b11
 (enM sv (fun x : Option Nat => (mv x : Value)) b6 (fun k14 x15 =>
 apd ([sv []]) 16 x8 ([sv k14]) 1 (fun r17 H18 =>
 J9 r17 H18) H12) H12)
 (QaF C x8 (fun H19 =>
 K x8 H19) H12)) H10)) H)
theorem QeC (C p_l K H) (h : QcG C p_l K H) : Qa0 C p_l K H := by
 refine Ye Tryz.func26 rfl Tryz.ntmps26 [(0, pv p_l)] (Zo (Za (GL.nil (GC.seq (Zo (Zm (Zv (OV.eqlNil (p := p_l) rfl rfl rfl) (GL.nil (Yd h (fun u1 h => ?_) fun u1 h => ?_)))))))))
 refine Zo (Za (GL.nil ?_))
 exact Y1 I3 ⟨Sl.nil, rfl, h⟩
 refine GC.skip (Zo (Za (GL.nil (GC.seq (Zo (Zm ?_))))))
 obtain ⟨p2, hp3, h⟩ := h
 refine Zv (OV.nilCheck (q := p_l) rfl hp3) (Zf (Yl h fun x4 h => ?_))
 refine GL.rangeQ (ke := sv) (enc := (fun x : Option Nat => (mv x : Value))) (q := x4) h trivial rfl rfl rfl (kText rfl) ?_
 intro b6 H7 h
 refine GL.nil (GC.block (Yp h (fun x8 => [(3, slv x8), (11, pv (some (b6, 0)))]) ?_))
 intro x8 H10 J9 h
 refine Zo (GL.nextB (ke := sv) (enc := (fun x : Option Nat => (mv x : Value))) (it := b6) h trivial rfl rfl rfl rfl rfl ?_)
 intro b11 H12 h
 refine GL.nil (GC.seq (Yd h (fun u13 h => ?_) fun u13 h => ?_))
 refine GC.skip (GC.block (Zo ?_))
 obtain ⟨k14, x15, v16, h⟩ := h
 refine Zv (OV.entryM (ke := sv) (enc := (fun x : Option Nat => (mv x : Value))) (it := b6) (k := k14) (x := x15) (v := .tuple #[sv k14, mv x15]) rfl v16 rfl) (Yv (sv k14) rfl rfl (Za (GL.nil (GC.region (Zm (Zm (GL.appendLit (s := x8) (ys := [sv k14]) (zc := [sv []]) (bytes := 16) h trivial rfl (fun _ => trivial) rfl (fun _ => rfl) (fun _ => rfl) (vs := [(0, sv k14)]) rfl ⟨9, fun _ => by kernel_rfl⟩ ⟨⟨_, _, _, rfl, rfl, rfl, rfl, rfl, rfl⟩⟩ rfl rfl ?_)))))))
 intro _ r17 H18 h
 refine Za ?_
 exact Yj I3 r17 h
 refine GC.exit_to (fun _ _ h => h) (Zo (Zm (Zc h QbQ ?_)))
 rintro _ H19 ⟨rfl, h⟩
 refine GL.nil (Zo (Zm (Za (GL.nil ?_))))
 exact Y1 I3 ⟨x8, rfl, h⟩
def Qdo (C : Ctx) (p_v : Qa) (p_most : Int) (K : Int → Heap → Prop) (H : Heap) : Prop :=
 nw (Qa.c p_v) (fun b1 H2 =>
 ldS H2 ((b1, 0).1, (b1, 0).2 + 2) fun x3 =>
 lp (α := Int × Int) ((w .i64 (1 + (w .i64 (Int.tdiv (List.length x3 : Int) 50)))), 0) H2 (fun x5 J6 H7 =>
 ldL H7 ((b1, 0).1, (b1, 0).2 + 3) fun x8 =>
 ift ((decide ((x5.2 : Int) < (Sl.len x8 : Int))) && (decide ((x5.1 : Int) < p_most)))
 (ldL H7 ((b1, 0).1, (b1, 0).2 + 3) fun x12 =>
 ixa x12 x5.2 fun p14 =>
 ldT H7 Qa.c (p14.1, p14.2 + (x5.2 : Int).toNat * 4) fun x19 =>
 QN C x19 (w .i64 (p_most - x5.1)) (fun r21 H22 =>
 J6 ((w .i64 (x5.1 + r21)), (w .i64 (x5.2 + 1))) H22) H7)
 (K x5.1 H7))) H
theorem Qfe (C p_v p_most K H) (h : Qdo C p_v p_most K H) : QN C p_v p_most K H := by
 refine Ye Tryz.func28 rfl Tryz.ntmps28 [(0, .agg (Qa.c p_v).toArray), (1, .int .i64 p_most)] (Zo (GL.box (v := .agg (Qa.c p_v).toArray) (cs := Qa.c p_v) h trivial rfl rfl rfl ?_))
 intro b1 H2 h
 refine Za (GL.nil (Zo (Zf (Yl h fun x3 h => ?_))))
 refine Zr (Zv (OV.quo rfl rfl (by decide)) (Zi (.int .i64 (w .i64 (1 + (w .i64 (Int.tdiv (List.length x3 : Int) 50))))) (Za (GL.nil (GC.seq (Zo (Za (GL.nil (GC.block (Yp h (fun x5 => [(5, .int .i64 x5.1), (6, .int .i64 x5.2), (1, .int .i64 p_most), (2, pv (some (b1, 0)))]) ?_))))))))))
 intro x5 H7 J6 h
 refine GC.seq (Zo (Zm (Zf (Yl h fun x8 h => ?_))))
 refine Zq (Zi (.bool (decide ((x5.2 : Int) < (Sl.len x8 : Int)))) (Zm (GL.cut0 4 [(21, .bool ((decide ((x5.2 : Int) < (Sl.len x8 : Int))) && (decide ((x5.1 : Int) < p_most)))), (1, .int .i64 p_most), (2, pv (some (b1, 0))), (5, .int .i64 x5.1), (6, .int .i64 x5.2)] ?_ ?_)))
 rcases Zb (decide ((x5.2 : Int) < (Sl.len x8 : Int))) with u10 | u10
 refine Zu u10 Ym (Zu u10 Ym (Zu u10 (OV.ibin (v := .bool (decide ((x5.1 : Int) < p_most))) rfl rfl rfl) (Zt u10 ?_)))
 exact GL.jump0 (fun _ _ h => h) () rfl ⟨(by rw [u10]; rfl), rfl, rfl, rfl, rfl, trivial⟩
 refine Zk u10 (Zk u10 (Zk u10 (Zn u10 ?_)))
 exact GL.jump0 (fun _ _ h => h) () rfl ⟨(by rw [u10]; rfl), rfl, rfl, rfl, rfl, trivial⟩
 refine GL.nil (Yd h (fun u11 h => ?_) fun u11 h => ?_)
 refine GC.skip (GC.seq (GC.block (GC.region (Zm (Zf (Yl h fun x12 h => ?_))))))
 refine Zm (Yx h fun p14 h => ?_)
 obtain ⟨x19, v20, h⟩ := h
 refine Zv (OV.loadT rfl rfl rfl v20) (Zm (Zm (Zi (.int .i64 (w .i64 (p_most - x5.1))) (Zc h Qdi ?_))))
 rintro _ H22 ⟨r21, rfl, h⟩
 refine Zi (.int .i64 (w .i64 (x5.1 + r21))) (Za (GL.nil_to (fun _ _ h => h) (GC.region (Zm (Zi (.int .i64 (w .i64 (x5.2 + 1))) (Za ?_))))))
 exact Yj I3 ((w .i64 (x5.1 + r21)), (w .i64 (x5.2 + 1))) h
 refine GC.exit_to (fun _ _ h => h) (Zo (Zm (Za (GL.nil ?_))))
 exact Y1 I3 ⟨x5.1, rfl, h⟩
def QeX (C : Ctx) (p_rel : Str) (p_n : Int) (K : Qc → Heap → Prop) (H : Heap) : Prop :=
 nw (Qc.c Qc.zero) (fun b1 H2 =>
 nw ((Qa.c (⟨2, p_n, [], Sl.nil⟩ : Qa)) ++ []) (fun b3 H4 =>
 stT (b1, 0) (Qc.c (⟨p_rel, (Sl.of (some (b3, 0)) 1 1)⟩ : Qc)) (fun H5 =>
 ldT H5 Qc.c (b1, 0) fun x6 =>
 K x6 H5) H4) H2) H
theorem QgT (C p_rel p_n K H) (h : QeX C p_rel p_n K H) : QL C p_rel p_n K H := by
 refine Ye Tryz.func29 rfl Tryz.ntmps29 [(0, sv p_rel), (1, .int .i64 p_n)] (Zo (GL.alloc (cs := Qc.c Qc.zero) h trivial rfl rfl rfl ?_))
 intro b1 H2 h
 refine GL.nil (Zo (Zm (Zm (Zv (OV.build (vs := [(0, .int .u8 2), (1, .int .i64 p_n)]) (v := .agg (Qa.c (⟨2, p_n, [], Sl.nil⟩ : Qa)).toArray) rfl (fun _ => by kernel_rfl)) (GL.buildSlice (cs := (Qa.c (⟨2, p_n, [], Sl.nil⟩ : Qa)) ++ []) h trivial rfl (vs := [(0, .agg (Qa.c (⟨2, p_n, [], Sl.nil⟩ : Qa)).toArray)]) rfl ⟨56, fun _ => by kernel_rfl⟩ ?_)))))
 intro b3 H4 h
 refine Zv (OV.build (vs := [(0, sv p_rel), (1, slv (Sl.of (some (b3, 0)) 1 1))]) (v := .agg (Qc.c (⟨p_rel, (Sl.of (some (b3, 0)) 1 1)⟩ : Qc)).toArray) rfl (fun _ => by kernel_rfl)) (GL.storeT (p := (b1, 0)) (vs := Qc.c (⟨p_rel, (Sl.of (some (b3, 0)) 1 1)⟩ : Qc)) h trivial rfl rfl rfl rfl ?_)
 intro H5 h
 refine GL.nil ?_
 obtain ⟨x6, v7, h⟩ := h
 exact GC.ret (fun _ _ hf hs => QiJ rfl (RV.cellT (p := (b1, 0)) (cs := Qc.c x6) rfl rfl rfl v7) hf hs ⟨x6, rfl, h⟩)
def QbH (C : Ctx) (p_a : Sl) (p_b : Sl) (K : Bool → Heap → Prop) (H : Heap) : Prop :=
 ift (((Sl.len p_a : Int) : Int) != (Sl.len p_b : Int))
 (K false H)
 (lp (α := Int) 0 H (fun x2 J3 H4 =>
 ift (decide ((x2 : Int) < (Sl.len p_a : Int)))
 (jn (α := Bool) (fun x7 H8 =>
 ift x7
 (K false H8)
 (J3 (w .i64 (x2 + 1)) H8))
 (fun J6 => dr H4 fun Hs10 =>
 ixa p_a x2 fun p12 =>
 ldI Hs10 .i64 ((p12.1, p12.2 + (x2 : Int).toNat * 3).1, (p12.1, p12.2 + (x2 : Int).toNat * 3).2 + 2) fun x17 =>
 ixa p_b x2 fun p19 =>
 ldI Hs10 .i64 ((p19.1, p19.2 + (x2 : Int).toNat * 3).1, (p19.1, p19.2 + (x2 : Int).toNat * 3).2 + 2) fun x24 =>
 ift ((x17 : Int) != x24)
 (J6 true H4)
 (ixa p_a x2 fun p27 =>
 ldS Hs10 (((p27.1, p27.2 + (x2 : Int).toNat * 3).1, (p27.1, p27.2 + (x2 : Int).toNat * 3).2 + 0).1, ((p27.1, p27.2 + (x2 : Int).toNat * 3).1, (p27.1, p27.2 + (x2 : Int).toNat * 3).2 + 0).2 + 0) fun x32 =>
 ixa p_b x2 fun p34 =>
 ldS Hs10 (((p34.1, p34.2 + (x2 : Int).toNat * 3).1, (p34.1, p34.2 + (x2 : Int).toNat * 3).2 + 0).1, ((p34.1, p34.2 + (x2 : Int).toNat * 3).1, (p34.1, p34.2 + (x2 : Int).toNat * 3).2 + 0).2 + 0) fun x39 =>
 ift (!(x32 == x39))
 (J6 true H4)
 (ixa p_a x2 fun p42 =>
 ldL Hs10 (((p42.1, p42.2 + (x2 : Int).toNat * 3).1, (p42.1, p42.2 + (x2 : Int).toNat * 3).2 + 0).1, ((p42.1, p42.2 + (x2 : Int).toNat * 3).1, (p42.1, p42.2 + (x2 : Int).toNat * 3).2 + 0).2 + 1) fun x47 =>
 ixa p_b x2 fun p49 =>
 ldL Hs10 (((p49.1, p49.2 + (x2 : Int).toNat * 3).1, (p49.1, p49.2 + (x2 : Int).toNat * 3).2 + 0).1, ((p49.1, p49.2 + (x2 : Int).toNat * 3).1, (p49.1, p49.2 + (x2 : Int).toNat * 3).2 + 0).2 + 1) fun x54 =>
 Qaa C x47 x54 (fun r57 H58 =>
 Heap.le Hs10 H58 ∧
 J6 (!r57) H58) H4))))
 (K true H4)))
theorem QdG (C p_a p_b K H) (h : QbH C p_a p_b K H) : Qae C p_a p_b K H := by
 refine Ye Tryz.func30 rfl Tryz.ntmps30 [(0, slv p_a), (1, slv p_b)] (Zo (Za (GL.nil (GC.seq (Zo (Zm (Zq (Zm (Zq (Zi (.bool (((Sl.len p_a : Int) : Int) != (Sl.len p_b : Int))) (GL.nil (Yd h (fun u1 h => ?_) fun u1 h => ?_))))))))))))
 refine Zo (Za (GL.nil ?_))
 exact Y1 I3 ⟨false, rfl, h⟩
 refine GC.skip (GC.seq (Zo (Za (GL.nil (GC.block (Yp h (fun x2 => [(5, .int .i64 x2), (0, slv p_a), (1, slv p_b)]) ?_))))))
 intro x2 H4 J3 h
 refine GC.seq (Zo (Zm (Zm (Zq (Zi (.bool (decide ((x2 : Int) < (Sl.len p_a : Int)))) (GL.nil (Yd h (fun u5 h => ?_) fun u5 h => ?_)))))))
 refine GC.skip (GC.seq (GC.block (GC.seq ?_)))
 obtain ⟨J6, h, hR9⟩ := h
 refine GC.meet (α := Bool) J6 (fun x7 => [(58, .bool x7), (0, slv p_a), (1, slv p_b), (5, .int .i64 x2)]) ?_ ?_
 obtain ⟨Hs10, hle11, h⟩ := h
 refine GC.any (Hs := Hs10) (by kernel_rfl) hle11 (Zp 0 rfl Ym (Zp 1 rfl Ym ?_))
 obtain ⟨p12, ha13, hb14, u15, hd16, h⟩ := h
 refine Zp 2 rfl (OV.indexAddr rfl rfl rfl rfl ha13 hb14 u15 hd16) (Zp 3 rfl Yf ?_)
 obtain ⟨x17, v18, h⟩ := h
 refine Zp 4 rfl (Yo v18) (Zp 5 rfl Ym (Zp 6 rfl Ym ?_))
 obtain ⟨p19, ha20, hb21, u22, hd23, h⟩ := h
 refine Zp 7 rfl (OV.indexAddr rfl rfl rfl rfl ha20 hb21 u22 hd23) (Zp 8 rfl Yf ?_)
 obtain ⟨x24, v25, h⟩ := h
 refine Zp 9 rfl (Yo v25) (Zp 10 rfl (OV.ibin (v := .bool ((x17 : Int) != x24)) rfl rfl rfl) (Zp 11 rfl Ym ?_))
 rcases h.em with ⟨u26, h⟩ | ⟨u26, h⟩
 refine Zj 12 rfl (Yw u26) (Zj 13 rfl (Yw u26) (Zj 14 rfl (Yw u26) (Zj 15 rfl (Yw u26) (Zj 16 rfl (Yw u26) (Zj 17 rfl (Yw u26) (Zj 18 rfl (Yw u26) (Zj 19 rfl (Yw u26) (Zj 20 rfl (Yw u26) (Zj 21 rfl (Yw u26) (Zj 22 rfl (Yw u26) (Zj 23 rfl (Yw u26) (Zj 24 rfl (Yw u26) (Zp 25 rfl (OV.pickT rfl u26 rfl) (Zp 26 rfl Ym (Zj 27 rfl (Yw rfl) (Zj 28 rfl (Yw rfl) (Zj 29 rfl (Yw rfl) (Zj 30 rfl (Yw rfl) (Zj 31 rfl (Yw rfl) (Zj 32 rfl (Yw rfl) (Zj 33 rfl (Yw rfl) (Zj 34 rfl (Yw rfl) (Zj 35 rfl (Yw rfl) (Zj 36 rfl (Yw rfl) (Zj 37 rfl (Yw rfl) (Zj 38 rfl (Yw rfl) (Zj 39 rfl (Yw rfl) (Zj 40 rfl (Yw rfl) (Zp 41 rfl (OV.pickT rfl rfl rfl) (GA.done (by kernel_rfl) ?_))))))))))))))))))))))))))))))
 exact Yj I3 true h
 refine Zg 12 rfl (Yt u26) Ym (Zg 13 rfl (Yt u26) Ym ?_)
 obtain ⟨p27, ha28, hb29, u30, hd31, h⟩ := h
 refine Zg 14 rfl (Yt u26) (OV.indexAddr rfl rfl rfl rfl ha28 hb29 u30 hd31) (Zg 15 rfl (Yt u26) Yf (Zg 16 rfl (Yt u26) Yf ?_))
 obtain ⟨x32, v33, h⟩ := h
 refine Zg 17 rfl (Yt u26) (Yo v33) (Zg 18 rfl (Yt u26) Ym (Zg 19 rfl (Yt u26) Ym ?_))
 obtain ⟨p34, ha35, hb36, u37, hd38, h⟩ := h
 refine Zg 20 rfl (Yt u26) (OV.indexAddr rfl rfl rfl rfl ha35 hb36 u37 hd38) (Zg 21 rfl (Yt u26) Yf (Zg 22 rfl (Yt u26) Yf ?_))
 obtain ⟨x39, v40, h⟩ := h
 refine Zg 23 rfl (Yt u26) (Yo v40) (Zg 24 rfl (Yt u26) (OV.sbin (a := x32) (b := x39) (v := .bool (!(x32 == x39))) rfl rfl rfl) (Zp 25 rfl (OV.pickF rfl u26 rfl) (Zp 26 rfl Ym ?_)))
 rcases h.em with ⟨u41, h⟩ | ⟨u41, h⟩
 refine Zj 27 rfl (Yw u41) (Zj 28 rfl (Yw u41) (Zj 29 rfl (Yw u41) (Zj 30 rfl (Yw u41) (Zj 31 rfl (Yw u41) (Zj 32 rfl (Yw u41) (Zj 33 rfl (Yw u41) (Zj 34 rfl (Yw u41) (Zj 35 rfl (Yw u41) (Zj 36 rfl (Yw u41) (Zj 37 rfl (Yw u41) (Zj 38 rfl (Yw u41) (Zj 39 rfl (Yw u41) (Zj 40 rfl (Yw u41) (Zp 41 rfl (OV.pickT rfl u41 rfl) (GA.done (by kernel_rfl) ?_)))))))))))))))
 exact Yj I3 true h
 refine Zg 27 rfl (Yt u41) Ym (Zg 28 rfl (Yt u41) Ym ?_)
 obtain ⟨p42, ha43, hb44, u45, hd46, h⟩ := h
 refine Zg 29 rfl (Yt u41) (OV.indexAddr rfl rfl rfl rfl ha43 hb44 u45 hd46) (Zg 30 rfl (Yt u41) Yf (Zg 31 rfl (Yt u41) Yf ?_))
 obtain ⟨x47, v48, h⟩ := h
 refine Zg 32 rfl (Yt u41) (Yo v48) (Zg 33 rfl (Yt u41) Ym (Zg 34 rfl (Yt u41) Ym ?_))
 obtain ⟨p49, ha50, hb51, u52, hd53, h⟩ := h
 refine Zg 35 rfl (Yt u41) (OV.indexAddr rfl rfl rfl rfl ha50 hb51 u52 hd53) (Zg 36 rfl (Yt u41) Yf (Zg 37 rfl (Yt u41) Yf ?_))
 obtain ⟨x54, v55, h⟩ := h
 refine Zg 38 rfl (Yt u41) (Yo v55) (GA.eff 39 rfl (by kernel_rfl) (GL.call h (Yt u41) rfl QbC (vs := [slv x47, slv x54]) rfl ?_))
 rintro _ H58 ⟨r57, rfl, h⟩
 obtain ⟨hle56, h⟩ := h
 refine GA.back hle56 (Zg 40 rfl (Yt u41) (OV.not rfl) (Zp 41 rfl (OV.pickF rfl u41 rfl) (GA.done (by kernel_rfl) ?_)))
 exact Yj I3 (!r57) h
 intro x7 H8 h
 replace h := hR9 x7 H8 h
 refine GL.nil (Yd h (fun u59 h => ?_) fun u59 h => ?_)
 refine Zo (Za (GL.nil ?_))
 exact Y1 I3 ⟨false, rfl, h⟩
 refine GC.skip_to (fun _ _ h => h) (GC.region (Zm (Zi (.int .i64 (w .i64 (x2 + 1))) (Za ?_))))
 exact Yj I3 (w .i64 (x2 + 1)) h
 refine GC.exit_to (fun _ _ h => h) (Zo (Za (GL.nil ?_)))
 exact Y1 I3 ⟨true, rfl, h⟩
def QcJ (C : Ctx) (p_l : Option (Nat × Nat)) (p_mark : Int) (K : Int → Heap → Prop) (H : Heap) : Prop :=
 ift (Option.isNone p_l)
 (K 2 H)
 (jn (α := Bool) (fun b2 H10 =>
 ift b2
 (K 1 H10)
 (K 0 H10))
 (fun J3 => ift (decide ((p_mark : Int) < 0))
 (J3 true H)
 (nck p_l fun p6 =>
 ldL H (p6.1, p6.2 + 1) fun x8 =>
 J3 (decide ((p_mark : Int) > (Sl.len x8 : Int))) H)))
theorem QeF (C p_l p_mark K H) (h : QcJ C p_l p_mark K H) : Qa1 C p_l p_mark K H := by
 refine Ye Tryz.func31 rfl Tryz.ntmps31 [(0, pv p_l), (1, .int .i64 p_mark)] (Zo (Za (GL.nil (GC.seq (GC.block (Zo (Zm (Zv (OV.eqlNil (p := p_l) rfl rfl rfl) (Za (GL.nil (Yd h (fun u1 h => ?_) fun u1 h => ?_)))))))))))
 refine Zo (Za (GL.nil ?_))
 exact Y1 I3 ⟨2, rfl, h⟩
 refine Zo (Zm (Zi (.bool (decide ((p_mark : Int) < 0))) (Zm ?_)))
 obtain ⟨J3, h, hR4⟩ := h
 refine GL.cut (α := Bool) 8 J3 (fun b2 => [(19, .bool b2)]) ?_ ?_
 rcases h.em with ⟨u5, h⟩ | ⟨u5, h⟩
 refine Zk u5 (Zk u5 (Zk u5 (Zk u5 (Zk u5 (Zk u5 (Zk u5 (Zt u5 ?_)))))))
 exact Yj I3 true h
 refine Zu u5 Ym (Zu u5 Ym ?_)
 obtain ⟨p6, hp7, h⟩ := h
 refine Zu u5 (OV.nilCheck (q := p_l) rfl hp7) (Zu u5 Yf ?_)
 obtain ⟨x8, v9, h⟩ := h
 refine Zu u5 (Yo v9) (Zu u5 (OV.lenSl rfl rfl) (Zu u5 (OV.ibin (v := .bool (decide ((p_mark : Int) > (Sl.len x8 : Int)))) rfl rfl rfl) (Zn u5 ?_)))
 exact Yj I3 (decide ((p_mark : Int) > (Sl.len x8 : Int))) h
 intro b2 H10 h
 replace h := hR4 b2 H10 h
 refine Za (GL.nil (Yd h (fun u11 h => ?_) fun u11 h => ?_))
 refine Zo (Za (GL.nil ?_))
 exact Y1 I3 ⟨1, rfl, h⟩
 refine GC.skip_to (fun _ _ h => h) (Zo (Za (GL.nil ?_)))
 exact Y1 I3 ⟨0, rfl, h⟩
def QfL (C : Ctx) (p_l : Sl) (K : Sl → Heap → Prop) (H : Heap) : Prop :=
 ift (((Sl.len p_l : Int) : Int) == 0)
 (K Sl.nil H)
 (QC C p_l (fun r2 H3 =>
 lp (α := Int) 0 H3 (fun x4 J5 H6 =>
 ift (decide ((x4 : Int) < (Sl.len r2 : Int)))
 (ixa r2 x4 fun p8 =>
 ldL H6 ((p8.1, p8.2 + (x4 : Int).toNat * 4).1, (p8.1, p8.2 + (x4 : Int).toNat * 4).2 + 3) fun x13 =>
 Qar C x13 (fun r15 H16 =>
 ixa r2 x4 fun p17 =>
 st ((p17.1, p17.2 + (x4 : Int).toNat * 4).1, (p17.1, p17.2 + (x4 : Int).toNat * 4).2 + 3) (slv r15) (fun H22 =>
 J5 (w .i64 (x4 + 1)) H22) H16) H6)
 (K r2 H6))) H)
theorem Qhp (C p_l K H) (h : QfL C p_l K H) : Qar C p_l K H := by
 refine Ye Tryz.func32 rfl Tryz.ntmps32 [(0, slv p_l)] (Zo (Za (GL.nil (GC.seq (Zo (Zm (Zq (Zi (.bool (((Sl.len p_l : Int) : Int) == 0)) (GL.nil (Yd h (fun u1 h => ?_) fun u1 h => ?_))))))))))
 refine Zo (Za (GL.nil ?_))
 exact Y1 I3 ⟨Sl.nil, rfl, h⟩
 refine GC.skip (Zo (Zm (Zc h Qa5 ?_)))
 rintro _ H3 ⟨r2, rfl, h⟩
 refine Za (GL.nil (GC.seq (Zo (Zm (Zq (Zm (GL.nil (GC.block (Yp h (fun x4 => [(11, .int .i64 x4), (0, slv r2), (10, .int .i64 (Sl.len r2 : Int))]) ?_)))))))))
 intro x4 H6 J5 h
 refine Zo (Zi (.bool (decide ((x4 : Int) < (Sl.len r2 : Int)))) (GL.nil (GC.seq (Yd h (fun u7 h => ?_) fun u7 h => ?_))))
 refine GC.skip (GC.seq (GC.block (Zo (Zm (Za (GL.nil (GC.region (Zm (Zm (Zm (Zm (Yx h fun p8 h => ?_))))))))))))
 refine Zf (Yl h fun x13 h => ?_)
 refine Zc h Qb1 ?_
 rintro _ H16 ⟨r15, rfl, h⟩
 refine Yx h fun p17 h => ?_
 refine Zf (GL.store (p := ((p17.1, p17.2 + (x4 : Int).toNat * 4).1, (p17.1, p17.2 + (x4 : Int).toNat * 4).2 + 3)) (v := slv r15) h trivial rfl rfl rfl rfl ?_)
 intro H22 h
 refine GL.nil_to (fun _ _ h => h) (GC.region (Zi (.int .i64 (w .i64 (x4 + 1))) (Zm ?_)))
 exact Yj I3 (w .i64 (x4 + 1)) h
 refine GC.exit_to (fun _ _ h => h) (Zo (Zm (Za (GL.nil ?_))))
 exact Y1 I3 ⟨r2, rfl, h⟩
def Qb5 (C : Ctx) (p_a : Qb) (p_b : Qb) (K : Int → Heap → Prop) (H : Heap) : Prop :=
 nw (Qb.c p_a) (fun b1 H2 =>
 nw (Qb.c p_b) (fun b3 H4 =>
 dr H4 fun Hs5 =>
 ldS Hs5 (((b1, 0).1, (b1, 0).2 + 0).1, ((b1, 0).1, (b1, 0).2 + 0).2 + 0) fun x7 =>
 ldS Hs5 (((b3, 0).1, (b3, 0).2 + 0).1, ((b3, 0).1, (b3, 0).2 + 0).2 + 0) fun x9 =>
 ldL Hs5 (((b1, 0).1, (b1, 0).2 + 0).1, ((b1, 0).1, (b1, 0).2 + 0).2 + 1) fun x11 =>
 ldL Hs5 (((b3, 0).1, (b3, 0).2 + 0).1, ((b3, 0).1, (b3, 0).2 + 0).2 + 1) fun x13 =>
 Qw C x7 x9 (fun r16 H17 =>
 Heap.le Hs5 H17 ∧
 Qbj C x11 x13 (fun r19 H20 =>
 Heap.le Hs5 H20 ∧
 nw ([.int .i64 r16, .int .i64 r19]) (fun b22 H23 =>
 Heap.le Hs5 H23 ∧
 Qa7 C (Sl.of (some (b22, 0)) 2 2) (fun r25 H26 =>
 Heap.le Hs5 H26 ∧
 K r25 H26) H23) H20) H17) H4) H2) H
theorem Qd1 (C p_a p_b K H) (h : Qb5 C p_a p_b K H) : Qbi C p_a p_b K H := by
 refine Ye Tryz.func34 rfl Tryz.ntmps34 [(0, .agg (Qb.c p_a).toArray), (1, .agg (Qb.c p_b).toArray)] (Zo (GL.box (v := .agg (Qb.c p_a).toArray) (cs := Qb.c p_a) h trivial rfl rfl rfl ?_))
 intro b1 H2 h
 refine GL.box (v := .agg (Qb.c p_b).toArray) (cs := Qb.c p_b) h trivial rfl rfl rfl ?_
 intro b3 H4 h
 refine Za (GL.nil (GC.seq ?_))
 obtain ⟨Hs5, hle6, h⟩ := h
 refine GC.any (Hs := Hs5) (by kernel_rfl) hle6 (Zp 0 rfl Yf (Zp 1 rfl Yf ?_))
 obtain ⟨x7, v8, h⟩ := h
 refine Zp 2 rfl (Yo v8) (Zp 3 rfl Yf (Zp 4 rfl Yf ?_))
 obtain ⟨x9, v10, h⟩ := h
 refine Zp 5 rfl (Yo v10) (Zp 7 rfl Yf (Zp 8 rfl Yf ?_))
 obtain ⟨x11, v12, h⟩ := h
 refine Zp 9 rfl (Yo v12) (Zp 10 rfl Yf (Zp 11 rfl Yf ?_))
 obtain ⟨x13, v14, h⟩ := h
 refine Zp 12 rfl (Yo v14) (GA.eff 6 rfl (by kernel_rfl) (Zc h Q4 ?_))
 rintro _ H17 ⟨r16, rfl, h⟩
 obtain ⟨hle15, h⟩ := h
 refine GA.back hle15 (GA.eff 13 rfl (by kernel_rfl) (Zc h Qc6 ?_))
 rintro _ H20 ⟨r19, rfl, h⟩
 obtain ⟨hle18, h⟩ := h
 refine GA.back hle18 (GA.eff 14 rfl (by kernel_rfl) (GL.buildSlice (cs := [.int .i64 r16, .int .i64 r19]) h trivial rfl (vs := [(0, .int .i64 r16), (1, .int .i64 r19)]) rfl ⟨3, fun _ => by kernel_rfl⟩ ?_))
 intro b22 H23 h
 obtain ⟨hle21, h⟩ := h
 refine GA.back hle21 (GA.eff 15 rfl (by kernel_rfl) (Zc h QcU ?_))
 rintro _ H26 ⟨r25, rfl, h⟩
 obtain ⟨hle24, h⟩ := h
 refine GA.back hle24 (Zp 16 rfl Ya (GA.done (by kernel_rfl) (GL.nil ?_)))
 exact Y1 I3 ⟨r25, rfl, h⟩
def QcY (C : Ctx) (p_vals : Sl) (K : Int → Heap → Prop) (H : Heap) : Prop :=
 lp (α := Int) 0 H (fun x1 J2 H3 =>
 ift (decide ((x1 : Int) < (Sl.len p_vals : Int)))
 (ixa p_vals x1 fun p5 =>
 ldI H3 .i64 (p5.1, p5.2 + (x1 : Int).toNat * 1) fun x10 =>
 ift ((x10 : Int) != 0)
 (K x10 H3)
 (J2 (w .i64 (x1 + 1)) H3))
 (K 0 H3))
theorem Qeb (C p_vals K H) (h : QcY C p_vals K H) : Qa7 C p_vals K H := by
 refine Ye Tryz.func35 rfl Tryz.ntmps35 [(0, slv p_vals)] (Zo (Za (GL.nil (Zo (Za (GL.nil (GC.seq (Zo (Zm (Zq (Zm (GL.nil (GC.block (Yp h (fun x1 => [(8, .int .i64 x1), (3, .int .i64 0), (6, slv p_vals), (7, .int .i64 (Sl.len p_vals : Int))]) ?_))))))))))))))
 intro x1 H3 J2 h
 refine Zo (Zi (.bool (decide ((x1 : Int) < (Sl.len p_vals : Int)))) (GL.nil (GC.seq (Yd h (fun u4 h => ?_) fun u4 h => ?_))))
 refine GC.skip (GC.seq (GC.block (Zo (Yx h fun p5 h => ?_))))
 refine Yl h fun x10 h => ?_
 refine Za (GL.nil (Zo (Zm (Zm (Zi (.bool ((x10 : Int) != 0)) (GL.nil (Yd h (fun u12 h => ?_) fun u12 h => ?_)))))))
 refine Zo (Zm (Za (GL.nil ?_)))
 exact Y1 I3 ⟨x10, rfl, h⟩
 refine GC.skip_to (fun _ _ h => h) (GC.region (Zi (.int .i64 (w .i64 (x1 + 1))) (Zm ?_)))
 exact Yj I3 (w .i64 (x1 + 1)) h
 refine GC.exit_to (fun _ _ h => h) (Zo (Zm (Za (GL.nil ?_))))
 exact Y1 I3 ⟨0, rfl, h⟩
def QaI (C : Ctx) (p_x : Str) (p_y : Str) (K : Int → Heap → Prop) (H : Heap) : Prop :=
 Q0 C p_x (fun r1 H2 =>
 Q0 C p_y (fun r3 H4 =>
 ift r1
 (ift r3
 (K 0 H4)
 (K (-1) H4))
 (ift r3
 (K 1 H4)
 (ift (slt p_x p_y)
 (K (-1) H4)
 (ift (!(slt p_x p_y || (p_x == p_y)))
 (K 1 H4)
 (K 0 H4))))) H2) H
theorem Qbo (C p_x p_y K H) (h : QaI C p_x p_y K H) : Qw C p_x p_y K H := by
 refine Ye Tryz.func36 rfl Tryz.ntmps36 [(0, sv p_x), (1, sv p_y)] (Zo (Za (GL.nil (Zo (Zm (Zc h QbW ?_))))))
 rintro _ H2 ⟨r1, rfl, h⟩
 refine Za (GL.nil (Zo (Zm (Zc h QbW ?_))))
 rintro _ H4 ⟨r3, rfl, h⟩
 refine Za (GL.nil (GC.seq (Zo (Zm (GL.nil (Yd h (fun u5 h => ?_) fun u5 h => ?_))))))
 refine GC.seq (Zo (Zm (GL.nil (Yd h (fun u6 h => ?_) fun u6 h => ?_))))
 refine Zo (Za (GL.nil ?_))
 exact Y1 I3 ⟨0, rfl, h⟩
 refine GC.skip (Zo (Za (GL.nil ?_)))
 exact Y1 I3 ⟨(-1), rfl, h⟩
 refine GC.skip (GC.seq (Zo (Zm (GL.nil (Yd h (fun u7 h => ?_) fun u7 h => ?_)))))
 refine Zo (Za (GL.nil ?_))
 exact Y1 I3 ⟨1, rfl, h⟩
 refine GC.skip (GC.seq (Zo (Zm (Zm (Zv (OV.sbin (a := p_x) (b := p_y) (v := .bool (slt p_x p_y)) rfl rfl rfl) (GL.nil (Yd h (fun u8 h => ?_) fun u8 h => ?_)))))))
 refine Zo (Za (GL.nil ?_))
 exact Y1 I3 ⟨(-1), rfl, h⟩
 refine GC.skip (GC.seq (Zo (Zm (Zm (Zv (OV.sbin (a := p_x) (b := p_y) (v := .bool (!(slt p_x p_y || (p_x == p_y)))) rfl rfl rfl) (GL.nil (Yd h (fun u9 h => ?_) fun u9 h => ?_)))))))
 refine Zo (Za (GL.nil ?_))
 exact Y1 I3 ⟨1, rfl, h⟩
 refine GC.skip (Zo (Za (GL.nil ?_)))
 exact Y1 I3 ⟨0, rfl, h⟩
def Qdc (C : Ctx) (p_a : Sl) (p_b : Sl) (K : Int → Heap → Prop) (H : Heap) : Prop :=
 QcQ C p_a (fun r1 H2 =>
 QcQ C p_b (fun r3 H4 =>
 ift ((!r1) || (!r3))
 (Qdg C r1 r3 (fun r7 H8 =>
 K r7 H8) H4)
 (Qbs C p_a p_b (fun r9 H10 =>
 K r9 H10) H4)) H2) H
theorem Qe6 (C p_a p_b K H) (h : Qdc C p_a p_b K H) : Qbj C p_a p_b K H := by
 refine Ye Tryz.func37 rfl Tryz.ntmps37 [(0, slv p_a), (1, slv p_b)] (Zo (Za (GL.nil (GC.seq (Zo (Zm (Zc h QeU ?_)))))))
 rintro _ H2 ⟨r1, rfl, h⟩
 refine Zm (Zc h QeU ?_)
 rintro _ H4 ⟨r3, rfl, h⟩
 refine Za (Za (GL.nil (Zo (Zm (Zv (OV.not rfl) (Zm (GL.cut0 3 [(16, .bool ((!r1) || (!r3))), (0, slv p_a), (1, slv p_b), (5, .bool r1), (6, .bool r3)] ?_ ?_)))))))
 rcases Zb (!r1) with u5 | u5
 refine Zk u5 (Zk u5 (Zt u5 ?_))
 exact GL.jump0 (fun _ _ h => h) () rfl ⟨(by rw [u5]; rfl), rfl, rfl, rfl, rfl, trivial⟩
 refine Zu u5 Ym (Zu u5 (OV.not rfl) (Zn u5 ?_))
 exact GL.jump0 (fun _ _ h => h) () rfl ⟨(by rw [u5]; rfl), rfl, rfl, rfl, rfl, trivial⟩
 refine GL.nil (Yd h (fun u6 h => ?_) fun u6 h => ?_)
 refine Zo (Zm (Zm (Zc h QgE ?_)))
 rintro _ H8 ⟨r7, rfl, h⟩
 refine Za (GL.nil ?_)
 exact Y1 I3 ⟨r7, rfl, h⟩
 refine GC.skip (Zo (Zm (Zm (Zc h Qeo ?_))))
 rintro _ H10 ⟨r9, rfl, h⟩
 refine Za (GL.nil ?_)
 exact Y1 I3 ⟨r9, rfl, h⟩
def QfK (C : Ctx) (p_l : Sl) (K : Str → Bool → Heap → Prop) (H : Heap) : Prop :=
 lp (α := Str × Int) ([], 0) H (fun x1 J2 H3 =>
 ift (decide ((x1.2 : Int) < (Sl.len p_l : Int)))
 (ixa p_l x1.2 fun p5 =>
 ldT H3 Qa.c (p5.1, p5.2 + (x1.2 : Int).toNat * 4) fun x10 =>
 nw (Qa.c Qa.zero) (fun b12 H13 =>
 stT (b12, 0) (Qa.c x10) (fun H14 =>
 ldT H14 Qa.c (b12, 0) fun x15 =>
 QT C x15 (fun r17 H18 =>
 ift ((r17 : Int) != 0)
 (K [] false H18)
 (ldT H18 Qa.c (b12, 0) fun x20 =>
 Qa8 C x20 (fun r22 H23 =>
 catOk r22 ([59] : Str) ∧
 catOk x1.1 (r22 ++ ([59] : Str)) ∧
 J2 ((x1.1 ++ (r22 ++ ([59] : Str))), (w .i64 (x1.2 + 1))) H23) H18)) H14) H13) H3)
 (K x1.1 true H3))
theorem Qho (C p_l K H) (h : QfK C p_l K H) : Qcv C p_l K H := by
 refine Ye Tryz.func38 rfl Tryz.ntmps38 [(0, slv p_l)] (Zo (Za (Za (GL.nil (Zo (Za (GL.nil (GC.seq (Zo (Zm (Zq (Zm (GL.nil (GC.block (Yp h (fun x1 => [(4, sv x1.1), (9, .int .i64 x1.2), (7, slv p_l), (8, .int .i64 (Sl.len p_l : Int))]) ?_)))))))))))))))
 intro x1 H3 J2 h
 refine Zo (Zi (.bool (decide ((x1.2 : Int) < (Sl.len p_l : Int)))) (GL.nil (GC.seq (Yd h (fun u4 h => ?_) fun u4 h => ?_))))
 refine GC.skip (GC.seq (GC.block (Zo (Yx h fun p5 h => ?_))))
 obtain ⟨x10, v11, h⟩ := h
 refine Zv (OV.loadT rfl rfl rfl v11) (GL.alloc (cs := Qa.c Qa.zero) h trivial rfl rfl rfl ?_)
 intro b12 H13 h
 refine GL.storeT (p := (b12, 0)) (vs := Qa.c x10) h trivial rfl rfl rfl rfl ?_
 intro H14 h
 refine GL.nil (GC.seq (Zo ?_))
 obtain ⟨x15, v16, h⟩ := h
 refine Zv (OV.loadT rfl rfl rfl v16) (Zc h Qcr ?_)
 rintro _ H18 ⟨r17, rfl, h⟩
 refine Zi (.bool ((r17 : Int) != 0)) (GL.nil (Yd h (fun u19 h => ?_) fun u19 h => ?_))
 refine Zo (Za (Za (GL.nil ?_)))
 exact Y2 I3 ⟨[], false, rfl, h⟩
 refine GC.skip (GC.region (Zm ?_))
 obtain ⟨x20, v21, h⟩ := h
 refine Zv (OV.loadT rfl rfl rfl v21) (Zc h QgD ?_)
 rintro _ H23 ⟨r22, rfl, h⟩
 obtain ⟨hl24, h⟩ := h
 refine Zv (OV.cat (a := r22) (b := ([59] : Str)) rfl rfl hl24) ?_
 obtain ⟨hl25, h⟩ := h
 refine Zv (OV.cat (a := x1.1) (b := (r22 ++ ([59] : Str))) rfl rfl hl25) (Za (GL.nil_to (fun _ _ h => h) (GC.region (Zi (.int .i64 (w .i64 (x1.2 + 1))) (Zm ?_)))))
 exact Yj I3 ((x1.1 ++ (r22 ++ ([59] : Str))), (w .i64 (x1.2 + 1))) h
 refine GC.exit_to (fun _ _ h => h) (Zo (Zm (Za (Za (GL.nil ?_)))))
 exact Y2 I3 ⟨x1.1, true, rfl, h⟩
def QdV (C : Ctx) (p_l : Option (Nat × Nat)) (p_rel : Str) (p_key : Str) (p_r : Sl) (K : Heap → Prop) (H : Heap) : Prop :=
 jn (α := Unit) (fun x2 H3 =>
 nck p_l fun p20 =>
 ldM H3 (p20.1, p20.2 + 0) fun x22 =>
 lkM sv (fun x : Option Nat => (mv x : Value)) none x22 p_rel (fun x24 is25 =>
 upS sv (fun x : Sl => (slv x : Value)) x24 p_key p_r (fun H27 =>
 K H27) H3) H3)
 (fun J1 => nck p_l fun p5 =>
 ldM H (p5.1, p5.2 + 0) fun x7 =>
 lkM sv (fun x : Option Nat => (mv x : Value)) none x7 p_rel (fun x9 is10 =>
 ift x9.isNone
 (nck p_l fun p13 =>
 ldM H (p13.1, p13.2 + 0) fun x15 =>
 mkM (fun b17 H18 =>
 upS sv (fun x : Option Nat => (mv x : Value)) x15 p_rel (some b17) (fun H19 =>
 J1 () H19) H18) H)
 (J1 () H)) H)
theorem QfW (C p_l p_rel p_key p_r K H) (h : QdV C p_l p_rel p_key p_r K H) : QbO C p_l p_rel p_key p_r K H := by
 refine Ye Tryz.func39 rfl Tryz.ntmps39 [(0, pv p_l), (1, sv p_rel), (2, sv p_key), (3, slv p_r)] ?_
 obtain ⟨J1, h, hR4⟩ := h
 refine GC.join (α := Unit) J1 (fun _ => [(0, pv p_l), (1, sv p_rel), (2, sv p_key), (3, slv p_r)]) ?_ ?_
 refine Zo (Zm ?_)
 obtain ⟨p5, hp6, h⟩ := h
 refine Zv (OV.nilCheck (q := p_l) rfl hp6) (Zf (Yl h fun x7 h => ?_))
 refine Zm ?_
 obtain ⟨x9, is10, v11, h⟩ := h
 refine Zv (OV.lookup1 (v := mv x9) (ke := sv) (enc := (fun x : Option Nat => (mv x : Value))) (z := none) (q := x7) (k := p_rel) (x := x9) (b := is10) rfl v11 rfl rfl rfl (kText rfl) rfl) (Zv (OV.eqlMap (q := x9) rfl rfl rfl) (GL.nil (Yd h (fun u12 h => ?_) fun u12 h => ?_)))
 refine GC.region (Zm ?_)
 obtain ⟨p13, hp14, h⟩ := h
 refine Zv (OV.nilCheck (q := p_l) rfl hp14) (Zf (Yl h fun x15 h => ?_))
 refine Zm (GL.makeMap h trivial rfl ?_)
 intro b17 H18 h
 refine GL.mapUpdateS (ke := sv) (enc := (fun x : Option Nat => (mv x : Value))) (q := x15) (k := p_rel) (x := (some b17)) h trivial rfl rfl rfl rfl (kText rfl) ?_
 intro H19 h
 exact Yj I3 () h
 exact Yk I3 () h
 intro x2 H3 h
 replace h := hR4 x2 H3 h
 refine GC.region (Zm ?_)
 obtain ⟨p20, hp21, h⟩ := h
 refine Zv (OV.nilCheck (q := p_l) rfl hp21) (Zf (Yl h fun x22 h => ?_))
 refine Zm ?_
 obtain ⟨x24, is25, v26, h⟩ := h
 refine Zv (OV.lookup1 (v := mv x24) (ke := sv) (enc := (fun x : Option Nat => (mv x : Value))) (z := none) (q := x22) (k := p_rel) (x := x24) (b := is25) rfl v26 rfl rfl rfl (kText rfl) rfl) (Zm (Zm (GL.mapUpdateS (ke := sv) (enc := (fun x : Sl => (slv x : Value))) (q := x24) (k := p_key) (x := p_r) h trivial rfl rfl rfl rfl (kText rfl) ?_)))
 intro H27 h
 exact GL.ends (fun _ _ hf hs => QB rfl hf hs ⟨rfl, h⟩)
def QcH (C : Ctx) (v0 : Nat × Nat) (v1 : Nat × Nat) (v2 : Nat × Nat) (K : Heap → Prop) (H : Heap) : Prop :=
 ldP H v0 fun x1 =>
 ldS H (v1.1, v1.2 + 0) fun x3 =>
 ldS H v2 fun x5 =>
 Qbn C x1 x3 x5 (fun H7 =>
 K H7) H
theorem QeD (C v0 v1 v2 K H) (h : QcH C v0 v1 v2 K H) : QbA C v0 v1 v2 K H := by
 refine Ye Tryz.func40 rfl Tryz.ntmps40 [(0, pv (some v0)), (1, pv (some v1)), (2, pv (some v2))] (GC.region (Yl h fun x1 h => ?_))
 refine Zf (Yl h fun x3 h => ?_)
 refine Yl h fun x5 h => ?_
 refine Zc h Qdm ?_
 rintro _ H7 ⟨rfl, h⟩
 exact GL.ends (fun _ _ hf hs => QB rfl hf hs ⟨rfl, h⟩)
def Qdt (C : Ctx) (p_l : Option (Nat × Nat)) (p_rel : Str) (p_key : Str) (K : Heap → Prop) (H : Heap) : Prop :=
 nck p_l fun p1 =>
 ldM H (p1.1, p1.2 + 0) fun x3 =>
 lkM sv (fun x : Option Nat => (mv x : Value)) none x3 p_rel (fun x5 is6 =>
 delS sv (fun x : Sl => (slv x : Value)) x5 p_key (fun H8 =>
 nck p_l fun p9 =>
 ldM H8 (p9.1, p9.2 + 0) fun x11 =>
 lkM sv (fun x : Option Nat => (mv x : Value)) none x11 p_rel (fun x13 is14 =>
 lnM x13 (fun m16 =>
 ift (((m16 : Int) : Int) == 0)
 (nck p_l fun p19 =>
 ldM H8 (p19.1, p19.2 + 0) fun x21 =>
 delS sv (fun x : Option Nat => (mv x : Value)) x21 p_rel (fun H23 =>
 K H23) H8)
 (K H8)) H8) H8) H) H
theorem Qfj (C p_l p_rel p_key K H) (h : Qdt C p_l p_rel p_key K H) : Qbn C p_l p_rel p_key K H := by
 refine Ye Tryz.func41 rfl Tryz.ntmps41 [(0, pv p_l), (1, sv p_rel), (2, sv p_key)] (Zo (Zm ?_))
 obtain ⟨p1, hp2, h⟩ := h
 refine Zv (OV.nilCheck (q := p_l) rfl hp2) (Zf (Yl h fun x3 h => ?_))
 refine Zm ?_
 obtain ⟨x5, is6, v7, h⟩ := h
 refine Zv (OV.lookup1 (v := mv x5) (ke := sv) (enc := (fun x : Option Nat => (mv x : Value))) (z := none) (q := x3) (k := p_rel) (x := x5) (b := is6) rfl v7 rfl rfl rfl (kText rfl) rfl) (Zm (GL.deleteM (ke := sv) (enc := (fun x : Sl => (slv x : Value))) (q := x5) (k := p_key) h trivial rfl rfl rfl (kText rfl) ?_))
 intro H8 h
 refine GL.nil (Zo (Zm ?_))
 obtain ⟨p9, hp10, h⟩ := h
 refine Zv (OV.nilCheck (q := p_l) rfl hp10) (Zf (Yl h fun x11 h => ?_))
 refine Zm ?_
 obtain ⟨x13, is14, v15, h⟩ := h
 refine Zv (OV.lookup1 (v := mv x13) (ke := sv) (enc := (fun x : Option Nat => (mv x : Value))) (z := none) (q := x11) (k := p_rel) (x := x13) (b := is14) rfl v15 rfl rfl rfl (kText rfl) rfl) ?_
 obtain ⟨m16, hm17, h⟩ := h
 refine Zv (OV.lenMap (q := x13) (m := m16) hm17 rfl rfl) (Zi (.bool (((m16 : Int) : Int) == 0)) (GL.nil (Yd h (fun u18 h => ?_) fun u18 h => ?_)))
 refine GC.region (Zm ?_)
 obtain ⟨p19, hp20, h⟩ := h
 refine Zv (OV.nilCheck (q := p_l) rfl hp20) (Zf (Yl h fun x21 h => ?_))
 refine Zm (GL.deleteM (ke := sv) (enc := (fun x : Option Nat => (mv x : Value))) (q := x21) (k := p_rel) h trivial rfl rfl rfl (kText rfl) ?_)
 intro H23 h
 exact GL.ends (fun _ _ hf hs => QB rfl hf hs ⟨rfl, h⟩)
 exact GC.ends (fun _ _ hf hs => QB rfl hf hs ⟨rfl, h⟩)
def QcF (C : Ctx) (v0 : Nat × Nat) (v1 : Nat × Nat) (v2 : Nat × Nat) (v3 : Nat × Nat) (K : Heap → Prop) (H : Heap) : Prop :=
 ldP H v0 fun x1 =>
 ldS H (v1.1, v1.2 + 0) fun x3 =>
 ldS H v2 fun x5 =>
 ldL H v3 fun x7 =>
 QbO C x1 x3 x5 x7 (fun H9 =>
 K H9) H
theorem QeB (C v0 v1 v2 v3 K H) (h : QcF C v0 v1 v2 v3 K H) : Qbz C v0 v1 v2 v3 K H := by
 refine Ye Tryz.func42 rfl Tryz.ntmps42 [(0, pv (some v0)), (1, pv (some v1)), (2, pv (some v2)), (3, pv (some v3))] (GC.region (Yl h fun x1 h => ?_))
 refine Zf (Yl h fun x3 h => ?_)
 refine Yl h fun x5 h => ?_
 refine Yl h fun x7 h => ?_
 refine Zc h QdO ?_
 rintro _ H9 ⟨rfl, h⟩
 exact GL.ends (fun _ _ hf hs => QB rfl hf hs ⟨rfl, h⟩)
def Qc8 (C : Ctx) (p_a : Sl) (p_b : Sl) (K : Bool → Heap → Prop) (H : Heap) : Prop :=
 ift (((Sl.len p_a : Int) : Int) != (Sl.len p_b : Int))
 (K false H)
 (lp (α := Int) 0 H (fun x2 J3 H4 =>
 ift (decide ((x2 : Int) < (Sl.len p_a : Int)))
 (dr H4 fun Hs6 =>
 ixa p_a x2 fun p8 =>
 ldT Hs6 Qa.c (p8.1, p8.2 + (x2 : Int).toNat * 4) fun x13 =>
 ixa p_b x2 fun p15 =>
 ldT Hs6 Qa.c (p15.1, p15.2 + (x2 : Int).toNat * 4) fun x20 =>
 Q2 C x13 x20 (fun r23 H24 =>
 Heap.le Hs6 H24 ∧
 ift (!r23)
 (K false H24)
 (J3 (w .i64 (x2 + 1)) H24)) H4)
 (K true H4)))
theorem Qe2 (C p_a p_b K H) (h : Qc8 C p_a p_b K H) : Qaa C p_a p_b K H := by
 refine Ye Tryz.func43 rfl Tryz.ntmps43 [(0, slv p_a), (1, slv p_b)] (Zo (Za (GL.nil (GC.seq (Zo (Zm (Zq (Zm (Zq (Zi (.bool (((Sl.len p_a : Int) : Int) != (Sl.len p_b : Int))) (GL.nil (Yd h (fun u1 h => ?_) fun u1 h => ?_))))))))))))
 refine Zo (Za (GL.nil ?_))
 exact Y1 I3 ⟨false, rfl, h⟩
 refine GC.skip (GC.seq (Zo (Za (GL.nil (GC.block (Yp h (fun x2 => [(5, .int .i64 x2), (0, slv p_a), (1, slv p_b)]) ?_))))))
 intro x2 H4 J3 h
 refine GC.seq (Zo (Zm (Zm (Zq (Zi (.bool (decide ((x2 : Int) < (Sl.len p_a : Int)))) (GL.nil (Yd h (fun u5 h => ?_) fun u5 h => ?_)))))))
 refine GC.skip (GC.seq (GC.block (GC.seq ?_)))
 obtain ⟨Hs6, hle7, h⟩ := h
 refine GC.any (Hs := Hs6) (by kernel_rfl) hle7 (Zp 0 rfl Ym (Zp 1 rfl Ym ?_))
 obtain ⟨p8, ha9, hb10, u11, hd12, h⟩ := h
 refine Zp 2 rfl (OV.indexAddr rfl rfl rfl rfl ha9 hb10 u11 hd12) ?_
 obtain ⟨x13, v14, h⟩ := h
 refine Zp 3 rfl (OV.loadT rfl rfl rfl v14) (Zp 4 rfl Ym (Zp 5 rfl Ym ?_))
 obtain ⟨p15, ha16, hb17, u18, hd19, h⟩ := h
 refine Zp 6 rfl (OV.indexAddr rfl rfl rfl rfl ha16 hb17 u18 hd19) ?_
 obtain ⟨x20, v21, h⟩ := h
 refine Zp 7 rfl (OV.loadT rfl rfl rfl v21) (GA.eff 8 rfl (by kernel_rfl) (Zc h QgC ?_))
 rintro _ H24 ⟨r23, rfl, h⟩
 obtain ⟨hle22, h⟩ := h
 refine GA.back hle22 (Zp 9 rfl (OV.not rfl) (GA.done (by kernel_rfl) (GL.nil (Yd h (fun u25 h => ?_) fun u25 h => ?_))))
 refine Zo (Za (GL.nil ?_))
 exact Y1 I3 ⟨false, rfl, h⟩
 refine GC.skip_to (fun _ _ h => h) (GC.region (Zm (Zi (.int .i64 (w .i64 (x2 + 1))) (Za ?_))))
 exact Yj I3 (w .i64 (x2 + 1)) h
 refine GC.exit_to (fun _ _ h => h) (Zo (Za (GL.nil ?_)))
 exact Y1 I3 ⟨true, rfl, h⟩
def QM (C : Ctx) (p_s : Sl) (K : Value → Heap → Prop) (H : Heap) : Prop :=
 nw ([slv p_s]) (fun b1 H2 =>
 K (.func (.func 70) (List.toArray []) (List.toArray [pv (some (b1, 0))]) : Value) H2) H
theorem QaA (C p_s K H) (h : QM C p_s K H) : Ql C p_s K H := by
 refine Ye Tryz.func44 rfl Tryz.ntmps44 [(0, slv p_s)] (Zo (GL.box (v := slv p_s) (cs := [slv p_s]) h trivial rfl rfl rfl ?_))
 intro b1 H2 h
 refine Za (GL.nil (Zo (Zv (OV.makeFunc (vs := []) (us := [pv (some (b1, 0))]) rfl rfl) (Za (GL.nil ?_)))))
 exact Y1 I3 ⟨(.func (.func 70) (List.toArray []) (List.toArray [pv (some (b1, 0))]) : Value), rfl, h⟩
def QX (C : Ctx) (p_s : Sl) (K : Sl → Heap → Prop) (H : Heap) : Prop :=
 ift (Sl.isNil p_s)
 (K Sl.nil H)
 (nw ([]) (fun b2 H3 =>
 apS (Qa.c Qa.zero) 56 (Sl.of (some (b2, 0)) 0 0) p_s (fun r4 H5 =>
 K r4 H5) H3) H)
theorem Qa2 (C p_s K H) (h : QX C p_s K H) : QC C p_s K H := by
 refine Ye Tryz.func60 rfl Tryz.ntmps60 [(0, slv p_s)] (Zo (Za (GL.nil (GC.seq (Zo (Zm (Zv (OV.eqlSl (s := p_s) rfl rfl rfl) (GL.nil (Yd h (fun u1 h => ?_) fun u1 h => ?_)))))))))
 refine Zo (Za (GL.nil ?_))
 exact Y1 I3 ⟨Sl.nil, rfl, h⟩
 refine GC.skip (Zo (GL.buildSlice (cs := []) h trivial rfl (vs := []) rfl ⟨56, fun _ => by kernel_rfl⟩ ?_))
 intro b2 H3 h
 refine Zm (GL.appendS (s := (Sl.of (some (b2, 0)) 0 0)) (s2 := p_s) (zc := Qa.c Qa.zero) (bytes := 56) h trivial rfl rfl rfl ⟨⟨_, _, _, rfl, rfl, rfl, rfl, rfl, rfl⟩⟩ rfl ?_)
 intro r4 H5 h
 refine Za (GL.nil ?_)
 exact Y1 I3 ⟨r4, rfl, h⟩
def Qa6 (C : Ctx) (p_x : Str) (K : Bool → Heap → Prop) (H : Heap) : Prop :=
 K (!(p_x == p_x)) H
theorem QbS (C p_x K H) (h : Qa6 C p_x K H) : Q0 C p_x K H := by
 refine Ye Tryz.func63 rfl Tryz.ntmps63 [(0, sv p_x)] (Zo (Za (GL.nil (Zo (Zm (Zm (Zv (OV.sbin (a := p_x) (b := p_x) (v := .bool (!(p_x == p_x))) rfl rfl rfl) (Za (GL.nil ?_)))))))))
 exact Y1 I3 ⟨(!(p_x == p_x)), rfl, h⟩
def QeY (C : Ctx) (p_l : Sl) (K : Bool → Heap → Prop) (H : Heap) : Prop :=
 Qr C p_l (.func (.func 89) (List.toArray []) (List.toArray []) : Value) (fun r1 H2 =>
 K (!r1) H2) H
theorem QgU (C p_l K H) (h : QeY C p_l K H) : QcQ C p_l K H := by
 refine Ye Tryz.func64 rfl Tryz.ntmps64 [(0, slv p_l)] (Zo (Za (GL.nil (Zo (Zm (Zc h Qan ?_))))))
 rintro _ H2 ⟨r1, rfl, h⟩
 refine Zv (OV.not rfl) (Za (GL.nil ?_))
 exact Y1 I3 ⟨(!r1), rfl, h⟩
def Qet (C : Ctx) (p_a : Bool) (p_b : Bool) (K : Int → Heap → Prop) (H : Heap) : Prop :=
 ift (p_a == p_b)
 (K 0 H)
 (ift p_a
 (K (-1) H)
 (K 1 H))
theorem Qgr (C p_a p_b K H) (h : Qet C p_a p_b K H) : Qdg C p_a p_b K H := by
 refine Ye Tryz.func65 rfl Tryz.ntmps65 [(0, .bool p_a), (1, .bool p_b)] (Zo (Za (GL.nil (GC.seq (GC.block (Zo (Zm (Zm (Zv (OV.eqlBool rfl rfl rfl) (Za (GL.nil (Yd h (fun u1 h => ?_) fun u1 h => ?_))))))))))))
 refine Zo (Za (GL.nil ?_))
 exact Y1 I3 ⟨0, rfl, h⟩
 refine Zo (Zm (Za (GL.nil (Yd h (fun u2 h => ?_) fun u2 h => ?_))))
 refine Zo (Za (GL.nil ?_))
 exact Y1 I3 ⟨(-1), rfl, h⟩
 refine GC.skip_to (fun _ _ h => h) (Zo (Za (GL.nil ?_)))
 exact Y1 I3 ⟨1, rfl, h⟩
def Qev (C : Ctx) (p_a : Sl) (p_b : Sl) (K : Int → Heap → Prop) (H : Heap) : Prop :=
 Qe C p_a p_b (.func (.func 91) (List.toArray []) (List.toArray []) : Value) (fun r1 H2 =>
 K r1 H2) H
theorem Qgt (C p_a p_b K H) (h : Qev C p_a p_b K H) : Qbs C p_a p_b K H := by
 refine Ye Tryz.func66 rfl Tryz.ntmps66 [(0, slv p_a), (1, slv p_b)] (Zo (Za (GL.nil (Zo (Zm (Zm (Zc h QK ?_)))))))
 rintro _ H2 ⟨r1, rfl, h⟩
 refine Za (GL.nil ?_)
 exact Y1 I3 ⟨r1, rfl, h⟩
def QdW (C : Ctx) (p_v : Qa) (K : Int → Heap → Prop) (H : Heap) : Prop :=
 nw (Qa.c p_v) (fun b1 H2 =>
 ldT H2 Qa.c (b1, 0) fun x3 =>
 QU C x3 65 (fun r5 H6 =>
 ift (decide ((r5 : Int) > 64))
 (K 65 H6)
 (ldT H6 Qa.c (b1, 0) fun x8 =>
 Qv C x8 (fun r10 r11 H12 =>
 ift (!r10)
 (K 4 H12)
 (ift (!r11)
 (K 40 H12)
 (K 0 H12))) H6)) H2) H
theorem QfX (C p_v K H) (h : QdW C p_v K H) : QT C p_v K H := by
 refine Ye Tryz.func67 rfl Tryz.ntmps67 [(0, .agg (Qa.c p_v).toArray)] (Zo (GL.box (v := .agg (Qa.c p_v).toArray) (cs := Qa.c p_v) h trivial rfl rfl rfl ?_))
 intro b1 H2 h
 refine Za (GL.nil (GC.seq (Zo ?_)))
 obtain ⟨x3, v4, h⟩ := h
 refine Zv (OV.loadT rfl rfl rfl v4) (Zc h QdP ?_)
 rintro _ H6 ⟨r5, rfl, h⟩
 refine Zi (.bool (decide ((r5 : Int) > 64))) (GL.nil (Yd h (fun u7 h => ?_) fun u7 h => ?_))
 refine Zo (Za (GL.nil ?_))
 exact Y1 I3 ⟨65, rfl, h⟩
 refine GC.skip (GC.seq (Zo ?_))
 obtain ⟨x8, v9, h⟩ := h
 refine Zv (OV.loadT rfl rfl rfl v9) (Zc h Qcd ?_)
 rintro _ H12 ⟨r10, r11, rfl, h⟩
 refine Zm (Yv (.bool r10) rfl rfl (Yv (.bool r11) rfl rfl (Za (Za (GL.nil (GC.block (Zo (Zm (Zv (OV.not rfl) (Za (GL.nil (Yd h (fun u13 h => ?_) fun u13 h => ?_))))))))))))
 refine Zo (Za (GL.nil ?_))
 exact Y1 I3 ⟨4, rfl, h⟩
 refine Zo (Zm (Zv (OV.not rfl) (Za (GL.nil (Yd h (fun u14 h => ?_) fun u14 h => ?_)))))
 refine Zo (Za (GL.nil ?_))
 exact Y1 I3 ⟨40, rfl, h⟩
 refine GC.skip_to (fun _ _ h => h) (Zo (Za (GL.nil ?_)))
 exact Y1 I3 ⟨0, rfl, h⟩
def Qes (C : Ctx) (p_v : Qa) (K : Str → Heap → Prop) (H : Heap) : Prop :=
 nw (Qa.c p_v) (fun b1 H2 =>
 ldT H2 Qa.c (b1, 0) fun x3 =>
 QT C x3 (fun r5 H6 =>
 ift ((r5 : Int) != 0)
 (K [] H6)
 (nwB 136 5 (fun b8 H9 =>
 nw ([.nilFunc]) (fun b10 H11 =>
 nw ([.nilFunc]) (fun b12 H13 =>
 st (b12, 0) (.func (.func 95) (List.toArray []) (List.toArray [pv (some (b8, 0)), pv (some (b10, 0))])) (fun H14 =>
 st (b10, 0) (.func (.func 98) (List.toArray []) (List.toArray [pv (some (b8, 0)), pv (some (b12, 0))])) (fun H15 =>
 ldV H15 (b10, 0) fun x16 =>
 ldT H15 Qa.c (b1, 0) fun x18 =>
 callU Tryz.prog C x16 [.agg (Qa.c x18).toArray] H15 (fun v H20 => v = .tuple #[] ∧
 Qp C (some (b8, 0)) (fun r21 H22 =>
 K r21 H22) H20)) H14) H13) H11) H9) H6)) H2) H
theorem Qgq (C p_v K H) (h : Qes C p_v K H) : Qa8 C p_v K H := by
 refine Ye Tryz.func68 rfl Tryz.ntmps68 [(0, .agg (Qa.c p_v).toArray)] (Zo (GL.box (v := .agg (Qa.c p_v).toArray) (cs := Qa.c p_v) h trivial rfl rfl rfl ?_))
 intro b1 H2 h
 refine Za (GL.nil (GC.seq (Zo ?_)))
 obtain ⟨x3, v4, h⟩ := h
 refine Zv (OV.loadT rfl rfl rfl v4) (Zc h Qcr ?_)
 rintro _ H6 ⟨r5, rfl, h⟩
 refine Zi (.bool ((r5 : Int) != 0)) (GL.nil (Yd h (fun u7 h => ?_) fun u7 h => ?_))
 refine Zo (Za (GL.nil ?_))
 exact Y1 I3 ⟨[], rfl, h⟩
 refine GC.skip (Zo (GL.allocB (T := 136) (e := 5) h trivial rfl rfl rfl ?_))
 intro b8 H9 h
 refine GL.nil (Zo (GL.alloc (cs := [.nilFunc]) h trivial rfl rfl rfl ?_))
 intro b10 H11 h
 refine GL.nil (Zo (Zv (OV.makeFunc (vs := []) (us := [pv (some (b8, 0)), pv (some (b10, 0))]) rfl rfl) (GL.alloc (cs := [.nilFunc]) h trivial rfl rfl rfl ?_)))
 intro b12 H13 h
 refine GL.store (p := (b12, 0)) (v := .func (.func 95) (List.toArray []) (List.toArray [pv (some (b8, 0)), pv (some (b10, 0))])) h trivial rfl rfl rfl rfl ?_
 intro H14 h
 refine GL.nil (Zo (Zv (OV.makeFunc (vs := []) (us := [pv (some (b8, 0)), pv (some (b12, 0))]) rfl rfl) (GL.store (p := (b10, 0)) (v := .func (.func 98) (List.toArray []) (List.toArray [pv (some (b8, 0)), pv (some (b12, 0))])) h trivial rfl rfl rfl rfl ?_)))
 intro H15 h
 refine GL.nil (Zo (Yl h fun x16 h => ?_))
 obtain ⟨x18, v19, h⟩ := h
 refine Zv (OV.loadT rfl rfl rfl v19) (GL.callU (xv := x16) (vs := [.agg (Qa.c x18).toArray]) h trivial rfl rfl rfl ?_)
 rintro _ H20 ⟨rfl, h⟩
 refine GL.nil (Zo (Zc h Qcp ?_))
 rintro _ H22 ⟨r21, rfl, h⟩
 refine Za (GL.nil ?_)
 exact Y1 I3 ⟨r21, rfl, h⟩
def Qer (C : Ctx) (p_a : Qa) (p_b : Qa) (K : Bool → Heap → Prop) (H : Heap) : Prop :=
 nw (Qa.c p_a) (fun b1 H2 =>
 nw (Qa.c p_b) (fun b3 H4 =>
 ldI H4 .u8 ((b1, 0).1, (b1, 0).2 + 0) fun x5 =>
 ldI H4 .u8 ((b3, 0).1, (b3, 0).2 + 0) fun x7 =>
 jn (α := Bool) (fun b9 H17 =>
 jn (α := Bool) (fun b18 H26 =>
 jn (α := Bool) (fun b27 H37 =>
 K b27 H37)
 (fun J28 => ift b18
 (ldL H26 ((b1, 0).1, (b1, 0).2 + 3) fun x31 =>
 ldL H26 ((b3, 0).1, (b3, 0).2 + 3) fun x33 =>
 Qaa C x31 x33 (fun r35 H36 =>
 J28 r35 H36) H26)
 (J28 false H26)))
 (fun J19 => ift b9
 (ldS H17 ((b1, 0).1, (b1, 0).2 + 2) fun x22 =>
 ldS H17 ((b3, 0).1, (b3, 0).2 + 2) fun x24 =>
 J19 (x22 == x24) H17)
 (J19 false H17)))
 (fun J10 => ift ((x5 : Int) == x7)
 (ldI H4 .i64 ((b1, 0).1, (b1, 0).2 + 1) fun x13 =>
 ldI H4 .i64 ((b3, 0).1, (b3, 0).2 + 1) fun x15 =>
 J10 ((x13 : Int) == x15) H4)
 (J10 false H4))) H2) H
theorem Qgp (C p_a p_b K H) (h : Qer C p_a p_b K H) : Q2 C p_a p_b K H := by
 refine Ye Tryz.func69 rfl Tryz.ntmps69 [(0, .agg (Qa.c p_a).toArray), (1, .agg (Qa.c p_b).toArray)] (Zo (GL.box (v := .agg (Qa.c p_a).toArray) (cs := Qa.c p_a) h trivial rfl rfl rfl ?_))
 intro b1 H2 h
 refine GL.box (v := .agg (Qa.c p_b).toArray) (cs := Qa.c p_b) h trivial rfl rfl rfl ?_
 intro b3 H4 h
 refine Za (GL.nil (Zo (Zf (Yl h fun x5 h => ?_))))
 refine Zf (Yl h fun x7 h => ?_)
 refine Zi (.bool ((x5 : Int) == x7)) (Zm ?_)
 obtain ⟨J10, h, hR11⟩ := h
 refine GL.cut (α := Bool) 6 J10 (fun b9 => [(16, .bool b9), (2, pv (some (b1, 0))), (3, pv (some (b3, 0)))]) ?_ ?_
 rcases h.em with ⟨u12, h⟩ | ⟨u12, h⟩
 refine Zu u12 Yf ?_
 obtain ⟨x13, v14, h⟩ := h
 refine Zu u12 (Yo v14) (Zu u12 Yf ?_)
 obtain ⟨x15, v16, h⟩ := h
 refine Zu u12 (Yo v16) (Zu u12 (OV.ibin (v := .bool ((x13 : Int) == x15)) rfl rfl rfl) (Zt u12 ?_))
 exact Yj I3 ((x13 : Int) == x15) h
 refine Zk u12 (Zk u12 (Zk u12 (Zk u12 (Zk u12 (Zn u12 ?_)))))
 exact Yj I3 false h
 intro b9 H17 h
 replace h := hR11 b9 H17 h
 refine Zm ?_
 obtain ⟨J19, h, hR20⟩ := h
 refine GL.cut (α := Bool) 6 J19 (fun b18 => [(23, .bool b18), (2, pv (some (b1, 0))), (3, pv (some (b3, 0)))]) ?_ ?_
 rcases h.em with ⟨u21, h⟩ | ⟨u21, h⟩
 refine Zu u21 Yf ?_
 obtain ⟨x22, v23, h⟩ := h
 refine Zu u21 (Yo v23) (Zu u21 Yf ?_)
 obtain ⟨x24, v25, h⟩ := h
 refine Zu u21 (Yo v25) (Zu u21 (OV.sbin (a := x22) (b := x24) (v := .bool (x22 == x24)) rfl rfl rfl) (Zt u21 ?_))
 exact Yj I3 (x22 == x24) h
 refine Zk u21 (Zk u21 (Zk u21 (Zk u21 (Zk u21 (Zn u21 ?_)))))
 exact Yj I3 false h
 intro b18 H26 h
 replace h := hR20 b18 H26 h
 refine Zm ?_
 obtain ⟨J28, h, hR29⟩ := h
 refine GL.cut (α := Bool) 6 J28 (fun b27 => [(30, .bool b27)]) ?_ ?_
 rcases h.em with ⟨u30, h⟩ | ⟨u30, h⟩
 refine Zu u30 Yf ?_
 obtain ⟨x31, v32, h⟩ := h
 refine Zu u30 (Yo v32) (Zu u30 Yf ?_)
 obtain ⟨x33, v34, h⟩ := h
 refine Zu u30 (Yo v34) (GL.call h (Yt u30) rfl QbC (vs := [slv x31, slv x33]) rfl ?_)
 rintro _ H36 ⟨r35, rfl, h⟩
 refine Zt u30 ?_
 exact Yj I3 r35 h
 refine Zk u30 (Zk u30 (Zk u30 (Zk u30 (Zk u30 (Zn u30 ?_)))))
 exact Yj I3 false h
 intro b27 H37 h
 replace h := hR29 b27 H37 h
 refine Za (GL.nil ?_)
 exact Y1 I3 ⟨b27, rfl, h⟩
def QG (C : Ctx) (Y : List Value → (Bool → Heap → Prop) → Heap → Prop) (v0 : Nat × Nat) (K : Heap → Prop) (H : Heap) : Prop :=
 ldL H v0 fun x1 =>
 lp (α := Int) (w .i64 ((Sl.len x1 : Int) - 1)) H (fun x3 J4 H5 =>
 ift (decide ((x3 : Int) ≥ 0))
 (ldL H5 v0 fun x7 =>
 ixa x7 x3 fun p9 =>
 ldT H5 Qd.c (p9.1, p9.2 + (x3 : Int).toNat * 4) fun x14 =>
 Y [.int .i64 x3, .agg (Qd.c x14).toArray] (fun r16 H17 =>
 ift (!r16)
 (K H17)
 (J4 (w .i64 (x3 - 1)) H17)) H5)
 (K H5))
theorem Qaj (C : Ctx) {yl : Nat} {Y : List Value → (Bool → Heap → Prop) → Heap → Prop} (hy : Rf.YldS Tryz.prog C yl Y) (v0 : Nat × Nat) (K : Heap → Prop) (H : Heap) (h : QG C Y v0 K H) : Qat C (.func (.yield yl) (List.toArray []) (List.toArray []) : Value) v0 K H := by
 refine Rf.Spec.enterI Tryz.func70 rfl Tryz.ntmps70 rfl ?_
 refine Rf.GI.sub [(0, .func (.yield yl) (List.toArray []) (List.toArray [])), (1, pv (some v0))] ⟨rfl, rfl, trivial⟩ ?_
 refine Rf.GI.seq ?_
 refine Rf.GI.region (fun _ _ h => h) rfl ?_
 refine Yl h fun x1 h => ?_
 refine Zq (Zi (.int .i64 (w .i64 ((Sl.len x1 : Int) - 1))) (Za ?_))
 refine Rf.GI.nil ?_
 refine Rf.GI.block ?_
 refine Rf.GI.loop (α := Int) h (fun x3 => [(3, .int .i64 x3), (0, .func (.yield yl) (List.toArray []) (List.toArray [])), (1, pv (some v0))]) ⟨rfl, rfl, rfl, trivial⟩ ?_
 intro x3 H5 J4 h
 refine Rf.GI.seq ?_
 refine Rf.GI.seq ?_
 refine Rf.GI.region (fun _ _ h => h) rfl ?_
 refine Zm (Zi (.bool (decide ((x3 : Int) ≥ 0))) ?_)
 refine Rf.GI.nil ?_
 refine Rf.GI.cond (b := decide ((x3 : Int) ≥ 0)) rfl (fun u6 => ?_) (fun u6 => ?_)
 replace h := h.1 u6
 refine Rf.GI.skip ?_
 refine Rf.GI.seq ?_
 refine Rf.GI.block ?_
 refine Rf.GI.seq ?_
 refine Rf.GI.regionL ?_
 refine Rf.GLI.pre 6 (fun _ _ h => h) rfl ?_
 refine Zm (Zm (Yl h fun x7 h => ?_))
 refine Zm (Yx h fun p9 h => ?_)
 obtain ⟨x14, hr15, h⟩ := h
 refine Zv (OV.loadT rfl rfl rfl hr15) ?_
 refine Rf.GI.nilL ?_
 refine Rf.GLI.yield (us := [.int .i64 x3, .agg (Qd.c x14).toArray]) hy h trivial rfl rfl rfl ?_
 intro r16 H17 h
 refine Rf.GLI.ofGL (fun _ _ h => h) rfl ?_
 refine Zv (OV.not rfl) ?_
 refine Rf.GI.nil ?_
 refine Rf.GI.cond (b := !r16) rfl (fun u18 => ?_) (fun u18 => ?_)
 replace h := h.1 u18
 exact Rf.GI.ret (fun _ _ hf hs => QB rfl hf hs ⟨rfl, h⟩)
 replace h := h.2 u18
 refine Rf.GI.skip_to (fun _ _ h => h) ?_
 refine Rf.GI.region (fun _ _ h => h) rfl ?_
 refine Zm (Zi (.int .i64 (w .i64 (x3 - 1))) (Za ?_))
 exact Yj I3 (w .i64 (x3 - 1)) h
 replace h := h.2 u6
 exact Rf.GI.exit_ends (fun _ _ hf hs => QB rfl hf hs ⟨rfl, h⟩)
def QH (C : Ctx) (p_s : Sl) (p_f : Value) (K : Bool → Heap → Prop) (H : Heap) : Prop :=
 Qu C p_s p_f (fun r1 H2 =>
 K (decide ((r1 : Int) ≥ 0)) H2) H
theorem Qak (C p_s p_f K H) (h : QH C p_s p_f K H) : Qr C p_s p_f K H := by
 refine Ye Tryz.func88 rfl Tryz.ntmps88 [(0, slv p_s), (1, p_f)] (Zo (Za (GL.nil (Zo (Zm (Zm (Zc h QaH ?_)))))))
 rintro _ H2 ⟨r1, rfl, h⟩
 refine Zi (.bool (decide ((r1 : Int) ≥ 0))) (Za (GL.nil ?_))
 exact Y1 I3 ⟨(decide ((r1 : Int) ≥ 0)), rfl, h⟩
def QdY (C : Ctx) (p_v : Qa) (K : Bool → Heap → Prop) (H : Heap) : Prop :=
 nw (Qa.c p_v) (fun b1 H2 =>
 ldT H2 Qa.c (b1, 0) fun x3 =>
 QT C x3 (fun r5 H6 =>
 K ((r5 : Int) != 0) H6) H2) H
theorem QfZ (C p_v K H) (h : QdY C p_v K H) : Qah C p_v K H := by
 refine Ye Tryz.func89 rfl Tryz.ntmps89 [(0, .agg (Qa.c p_v).toArray)] (Zo (GL.box (v := .agg (Qa.c p_v).toArray) (cs := Qa.c p_v) h trivial rfl rfl rfl ?_))
 intro b1 H2 h
 refine Za (GL.nil (Zo ?_))
 obtain ⟨x3, v4, h⟩ := h
 refine Zv (OV.loadT rfl rfl rfl v4) (Zc h Qcr ?_)
 rintro _ H6 ⟨r5, rfl, h⟩
 refine Zi (.bool ((r5 : Int) != 0)) (Za (GL.nil ?_))
 exact Y1 I3 ⟨((r5 : Int) != 0), rfl, h⟩
def Qo (C : Ctx) (p_s1 : Sl) (p_s2 : Sl) (p_cmp : Value) (K : Int → Heap → Prop) (H : Heap) : Prop :=
 lp (α := Int) 0 H (fun x1 J2 H3 =>
 ift (decide ((x1 : Int) < (Sl.len p_s1 : Int)))
 (ixa p_s1 x1 fun p5 =>
 ldT H3 Qa.c (p5.1, p5.2 + (x1 : Int).toNat * 4) fun x10 =>
 nw (Qa.c Qa.zero) (fun b12 H13 =>
 stT (b12, 0) (Qa.c x10) (fun H14 =>
 ift (decide ((x1 : Int) ≥ (Sl.len p_s2 : Int)))
 (K 1 H14)
 (ixa p_s2 x1 fun p16 =>
 ldT H14 Qa.c (p16.1, p16.2 + (x1 : Int).toNat * 4) fun x21 =>
 nw (Qa.c Qa.zero) (fun b23 H24 =>
 stT (b23, 0) (Qa.c x21) (fun H25 =>
 ldT H25 Qa.c (b12, 0) fun x26 =>
 ldT H25 Qa.c (b23, 0) fun x28 =>
 callU Tryz.prog C p_cmp [.agg (Qa.c x26).toArray, .agg (Qa.c x28).toArray] H25 (fun v H31 => ∃ (r30 : Int), v = .int .i64 r30 ∧
 ift ((r30 : Int) != 0)
 (K r30 H31)
 (J2 (w .i64 (x1 + 1)) H31))) H24) H14)) H13) H3)
 (ift (decide (((Sl.len p_s1 : Int) : Int) < (Sl.len p_s2 : Int)))
 (K (-1) H3)
 (K 0 H3)))
theorem QI (C p_s1 p_s2 p_cmp K H) (h : Qo C p_s1 p_s2 p_cmp K H) : Qe C p_s1 p_s2 p_cmp K H := by
 refine Ye Tryz.func90 rfl Tryz.ntmps90 [(0, slv p_s1), (1, slv p_s2), (2, p_cmp)] (Zo (Za (GL.nil (GC.seq (Zo (Zm (Zq (Zm (GL.nil (GC.block (Yp h (fun x1 => [(13, .int .i64 x1), (0, slv p_s1), (1, slv p_s2), (2, p_cmp), (11, slv p_s1), (12, .int .i64 (Sl.len p_s1 : Int))]) ?_)))))))))))
 intro x1 H3 J2 h
 refine Zo (Zi (.bool (decide ((x1 : Int) < (Sl.len p_s1 : Int)))) (GL.nil (GC.seq (Yd h (fun u4 h => ?_) fun u4 h => ?_))))
 refine GC.skip (GC.seq (GC.block (Zo (Zm (Yx h fun p5 h => ?_)))))
 obtain ⟨x10, v11, h⟩ := h
 refine Zv (OV.loadT rfl rfl rfl v11) (GL.alloc (cs := Qa.c Qa.zero) h trivial rfl rfl rfl ?_)
 intro b12 H13 h
 refine Za (GL.storeT (p := (b12, 0)) (vs := Qa.c x10) h trivial rfl rfl rfl rfl ?_)
 intro H14 h
 refine GL.nil (GC.seq (Zo (Zm (Zm (Zq (Zi (.bool (decide ((x1 : Int) ≥ (Sl.len p_s2 : Int)))) (GL.nil (Yd h (fun u15 h => ?_) fun u15 h => ?_))))))))
 refine Zo (Za (GL.nil ?_))
 exact Y1 I3 ⟨1, rfl, h⟩
 refine GC.skip (Zo (Zm (Zm (Yx h fun p16 h => ?_))))
 obtain ⟨x21, v22, h⟩ := h
 refine Zv (OV.loadT rfl rfl rfl v22) (GL.alloc (cs := Qa.c Qa.zero) h trivial rfl rfl rfl ?_)
 intro b23 H24 h
 refine GL.storeT (p := (b23, 0)) (vs := Qa.c x21) h trivial rfl rfl rfl rfl ?_
 intro H25 h
 refine GL.nil (Zo (Zm ?_))
 obtain ⟨x26, v27, h⟩ := h
 refine Zv (OV.loadT rfl rfl rfl v27) ?_
 obtain ⟨x28, v29, h⟩ := h
 refine Zv (OV.loadT rfl rfl rfl v29) (GL.callU (xv := p_cmp) (vs := [.agg (Qa.c x26).toArray, .agg (Qa.c x28).toArray]) h trivial rfl rfl rfl ?_)
 rintro _ H31 ⟨r30, rfl, h⟩
 refine Za (GL.nil (Zo (Zm (Zi (.bool ((r30 : Int) != 0)) (GL.nil (Yd h (fun u32 h => ?_) fun u32 h => ?_))))))
 refine Zo (Zm (Za (GL.nil ?_)))
 exact Y1 I3 ⟨r30, rfl, h⟩
 refine GC.skip_to (fun _ _ h => h) (GC.region (Zi (.int .i64 (w .i64 (x1 + 1))) (Zm ?_)))
 exact Yj I3 (w .i64 (x1 + 1)) h
 refine GC.exit_to (fun _ _ h => h) (GC.seq (Zo (Zm (Zq (Zm (Zq (Zi (.bool (decide (((Sl.len p_s1 : Int) : Int) < (Sl.len p_s2 : Int)))) (GL.nil ?_))))))))
 refine Yd h (fun u33 h => ?_) fun u33 h => ?_
 refine Zo (Za (GL.nil ?_))
 exact Y1 I3 ⟨(-1), rfl, h⟩
 refine GC.skip (Zo (Za (GL.nil ?_)))
 exact Y1 I3 ⟨0, rfl, h⟩
def Qdx (C : Ctx) (p_x : Qa) (p_y : Qa) (K : Int → Heap → Prop) (H : Heap) : Prop :=
 nw (Qa.c p_x) (fun b1 H2 =>
 nw (Qa.c p_y) (fun b3 H4 =>
 ldT H4 Qa.c (b1, 0) fun x5 =>
 ldT H4 Qa.c (b3, 0) fun x7 =>
 Qz C x5 x7 (fun r9 H10 =>
 K r9 H10) H4) H2) H
theorem Qfn (C p_x p_y K H) (h : Qdx C p_x p_y K H) : Qas C p_x p_y K H := by
 refine Ye Tryz.func91 rfl Tryz.ntmps91 [(0, .agg (Qa.c p_x).toArray), (1, .agg (Qa.c p_y).toArray)] (Zo (GL.box (v := .agg (Qa.c p_x).toArray) (cs := Qa.c p_x) h trivial rfl rfl rfl ?_))
 intro b1 H2 h
 refine GL.box (v := .agg (Qa.c p_y).toArray) (cs := Qa.c p_y) h trivial rfl rfl rfl ?_
 intro b3 H4 h
 refine Za (GL.nil (Zo ?_))
 obtain ⟨x5, v6, h⟩ := h
 refine Zv (OV.loadT rfl rfl rfl v6) ?_
 obtain ⟨x7, v8, h⟩ := h
 refine Zv (OV.loadT rfl rfl rfl v8) (Zc h QeM ?_)
 rintro _ H10 ⟨r9, rfl, h⟩
 refine Za (GL.nil ?_)
 exact Y1 I3 ⟨r9, rfl, h⟩
def QcK (C : Ctx) (p_v : Qa) (p_w : Qa) (K : Int → Heap → Prop) (H : Heap) : Prop :=
 nw (Qa.c p_v) (fun b1 H2 =>
 nw (Qa.c p_w) (fun b3 H4 =>
 ldI H4 .u8 ((b1, 0).1, (b1, 0).2 + 0) fun x5 =>
 ldI H4 .u8 ((b3, 0).1, (b3, 0).2 + 0) fun x7 =>
 Qa4 C x5 x7 (fun r9 H10 =>
 ift ((r9 : Int) != 0)
 (K r9 H10)
 (ldI H10 .u8 ((b1, 0).1, (b1, 0).2 + 0) fun x12 =>
 ift ((x12 : Int) == 3)
 (ldS H10 ((b1, 0).1, (b1, 0).2 + 2) fun x15 =>
 ldS H10 ((b3, 0).1, (b3, 0).2 + 2) fun x17 =>
 Q3 C x15 x17 (fun r19 H20 =>
 K r19 H20) H10)
 (ift ((x12 : Int) == 4)
 (ldS H10 ((b1, 0).1, (b1, 0).2 + 2) fun x22 =>
 ldS H10 ((b3, 0).1, (b3, 0).2 + 2) fun x24 =>
 Qw C x22 x24 (fun r26 H27 =>
 K r26 H27) H10)
 (dr H10 fun Hs28 =>
 ldI Hs28 .i64 ((b1, 0).1, (b1, 0).2 + 1) fun x30 =>
 ldI Hs28 .i64 ((b3, 0).1, (b3, 0).2 + 1) fun x32 =>
 ldS Hs28 ((b1, 0).1, (b1, 0).2 + 2) fun x34 =>
 ldS Hs28 ((b3, 0).1, (b3, 0).2 + 2) fun x36 =>
 ldL Hs28 ((b1, 0).1, (b1, 0).2 + 3) fun x38 =>
 ldL Hs28 ((b3, 0).1, (b3, 0).2 + 3) fun x40 =>
 Qa3 C x30 x32 (fun r43 H44 =>
 Heap.le Hs28 H44 ∧
 Qw C x34 x36 (fun r46 H47 =>
 Heap.le Hs28 H47 ∧
 Qbs C x38 x40 (fun r49 H50 =>
 Heap.le Hs28 H50 ∧
 nw ([.int .i64 r43, .int .i64 r46, .int .i64 r49]) (fun b52 H53 =>
 Heap.le Hs28 H53 ∧
 Qa7 C (Sl.of (some (b52, 0)) 3 3) (fun r55 H56 =>
 Heap.le Hs28 H56 ∧
 K r55 H56) H53) H50) H47) H44) H10)))) H4) H2) H
theorem QeG (C p_v p_w K H) (h : QcK C p_v p_w K H) : Qz C p_v p_w K H := by
 refine Ye Tryz.func92 rfl Tryz.ntmps92 [(0, .agg (Qa.c p_v).toArray), (1, .agg (Qa.c p_w).toArray)] (Zo (GL.box (v := .agg (Qa.c p_v).toArray) (cs := Qa.c p_v) h trivial rfl rfl rfl ?_))
 intro b1 H2 h
 refine GL.box (v := .agg (Qa.c p_w).toArray) (cs := Qa.c p_w) h trivial rfl rfl rfl ?_
 intro b3 H4 h
 refine Za (GL.nil (GC.seq (Zo (Zf (Yl h fun x5 h => ?_)))))
 refine Zf (Yl h fun x7 h => ?_)
 refine Zc h QdJ ?_
 rintro _ H10 ⟨r9, rfl, h⟩
 refine Za (GL.nil (Zo (Zm (Zi (.bool ((r9 : Int) != 0)) (GL.nil (Yd h (fun u11 h => ?_) fun u11 h => ?_))))))
 refine Zo (Zm (Za (GL.nil ?_)))
 exact Y1 I3 ⟨r9, rfl, h⟩
 refine GC.skip (GC.seq (Zo (Zf (Yl h fun x12 h => ?_))))
 refine GL.nil (GC.block (Zo (Zi (.bool ((x12 : Int) == 3)) (Za (GL.nil (Yd h (fun u14 h => ?_) fun u14 h => ?_))))))
 refine Zo (Zf (Yl h fun x15 h => ?_))
 refine Zf (Yl h fun x17 h => ?_)
 refine Zc h Qem ?_
 rintro _ H20 ⟨r19, rfl, h⟩
 refine Za (GL.nil ?_)
 exact Y1 I3 ⟨r19, rfl, h⟩
 refine Zo (Zi (.bool ((x12 : Int) == 4)) (Za (GL.nil (Yd h (fun u21 h => ?_) fun u21 h => ?_))))
 refine Zo (Zf (Yl h fun x22 h => ?_))
 refine Zf (Yl h fun x24 h => ?_)
 refine Zc h Q4 ?_
 rintro _ H27 ⟨r26, rfl, h⟩
 refine Za (GL.nil ?_)
 exact Y1 I3 ⟨r26, rfl, h⟩
 refine GC.skip_to (fun _ _ h => h) (GC.seq ?_)
 obtain ⟨Hs28, hle29, h⟩ := h
 refine GC.any (Hs := Hs28) (by kernel_rfl) hle29 (Zp 0 rfl Yf ?_)
 obtain ⟨x30, v31, h⟩ := h
 refine Zp 1 rfl (Yo v31) (Zp 2 rfl Yf ?_)
 obtain ⟨x32, v33, h⟩ := h
 refine Zp 3 rfl (Yo v33) (Zp 5 rfl Yf ?_)
 obtain ⟨x34, v35, h⟩ := h
 refine Zp 6 rfl (Yo v35) (Zp 7 rfl Yf ?_)
 obtain ⟨x36, v37, h⟩ := h
 refine Zp 8 rfl (Yo v37) (Zp 10 rfl Yf ?_)
 obtain ⟨x38, v39, h⟩ := h
 refine Zp 11 rfl (Yo v39) (Zp 12 rfl Yf ?_)
 obtain ⟨x40, v41, h⟩ := h
 refine Zp 13 rfl (Yo v41) (GA.eff 4 rfl (by kernel_rfl) (Zc h QdI ?_))
 rintro _ H44 ⟨r43, rfl, h⟩
 obtain ⟨hle42, h⟩ := h
 refine GA.back hle42 (GA.eff 9 rfl (by kernel_rfl) (Zc h Q4 ?_))
 rintro _ H47 ⟨r46, rfl, h⟩
 obtain ⟨hle45, h⟩ := h
 refine GA.back hle45 (GA.eff 14 rfl (by kernel_rfl) (Zc h Qeo ?_))
 rintro _ H50 ⟨r49, rfl, h⟩
 obtain ⟨hle48, h⟩ := h
 refine GA.back hle48 (GA.eff 15 rfl (by kernel_rfl) (GL.buildSlice (cs := [.int .i64 r43, .int .i64 r46, .int .i64 r49]) h trivial rfl (vs := [(0, .int .i64 r43), (1, .int .i64 r46), (2, .int .i64 r49)]) rfl ⟨3, fun _ => by kernel_rfl⟩ ?_))
 intro b52 H53 h
 obtain ⟨hle51, h⟩ := h
 refine GA.back hle51 (GA.eff 16 rfl (by kernel_rfl) (Zc h QcU ?_))
 rintro _ H56 ⟨r55, rfl, h⟩
 obtain ⟨hle54, h⟩ := h
 refine GA.back hle54 (Zp 17 rfl Ya (GA.done (by kernel_rfl) (GL.nil ?_)))
 exact Y1 I3 ⟨r55, rfl, h⟩
def QdX (C : Ctx) (p_v : Qa) (p_most : Int) (K : Int → Heap → Prop) (H : Heap) : Prop :=
 nw (Qa.c p_v) (fun b1 H2 =>
 jn (α := Int) (fun x4 H5 =>
 K (w .i64 (x4 + 1)) H5)
 (fun J3 => ldL H2 ((b1, 0).1, (b1, 0).2 + 3) fun x7 =>
 lp (α := Int × Int) (0, 0) H2 (fun x9 J10 H11 =>
 ift (decide ((x9.2 : Int) < (Sl.len x7 : Int)))
 (ixa x7 x9.2 fun p13 =>
 ldT H11 Qa.c (p13.1, p13.2 + (x9.2 : Int).toNat * 4) fun x18 =>
 nw (Qa.c Qa.zero) (fun b20 H21 =>
 stT (b20, 0) (Qa.c x18) (fun H22 =>
 ift (decide ((x9.1 : Int) ≥ p_most))
 (J3 x9.1 H22)
 (ldT H22 Qa.c (b20, 0) fun x24 =>
 QU C x24 (w .i64 (p_most - 1)) (fun r26 H27 =>
 J10 ((if r26 > x9.1 then r26 else x9.1 : Int), (w .i64 (x9.2 + 1))) H27) H22)) H21) H11)
 (J3 x9.1 H11)))) H
theorem QfY (C p_v p_most K H) (h : QdX C p_v p_most K H) : QU C p_v p_most K H := by
 refine Ye Tryz.func93 rfl Tryz.ntmps93 [(0, .agg (Qa.c p_v).toArray), (1, .int .i64 p_most)] (Zo (GL.box (v := .agg (Qa.c p_v).toArray) (cs := Qa.c p_v) h trivial rfl rfl rfl ?_))
 intro b1 H2 h
 refine Za (GL.nil (Zo (Za (GL.nil ?_))))
 obtain ⟨J3, h, hR6⟩ := h
 refine GC.join (α := Int) J3 (fun x4 => [(5, .int .i64 x4)]) ?_ ?_
 refine Zo (Zf (Yl h fun x7 h => ?_))
 refine Zq (Zm (GL.nil (GC.block (Yp h (fun x9 => [(5, .int .i64 x9.1), (11, .int .i64 x9.2), (1, .int .i64 p_most), (9, slv x7), (10, .int .i64 (Sl.len x7 : Int))]) ?_))))
 intro x9 H11 J10 h
 refine Zo (Zi (.bool (decide ((x9.2 : Int) < (Sl.len x7 : Int)))) (GL.nil (GC.seq (Yd h (fun u12 h => ?_) fun u12 h => ?_))))
 refine GC.skip (GC.seq (GC.block (Zo (Yx h fun p13 h => ?_))))
 obtain ⟨x18, v19, h⟩ := h
 refine Zv (OV.loadT rfl rfl rfl v19) (GL.alloc (cs := Qa.c Qa.zero) h trivial rfl rfl rfl ?_)
 intro b20 H21 h
 refine GL.storeT (p := (b20, 0)) (vs := Qa.c x18) h trivial rfl rfl rfl rfl ?_
 intro H22 h
 refine GL.nil (GC.seq (Zo (Zm (Zm (Zi (.bool (decide ((x9.1 : Int) ≥ p_most))) (GL.nil (Yd h (fun u23 h => ?_) fun u23 h => ?_)))))))
 exact GC.exit_jump (fun _ _ h => h) x9.1 h ⟨rfl, trivial⟩
 refine GC.skip (GC.region (Zm ?_))
 obtain ⟨x24, v25, h⟩ := h
 refine Zv (OV.loadT rfl rfl rfl v25) (Zm (Zi (.int .i64 (w .i64 (p_most - 1))) (Zc h QdP ?_)))
 rintro _ H27 ⟨r26, rfl, h⟩
 refine Zv (OV.maxI rfl rfl) (Za (GL.nil_to (fun _ _ h => h) (GC.region (Zi (.int .i64 (w .i64 (x9.2 + 1))) (Zm ?_)))))
 exact Yj I3 ((if r26 > x9.1 then r26 else x9.1 : Int), (w .i64 (x9.2 + 1))) h
 exact GC.exit_jump (fun _ _ h => h) x9.1 h ⟨rfl, trivial⟩
 intro x4 H5 h
 replace h := hR6 x4 H5 h
 refine Zo (Zm (Zi (.int .i64 (w .i64 (x4 + 1))) (Za (GL.nil ?_))))
 exact Y1 I3 ⟨(w .i64 (x4 + 1)), rfl, h⟩
def Qci (C : Ctx) (p_v : Qa) (K : Bool → Bool → Heap → Prop) (H : Heap) : Prop :=
 nw (Qa.c p_v) (fun b1 H2 =>
 ldI H2 .i64 ((b1, 0).1, (b1, 0).2 + 1) fun x3 =>
 jn (α := Bool) (fun b5 H11 =>
 jn (α := Bool) (fun b12 H18 =>
 jn (α := Bool × Bool) (fun x20 H21 =>
 ldL H21 ((b1, 0).1, (b1, 0).2 + 3) fun x149 =>
 lp (α := Bool × Bool × Int) (x20.1, x20.2, 0) H21 (fun x151 J152 H153 =>
 ift (decide ((x151.2.2 : Int) < (Sl.len x149 : Int)))
 (ixa x149 x151.2.2 fun p155 =>
 ldT H153 Qa.c (p155.1, p155.2 + (x151.2.2 : Int).toNat * 4) fun x160 =>
 nw (Qa.c Qa.zero) (fun b162 H163 =>
 stT (b162, 0) (Qa.c x160) (fun H164 =>
 ldT H164 Qa.c (b162, 0) fun x165 =>
 Qv C x165 (fun r167 r168 H169 =>
 J152 ((x151.1 && r167), (x151.2.1 && r168), (w .i64 (x151.2.2 + 1))) H169) H164) H163) H153)
 (K x151.1 x151.2.1 H153)))
 (fun J19 => ldI H18 .u8 ((b1, 0).1, (b1, 0).2 + 0) fun x23 =>
 ift ((x23 : Int) == 1)
 (ldI H18 .i64 ((b1, 0).1, (b1, 0).2 + 1) fun x26 =>
 jn (α := Bool) (fun b28 H34 =>
 jn (α := Bool) (fun b35 H41 =>
 jn (α := Bool) (fun b42 H48 =>
 J19 (b42, true) H48)
 (fun J43 => ift b35
 (ldL H41 ((b1, 0).1, (b1, 0).2 + 3) fun x46 =>
 J43 (((Sl.len x46 : Int) : Int) == 0) H41)
 (J43 false H41)))
 (fun J36 => ift b28
 (ldS H34 ((b1, 0).1, (b1, 0).2 + 2) fun x39 =>
 J36 (x39 == ([] : Str)) H34)
 (J36 false H34)))
 (fun J29 => ift ((x26 : Int) == 0)
 (J29 true H18)
 (ldI H18 .i64 ((b1, 0).1, (b1, 0).2 + 1) fun x32 =>
 J29 ((x32 : Int) == 1) H18)))
 (ift ((x23 : Int) == 2)
 (ldS H18 ((b1, 0).1, (b1, 0).2 + 2) fun x50 =>
 jn (α := Bool) (fun b52 H58 =>
 J19 (b52, true) H58)
 (fun J53 => ift (x50 == ([] : Str))
 (ldL H18 ((b1, 0).1, (b1, 0).2 + 3) fun x56 =>
 J53 (((Sl.len x56 : Int) : Int) == 0) H18)
 (J53 false H18)))
 (ift ((x23 : Int) == 3)
 (ldS H18 ((b1, 0).1, (b1, 0).2 + 2) fun x60 =>
 Qcn C x60 (fun r62 r63 H64 =>
 jn (α := Bool) (fun b65 H71 =>
 jn (α := Bool) (fun b72 H78 =>
 J19 (b72, (decide ((r62 : Int) ≤ 200))) H78)
 (fun J73 => ift b65
 (ldL H71 ((b1, 0).1, (b1, 0).2 + 3) fun x76 =>
 J73 (((Sl.len x76 : Int) : Int) == 0) H71)
 (J73 false H71)))
 (fun J66 => ift r63
 (ldI H64 .i64 ((b1, 0).1, (b1, 0).2 + 1) fun x69 =>
 J66 ((x69 : Int) == 0) H64)
 (J66 false H64))) H18)
 (ift ((x23 : Int) == 4)
 (jn (α := Bool × Bool) (fun x81 H82 =>
 J19 (x81.1, x81.2) H82)
 (fun J80 => dr H18 fun Hs84 =>
 ldI Hs84 .i64 ((b1, 0).1, (b1, 0).2 + 1) fun x86 =>
 ldS Hs84 ((b1, 0).1, (b1, 0).2 + 2) fun x88 =>
 ift ((x86 : Int) == 0)
 (ldL Hs84 ((b1, 0).1, (b1, 0).2 + 3) fun x91 =>
 J80 ((((Sl.len x91 : Int) : Int) == 0), (decide (((List.length x88 : Int) : Int) ≤ 4096))) H18)
 (J80 (false, (decide (((List.length x88 : Int) : Int) ≤ 4096))) H18)))
 (ift ((x23 : Int) == 5)
 (jn (α := Bool × Bool) (fun x95 H96 =>
 J19 (x95.1, x95.2) H96)
 (fun J94 => dr H18 fun Hs98 =>
 ldI Hs98 .i64 ((b1, 0).1, (b1, 0).2 + 1) fun x100 =>
 ldL Hs98 ((b1, 0).1, (b1, 0).2 + 3) fun x102 =>
 ift ((x100 : Int) == 0)
 (ldS Hs98 ((b1, 0).1, (b1, 0).2 + 2) fun x105 =>
 ift (x105 == ([] : Str))
 (ldL Hs98 ((b1, 0).1, (b1, 0).2 + 3) fun x108 =>
 J94 ((((Sl.len x108 : Int) : Int) != 1), (decide (((Sl.len x102 : Int) : Int) ≤ 16))) H18)
 (J94 (false, (decide (((Sl.len x102 : Int) : Int) ≤ 16))) H18))
 (J94 (false, (decide (((Sl.len x102 : Int) : Int) ≤ 16))) H18)))
 (ift ((x23 : Int) == 6)
 (ldS H18 ((b1, 0).1, (b1, 0).2 + 2) fun x111 =>
 QcO C x111 [46] (fun r113 r114 r115 H116 =>
 jn (α := Bool × Bool) (fun x118 H119 =>
 J19 (x118.1, x118.2) H119)
 (fun J117 => dr H116 fun Hs121 =>
 ldI Hs121 .i64 ((b1, 0).1, (b1, 0).2 + 1) fun x123 =>
 ldL Hs121 ((b1, 0).1, (b1, 0).2 + 3) fun x125 =>
 ift ((x123 : Int) == 0)
 (Qa9 C r113 (fun r129 H130 =>
 Heap.le Hs121 H130 ∧
 ift r129
 (ift r115
 (Qa9 C r114 (fun r134 H135 =>
 Heap.le Hs121 H135 ∧
 ift r134
 (J117 (true, (decide (((Sl.len x125 : Int) : Int) ≤ 8))) H135)
 (ift (!r115)
 (ldS Hs121 ((b1, 0).1, (b1, 0).2 + 2) fun x138 =>
 ift (!(x138 == ([116, 114, 117, 101] : Str)))
 (ldS Hs121 ((b1, 0).1, (b1, 0).2 + 2) fun x141 =>
 J117 ((!(x141 == ([102, 97, 108, 115, 101] : Str))), (decide (((Sl.len x125 : Int) : Int) ≤ 8))) H135)
 (J117 (false, (decide (((Sl.len x125 : Int) : Int) ≤ 8))) H135))
 (J117 (false, (decide (((Sl.len x125 : Int) : Int) ≤ 8))) H135))) H130)
 (ift (!r115)
 (ldS Hs121 ((b1, 0).1, (b1, 0).2 + 2) fun x144 =>
 ift (!(x144 == ([116, 114, 117, 101] : Str)))
 (ldS Hs121 ((b1, 0).1, (b1, 0).2 + 2) fun x147 =>
 J117 ((!(x147 == ([102, 97, 108, 115, 101] : Str))), (decide (((Sl.len x125 : Int) : Int) ≤ 8))) H130)
 (J117 (false, (decide (((Sl.len x125 : Int) : Int) ≤ 8))) H130))
 (J117 (false, (decide (((Sl.len x125 : Int) : Int) ≤ 8))) H130)))
 (J117 (false, (decide (((Sl.len x125 : Int) : Int) ≤ 8))) H130)) H116)
 (J117 (false, (decide (((Sl.len x125 : Int) : Int) ≤ 8))) H116))) H18)
 (J19 (false, true) H18))))))))
 (fun J13 => ift b5
 (ldL H11 ((b1, 0).1, (b1, 0).2 + 3) fun x16 =>
 J13 (((Sl.len x16 : Int) : Int) == 0) H11)
 (J13 false H11)))
 (fun J6 => ift ((x3 : Int) == 0)
 (ldS H2 ((b1, 0).1, (b1, 0).2 + 2) fun x9 =>
 J6 (x9 == ([] : Str)) H2)
 (J6 false H2))) H
theorem Qef (C p_v K H) (h : Qci C p_v K H) : Qv C p_v K H := by
 refine Ye Tryz.func94 rfl Tryz.ntmps94 [(0, .agg (Qa.c p_v).toArray)] (Zo (GL.box (v := .agg (Qa.c p_v).toArray) (cs := Qa.c p_v) h trivial rfl rfl rfl ?_))
 intro b1 H2 h
 refine Za (Za (GL.nil (Zo (Zf (Yl h fun x3 h => ?_)))))
 refine Zi (.bool ((x3 : Int) == 0)) (Zm ?_)
 obtain ⟨J6, h, hR7⟩ := h
 refine GL.cut (α := Bool) 4 J6 (fun b5 => [(20, .bool b5), (1, pv (some (b1, 0)))]) ?_ ?_
 rcases h.em with ⟨u8, h⟩ | ⟨u8, h⟩
 refine Zu u8 Yf ?_
 obtain ⟨x9, v10, h⟩ := h
 refine Zu u8 (Yo v10) (Zu u8 (OV.sbin (a := x9) (b := ([] : Str)) (v := .bool (x9 == ([] : Str))) rfl rfl rfl) (Zt u8 ?_))
 exact Yj I3 (x9 == ([] : Str)) h
 refine Zk u8 (Zk u8 (Zk u8 (Zn u8 ?_)))
 exact Yj I3 false h
 intro b5 H11 h
 replace h := hR7 b5 H11 h
 refine Zm ?_
 obtain ⟨J13, h, hR14⟩ := h
 refine GL.cut (α := Bool) 5 J13 (fun b12 => [(26, .bool b12), (1, pv (some (b1, 0)))]) ?_ ?_
 rcases h.em with ⟨u15, h⟩ | ⟨u15, h⟩
 refine Zu u15 Yf ?_
 obtain ⟨x16, v17, h⟩ := h
 refine Zu u15 (Yo v17) (Zu u15 (OV.lenSl rfl rfl) (Zu u15 (OV.ibin (v := .bool (((Sl.len x16 : Int) : Int) == 0)) rfl rfl rfl) (Zt u15 ?_)))
 exact Yj I3 (((Sl.len x16 : Int) : Int) == 0) h
 refine Zk u15 (Zk u15 (Zk u15 (Zk u15 (Zn u15 ?_))))
 exact Yj I3 false h
 intro b12 H18 h
 replace h := hR14 b12 H18 h
 refine Za (Za (GL.nil ?_))
 obtain ⟨J19, h, hR22⟩ := h
 refine GC.join (α := Bool × Bool) J19 (fun x20 => [(2, .bool x20.1), (3, .bool x20.2), (1, pv (some (b1, 0)))]) ?_ ?_
 refine Zo (Zf (Yl h fun x23 h => ?_))
 refine GL.nil (GC.block (Zo (Zi (.bool ((x23 : Int) == 1)) (Za (GL.nil (Yd h (fun u25 h => ?_) fun u25 h => ?_))))))
 refine GC.region (Zf (Yl h fun x26 h => ?_))
 refine Zi (.bool ((x26 : Int) == 0)) (Zm ?_)
 obtain ⟨J29, h, hR30⟩ := h
 refine GL.cut (α := Bool) 4 J29 (fun b28 => [(38, .bool b28), (1, pv (some (b1, 0))), (3, .bool true)]) ?_ ?_
 rcases h.em with ⟨u31, h⟩ | ⟨u31, h⟩
 refine Zk u31 (Zk u31 (Zk u31 (Zt u31 ?_)))
 exact Yj I3 true h
 refine Zu u31 Yf ?_
 obtain ⟨x32, v33, h⟩ := h
 refine Zu u31 (Yo v33) (Zu u31 (OV.ibin (v := .bool ((x32 : Int) == 1)) rfl rfl rfl) (Zn u31 ?_))
 exact Yj I3 ((x32 : Int) == 1) h
 intro b28 H34 h
 replace h := hR30 b28 H34 h
 refine Zm ?_
 obtain ⟨J36, h, hR37⟩ := h
 refine GL.cut (α := Bool) 4 J36 (fun b35 => [(43, .bool b35), (1, pv (some (b1, 0))), (3, .bool true)]) ?_ ?_
 rcases h.em with ⟨u38, h⟩ | ⟨u38, h⟩
 refine Zu u38 Yf ?_
 obtain ⟨x39, v40, h⟩ := h
 refine Zu u38 (Yo v40) (Zu u38 (OV.sbin (a := x39) (b := ([] : Str)) (v := .bool (x39 == ([] : Str))) rfl rfl rfl) (Zt u38 ?_))
 exact Yj I3 (x39 == ([] : Str)) h
 refine Zk u38 (Zk u38 (Zk u38 (Zn u38 ?_)))
 exact Yj I3 false h
 intro b35 H41 h
 replace h := hR37 b35 H41 h
 refine Zm ?_
 obtain ⟨J43, h, hR44⟩ := h
 refine GL.cut (α := Bool) 5 J43 (fun b42 => [(49, .bool b42), (1, pv (some (b1, 0))), (3, .bool true)]) ?_ ?_
 rcases h.em with ⟨u45, h⟩ | ⟨u45, h⟩
 refine Zu u45 Yf ?_
 obtain ⟨x46, v47, h⟩ := h
 refine Zu u45 (Yo v47) (Zu u45 (OV.lenSl rfl rfl) (Zu u45 (OV.ibin (v := .bool (((Sl.len x46 : Int) : Int) == 0)) rfl rfl rfl) (Zt u45 ?_)))
 exact Yj I3 (((Sl.len x46 : Int) : Int) == 0) h
 refine Zk u45 (Zk u45 (Zk u45 (Zk u45 (Zn u45 ?_))))
 exact Yj I3 false h
 intro b42 H48 h
 replace h := hR44 b42 H48 h
 refine Za ?_
 exact Yj I3 (b42, true) h
 refine Zo (Zi (.bool ((x23 : Int) == 2)) (Za (GL.nil (Yd h (fun u49 h => ?_) fun u49 h => ?_))))
 refine GC.region (Zf (Yl h fun x50 h => ?_))
 refine Zv (OV.sbin (a := x50) (b := ([] : Str)) (v := .bool (x50 == ([] : Str))) rfl rfl rfl) (Zm ?_)
 obtain ⟨J53, h, hR54⟩ := h
 refine GL.cut (α := Bool) 5 J53 (fun b52 => [(60, .bool b52), (1, pv (some (b1, 0))), (3, .bool true)]) ?_ ?_
 rcases h.em with ⟨u55, h⟩ | ⟨u55, h⟩
 refine Zu u55 Yf ?_
 obtain ⟨x56, v57, h⟩ := h
 refine Zu u55 (Yo v57) (Zu u55 (OV.lenSl rfl rfl) (Zu u55 (OV.ibin (v := .bool (((Sl.len x56 : Int) : Int) == 0)) rfl rfl rfl) (Zt u55 ?_)))
 exact Yj I3 (((Sl.len x56 : Int) : Int) == 0) h
 refine Zk u55 (Zk u55 (Zk u55 (Zk u55 (Zn u55 ?_))))
 exact Yj I3 false h
 intro b52 H58 h
 replace h := hR54 b52 H58 h
 refine Za ?_
 exact Yj I3 (b52, true) h
 refine Zo (Zi (.bool ((x23 : Int) == 3)) (Za (GL.nil (Yd h (fun u59 h => ?_) fun u59 h => ?_))))
 refine Zo (Zf (Yl h fun x60 h => ?_))
 refine Zc h QfB ?_
 rintro _ H64 ⟨r62, r63, rfl, h⟩
 refine Zm (Yv (.int .i64 r62) rfl rfl (Yv (.bool r63) rfl rfl (Za (Za (GL.nil (GC.region (Zm (Zm ?_))))))))
 obtain ⟨J66, h, hR67⟩ := h
 refine GL.cut (α := Bool) 4 J66 (fun b65 => [(74, .bool b65), (1, pv (some (b1, 0))), (4, .int .i64 r62)]) ?_ ?_
 rcases h.em with ⟨u68, h⟩ | ⟨u68, h⟩
 refine Zu u68 Yf ?_
 obtain ⟨x69, v70, h⟩ := h
 refine Zu u68 (Yo v70) (Zu u68 (OV.ibin (v := .bool ((x69 : Int) == 0)) rfl rfl rfl) (Zt u68 ?_))
 exact Yj I3 ((x69 : Int) == 0) h
 refine Zk u68 (Zk u68 (Zk u68 (Zn u68 ?_)))
 exact Yj I3 false h
 intro b65 H71 h
 replace h := hR67 b65 H71 h
 refine Zm ?_
 obtain ⟨J73, h, hR74⟩ := h
 refine GL.cut (α := Bool) 5 J73 (fun b72 => [(80, .bool b72), (1, pv (some (b1, 0))), (4, .int .i64 r62)]) ?_ ?_
 rcases h.em with ⟨u75, h⟩ | ⟨u75, h⟩
 refine Zu u75 Yf ?_
 obtain ⟨x76, v77, h⟩ := h
 refine Zu u75 (Yo v77) (Zu u75 (OV.lenSl rfl rfl) (Zu u75 (OV.ibin (v := .bool (((Sl.len x76 : Int) : Int) == 0)) rfl rfl rfl) (Zt u75 ?_)))
 exact Yj I3 (((Sl.len x76 : Int) : Int) == 0) h
 refine Zk u75 (Zk u75 (Zk u75 (Zk u75 (Zn u75 ?_))))
 exact Yj I3 false h
 intro b72 H78 h
 replace h := hR74 b72 H78 h
 refine Zm (Zi (.bool (decide ((r62 : Int) ≤ 200))) (Za (Za ?_)))
 exact Yj I3 (b72, (decide ((r62 : Int) ≤ 200))) h
 refine Zo (Zi (.bool ((x23 : Int) == 4)) (Za (GL.nil (Yd h (fun u79 h => ?_) fun u79 h => ?_))))
 obtain ⟨J80, h, hR83⟩ := h
 refine GC.meet (α := Bool × Bool) J80 (fun x81 => [(2, .bool x81.1), (3, .bool x81.2), (1, pv (some (b1, 0)))]) ?_ ?_
 obtain ⟨Hs84, hle85, h⟩ := h
 refine GC.any (Hs := Hs84) (by kernel_rfl) hle85 (Zp 0 rfl Yf ?_)
 obtain ⟨x86, v87, h⟩ := h
 refine Zp 1 rfl (Yo v87) (Zp 2 rfl (OV.ibin (v := .bool ((x86 : Int) == 0)) rfl rfl rfl) (Zp 3 rfl Ym (Zp 9 rfl Yf ?_)))
 obtain ⟨x88, v89, h⟩ := h
 refine Zp 10 rfl (Yo v89) (Zp 11 rfl (OV.lenStr rfl rfl) (Zp 12 rfl (OV.ibin (v := .bool (decide (((List.length x88 : Int) : Int) ≤ 4096))) rfl rfl rfl) ?_))
 rcases h.em with ⟨u90, h⟩ | ⟨u90, h⟩
 refine Zg 4 rfl (Yt u90) Yf ?_
 obtain ⟨x91, v92, h⟩ := h
 refine Zg 5 rfl (Yt u90) (Yo v92) (Zg 6 rfl (Yt u90) (OV.lenSl rfl rfl) (Zg 7 rfl (Yt u90) (OV.ibin (v := .bool (((Sl.len x91 : Int) : Int) == 0)) rfl rfl rfl) (Zp 8 rfl (OV.pickT rfl u90 rfl) (Zp 13 rfl Ya (Zp 14 rfl Ya (GA.done (by kernel_rfl) ?_))))))
 exact Yj I3 ((((Sl.len x91 : Int) : Int) == 0), (decide (((List.length x88 : Int) : Int) ≤ 4096))) h
 refine Zj 4 rfl (Yw u90) (Zj 5 rfl (Yw u90) (Zj 6 rfl (Yw u90) (Zj 7 rfl (Yw u90) (Zp 8 rfl (OV.pickF rfl u90 rfl) (Zp 13 rfl Ya (Zp 14 rfl Ya (GA.done (by kernel_rfl) ?_)))))))
 exact Yj I3 (false, (decide (((List.length x88 : Int) : Int) ≤ 4096))) h
 intro x81 H82 h
 replace h := hR83 x81 H82 h
 exact Yj I3 (x81.1, x81.2) h
 refine Zo (Zi (.bool ((x23 : Int) == 5)) (Za (GL.nil (Yd h (fun u93 h => ?_) fun u93 h => ?_))))
 obtain ⟨J94, h, hR97⟩ := h
 refine GC.meet (α := Bool × Bool) J94 (fun x95 => [(2, .bool x95.1), (3, .bool x95.2), (1, pv (some (b1, 0)))]) ?_ ?_
 obtain ⟨Hs98, hle99, h⟩ := h
 refine GC.any (Hs := Hs98) (by kernel_rfl) hle99 (Zp 0 rfl Yf ?_)
 obtain ⟨x100, v101, h⟩ := h
 refine Zp 1 rfl (Yo v101) (Zp 2 rfl (OV.ibin (v := .bool ((x100 : Int) == 0)) rfl rfl rfl) (Zp 3 rfl Ym (Zp 14 rfl Yf ?_)))
 obtain ⟨x102, v103, h⟩ := h
 refine Zp 15 rfl (Yo v103) (Zp 16 rfl (OV.lenSl rfl rfl) (Zp 17 rfl (OV.ibin (v := .bool (decide (((Sl.len x102 : Int) : Int) ≤ 16))) rfl rfl rfl) ?_))
 rcases h.em with ⟨u104, h⟩ | ⟨u104, h⟩
 refine Zg 4 rfl (Yt u104) Yf ?_
 obtain ⟨x105, v106, h⟩ := h
 refine Zg 5 rfl (Yt u104) (Yo v106) (Zg 6 rfl (Yt u104) (OV.sbin (a := x105) (b := ([] : Str)) (v := .bool (x105 == ([] : Str))) rfl rfl rfl) (Zp 7 rfl (OV.pickT rfl u104 rfl) (Zp 8 rfl Ym ?_)))
 rcases h.em with ⟨u107, h⟩ | ⟨u107, h⟩
 refine Zg 9 rfl (Yt u107) Yf ?_
 obtain ⟨x108, v109, h⟩ := h
 refine Zg 10 rfl (Yt u107) (Yo v109) (Zg 11 rfl (Yt u107) (OV.lenSl rfl rfl) (Zg 12 rfl (Yt u107) (OV.ibin (v := .bool (((Sl.len x108 : Int) : Int) != 1)) rfl rfl rfl) (Zp 13 rfl (OV.pickT rfl u107 rfl) (Zp 18 rfl Ya (Zp 19 rfl Ya (GA.done (by kernel_rfl) ?_))))))
 exact Yj I3 ((((Sl.len x108 : Int) : Int) != 1), (decide (((Sl.len x102 : Int) : Int) ≤ 16))) h
 refine Zj 9 rfl (Yw u107) (Zj 10 rfl (Yw u107) (Zj 11 rfl (Yw u107) (Zj 12 rfl (Yw u107) (Zp 13 rfl (OV.pickF rfl u107 rfl) (Zp 18 rfl Ya (Zp 19 rfl Ya (GA.done (by kernel_rfl) ?_)))))))
 exact Yj I3 (false, (decide (((Sl.len x102 : Int) : Int) ≤ 16))) h
 refine Zj 4 rfl (Yw u104) (Zj 5 rfl (Yw u104) (Zj 6 rfl (Yw u104) (Zp 7 rfl (OV.pickF rfl u104 rfl) (Zp 8 rfl Ym (Zj 9 rfl (Yw rfl) (Zj 10 rfl (Yw rfl) (Zj 11 rfl (Yw rfl) (Zj 12 rfl (Yw rfl) (Zp 13 rfl (OV.pickF rfl rfl rfl) (Zp 18 rfl Ya (Zp 19 rfl Ya (GA.done (by kernel_rfl) ?_))))))))))))
 exact Yj I3 (false, (decide (((Sl.len x102 : Int) : Int) ≤ 16))) h
 intro x95 H96 h
 replace h := hR97 x95 H96 h
 exact Yj I3 (x95.1, x95.2) h
 refine Zo (Zi (.bool ((x23 : Int) == 6)) (Za (GL.nil (Yd h (fun u110 h => ?_) fun u110 h => ?_))))
 refine Zo (Zf (Yl h fun x111 h => ?_))
 refine Zc h Qf1 ?_
 rintro _ H116 ⟨r113, r114, r115, rfl, h⟩
 refine Zm (Yv (sv r113) rfl rfl (Yv (sv r114) rfl rfl (Yv (.bool r115) rfl rfl (Za (Za (Za (GL.nil ?_)))))))
 obtain ⟨J117, h, hR120⟩ := h
 refine GC.meet (α := Bool × Bool) J117 (fun x118 => [(2, .bool x118.1), (3, .bool x118.2), (1, pv (some (b1, 0)))]) ?_ ?_
 obtain ⟨Hs121, hle122, h⟩ := h
 refine GC.any (Hs := Hs121) (by kernel_rfl) hle122 (Zp 0 rfl Yf ?_)
 obtain ⟨x123, v124, h⟩ := h
 refine Zp 1 rfl (Yo v124) (Zp 2 rfl (OV.ibin (v := .bool ((x123 : Int) == 0)) rfl rfl rfl) (Zp 3 rfl Ym (Zp 28 rfl Yf ?_)))
 obtain ⟨x125, v126, h⟩ := h
 refine Zp 29 rfl (Yo v126) (Zp 30 rfl (OV.lenSl rfl rfl) (Zp 31 rfl (OV.ibin (v := .bool (decide (((Sl.len x125 : Int) : Int) ≤ 8))) rfl rfl rfl) ?_))
 rcases h.em with ⟨u127, h⟩ | ⟨u127, h⟩
 refine Zg 4 rfl (Yt u127) Ym (GA.eff 5 rfl (by kernel_rfl) (GL.call h (Yt u127) rfl Qen (vs := [sv r113]) rfl ?_))
 rintro _ H130 ⟨r129, rfl, h⟩
 obtain ⟨hle128, h⟩ := h
 refine GA.back hle128 (Zp 6 rfl (OV.pickT rfl u127 rfl) (Zp 7 rfl Ym ?_))
 rcases h.em with ⟨u131, h⟩ | ⟨u131, h⟩
 refine Zg 8 rfl (Yt u131) Ym (Zg 9 rfl (Yt u131) Ym ?_)
 rcases h.em with ⟨u132, h⟩ | ⟨u132, h⟩
 refine Zg 10 rfl (Yt u132) Ym (GA.eff 11 rfl (by kernel_rfl) (GL.call h (Yt u132) rfl Qen (vs := [sv r114]) rfl ?_))
 rintro _ H135 ⟨r134, rfl, h⟩
 obtain ⟨hle133, h⟩ := h
 refine GA.back hle133 (Zg 12 rfl (Yt u131) (OV.pickT rfl u132 rfl) (Zg 13 rfl (Yt u131) Ym ?_))
 rcases h.em with ⟨u136, h⟩ | ⟨u136, h⟩
 refine Zj 14 rfl (Yw u136) (Zj 15 rfl (Yw u136) (Zj 16 rfl (Yw u136) (Zj 17 rfl ⟨_, rfl, .inr rfl⟩ (Zj 18 rfl ⟨_, rfl, .inr rfl⟩ (Zj 19 rfl ⟨_, rfl, .inr rfl⟩ (Zj 20 rfl (Yw u136) (Zj 21 rfl (Yw u136) (Zj 22 rfl ⟨_, rfl, .inr rfl⟩ (Zj 23 rfl ⟨_, rfl, .inr rfl⟩ (Zj 24 rfl ⟨_, rfl, .inr rfl⟩ (Zj 25 rfl (Yw u136) (Zg 26 rfl (Yt u131) (OV.pickT rfl u136 rfl) (Zp 27 rfl (OV.pickT rfl u131 rfl) (Zp 32 rfl Ya (Zp 33 rfl Ya (GA.done (by kernel_rfl) ?_))))))))))))))))
 exact Yj I3 (true, (decide (((Sl.len x125 : Int) : Int) ≤ 8))) h
 refine Zg 14 rfl (Yt u136) Ym (Zg 15 rfl (Yt u136) (OV.not rfl) (Zg 16 rfl (Yt u136) Ym ?_))
 rcases h.em with ⟨u137, h⟩ | ⟨u137, h⟩
 refine Zg 17 rfl (Yt u137) Yf ?_
 obtain ⟨x138, v139, h⟩ := h
 refine Zg 18 rfl (Yt u137) (Yo v139) (Zg 19 rfl (Yt u137) (OV.sbin (a := x138) (b := ([116, 114, 117, 101] : Str)) (v := .bool (!(x138 == ([116, 114, 117, 101] : Str)))) rfl rfl rfl) (Zg 20 rfl (Yt u136) (OV.pickT rfl u137 rfl) (Zg 21 rfl (Yt u136) Ym ?_)))
 rcases h.em with ⟨u140, h⟩ | ⟨u140, h⟩
 refine Zg 22 rfl (Yt u140) Yf ?_
 obtain ⟨x141, v142, h⟩ := h
 refine Zg 23 rfl (Yt u140) (Yo v142) (Zg 24 rfl (Yt u140) (OV.sbin (a := x141) (b := ([102, 97, 108, 115, 101] : Str)) (v := .bool (!(x141 == ([102, 97, 108, 115, 101] : Str)))) rfl rfl rfl) (Zg 25 rfl (Yt u136) (OV.pickT rfl u140 rfl) (Zg 26 rfl (Yt u131) (OV.pickF rfl u136 rfl) (Zp 27 rfl (OV.pickT rfl u131 rfl) (Zp 32 rfl Ya (Zp 33 rfl Ya (GA.done (by kernel_rfl) ?_)))))))
 exact Yj I3 ((!(x141 == ([102, 97, 108, 115, 101] : Str))), (decide (((Sl.len x125 : Int) : Int) ≤ 8))) h
 refine Zj 22 rfl (Yw u140) (Zj 23 rfl (Yw u140) (Zj 24 rfl (Yw u140) (Zg 25 rfl (Yt u136) (OV.pickF rfl u140 rfl) (Zg 26 rfl (Yt u131) (OV.pickF rfl u136 rfl) (Zp 27 rfl (OV.pickT rfl u131 rfl) (Zp 32 rfl Ya (Zp 33 rfl Ya (GA.done (by kernel_rfl) ?_))))))))
 exact Yj I3 (false, (decide (((Sl.len x125 : Int) : Int) ≤ 8))) h
 refine Zj 17 rfl (Yw u137) (Zj 18 rfl (Yw u137) (Zj 19 rfl (Yw u137) (Zg 20 rfl (Yt u136) (OV.pickF rfl u137 rfl) (Zg 21 rfl (Yt u136) Ym (Zj 22 rfl (Yw rfl) (Zj 23 rfl (Yw rfl) (Zj 24 rfl (Yw rfl) (Zg 25 rfl (Yt u136) (OV.pickF rfl rfl rfl) (Zg 26 rfl (Yt u131) (OV.pickF rfl u136 rfl) (Zp 27 rfl (OV.pickT rfl u131 rfl) (Zp 32 rfl Ya (Zp 33 rfl Ya (GA.done (by kernel_rfl) ?_)))))))))))))
 exact Yj I3 (false, (decide (((Sl.len x125 : Int) : Int) ≤ 8))) h
 refine Zj 10 rfl (Yw u132) (Zj 11 rfl (Yw u132) (Zg 12 rfl (Yt u131) (OV.pickF rfl u132 rfl) (Zg 13 rfl (Yt u131) Ym (Zg 14 rfl (Yt rfl) Ym (Zg 15 rfl (Yt rfl) (OV.not rfl) (Zg 16 rfl (Yt rfl) Ym ?_))))))
 rcases h.em with ⟨u143, h⟩ | ⟨u143, h⟩
 refine Zg 17 rfl (Yt u143) Yf ?_
 obtain ⟨x144, v145, h⟩ := h
 refine Zg 18 rfl (Yt u143) (Yo v145) (Zg 19 rfl (Yt u143) (OV.sbin (a := x144) (b := ([116, 114, 117, 101] : Str)) (v := .bool (!(x144 == ([116, 114, 117, 101] : Str)))) rfl rfl rfl) (Zg 20 rfl (Yt rfl) (OV.pickT rfl u143 rfl) (Zg 21 rfl (Yt rfl) Ym ?_)))
 rcases h.em with ⟨u146, h⟩ | ⟨u146, h⟩
 refine Zg 22 rfl (Yt u146) Yf ?_
 obtain ⟨x147, v148, h⟩ := h
 refine Zg 23 rfl (Yt u146) (Yo v148) (Zg 24 rfl (Yt u146) (OV.sbin (a := x147) (b := ([102, 97, 108, 115, 101] : Str)) (v := .bool (!(x147 == ([102, 97, 108, 115, 101] : Str)))) rfl rfl rfl) (Zg 25 rfl (Yt rfl) (OV.pickT rfl u146 rfl) (Zg 26 rfl (Yt u131) (OV.pickF rfl rfl rfl) (Zp 27 rfl (OV.pickT rfl u131 rfl) (Zp 32 rfl Ya (Zp 33 rfl Ya (GA.done (by kernel_rfl) ?_)))))))
 exact Yj I3 ((!(x147 == ([102, 97, 108, 115, 101] : Str))), (decide (((Sl.len x125 : Int) : Int) ≤ 8))) h
 refine Zj 22 rfl (Yw u146) (Zj 23 rfl (Yw u146) (Zj 24 rfl (Yw u146) (Zg 25 rfl (Yt rfl) (OV.pickF rfl u146 rfl) (Zg 26 rfl (Yt u131) (OV.pickF rfl rfl rfl) (Zp 27 rfl (OV.pickT rfl u131 rfl) (Zp 32 rfl Ya (Zp 33 rfl Ya (GA.done (by kernel_rfl) ?_))))))))
 exact Yj I3 (false, (decide (((Sl.len x125 : Int) : Int) ≤ 8))) h
 refine Zj 17 rfl (Yw u143) (Zj 18 rfl (Yw u143) (Zj 19 rfl (Yw u143) (Zg 20 rfl (Yt rfl) (OV.pickF rfl u143 rfl) (Zg 21 rfl (Yt rfl) Ym (Zj 22 rfl (Yw rfl) (Zj 23 rfl (Yw rfl) (Zj 24 rfl (Yw rfl) (Zg 25 rfl (Yt rfl) (OV.pickF rfl rfl rfl) (Zg 26 rfl (Yt u131) (OV.pickF rfl rfl rfl) (Zp 27 rfl (OV.pickT rfl u131 rfl) (Zp 32 rfl Ya (Zp 33 rfl Ya (GA.done (by kernel_rfl) ?_)))))))))))))
 exact Yj I3 (false, (decide (((Sl.len x125 : Int) : Int) ≤ 8))) h
 refine Zj 8 rfl (Yw u131) (Zj 9 rfl (Yw u131) (Zj 10 rfl ⟨_, rfl, .inr rfl⟩ (Zj 11 rfl ⟨_, rfl, .inr rfl⟩ (Zj 12 rfl (Yw u131) (Zj 13 rfl (Yw u131) (Zj 14 rfl ⟨_, rfl, .inr rfl⟩ (Zj 15 rfl ⟨_, rfl, .inr rfl⟩ (Zj 16 rfl ⟨_, rfl, .inr rfl⟩ (Zj 17 rfl ⟨_, rfl, .inr rfl⟩ (Zj 18 rfl ⟨_, rfl, .inr rfl⟩ (Zj 19 rfl ⟨_, rfl, .inr rfl⟩ (Zj 20 rfl ⟨_, rfl, .inr rfl⟩ (Zj 21 rfl ⟨_, rfl, .inr rfl⟩ (Zj 22 rfl ⟨_, rfl, .inr rfl⟩ (Zj 23 rfl ⟨_, rfl, .inr rfl⟩ (Zj 24 rfl ⟨_, rfl, .inr rfl⟩ (Zj 25 rfl ⟨_, rfl, .inr rfl⟩ (Zj 26 rfl (Yw u131) (Zp 27 rfl (OV.pickF rfl u131 rfl) (Zp 32 rfl Ya (Zp 33 rfl Ya (GA.done (by kernel_rfl) ?_))))))))))))))))))))))
 exact Yj I3 (false, (decide (((Sl.len x125 : Int) : Int) ≤ 8))) h
 refine Zj 4 rfl (Yw u127) (Zj 5 rfl (Yw u127) (Zp 6 rfl (OV.pickF rfl u127 rfl) (Zp 7 rfl Ym (Zj 8 rfl (Yw rfl) (Zj 9 rfl (Yw rfl) (Zj 10 rfl ⟨_, rfl, .inr rfl⟩ (Zj 11 rfl ⟨_, rfl, .inr rfl⟩ (Zj 12 rfl (Yw rfl) (Zj 13 rfl (Yw rfl) (Zj 14 rfl ⟨_, rfl, .inr rfl⟩ (Zj 15 rfl ⟨_, rfl, .inr rfl⟩ (Zj 16 rfl ⟨_, rfl, .inr rfl⟩ (Zj 17 rfl ⟨_, rfl, .inr rfl⟩ (Zj 18 rfl ⟨_, rfl, .inr rfl⟩ (Zj 19 rfl ⟨_, rfl, .inr rfl⟩ (Zj 20 rfl ⟨_, rfl, .inr rfl⟩ (Zj 21 rfl ⟨_, rfl, .inr rfl⟩ (Zj 22 rfl ⟨_, rfl, .inr rfl⟩ (Zj 23 rfl ⟨_, rfl, .inr rfl⟩ (Zj 24 rfl ⟨_, rfl, .inr rfl⟩ (Zj 25 rfl ⟨_, rfl, .inr rfl⟩ (Zj 26 rfl (Yw rfl) (Zp 27 rfl (OV.pickF rfl rfl rfl) (Zp 32 rfl Ya (Zp 33 rfl Ya (GA.done (by kernel_rfl) ?_))))))))))))))))))))))))))
 exact Yj I3 (false, (decide (((Sl.len x125 : Int) : Int) ≤ 8))) h
 intro x118 H119 h
 replace h := hR120 x118 H119 h
 exact Yj I3 (x118.1, x118.2) h
 refine GC.region (Za ?_)
 exact Yj I3 (false, true) h
 intro x20 H21 h
 replace h := hR22 x20 H21 h
 refine GC.seq (Zo (Zf (Yl h fun x149 h => ?_)))
 refine Zq (Zm (GL.nil (GC.block (Yp h (fun x151 => [(2, .bool x151.1), (3, .bool x151.2.1), (162, .int .i64 x151.2.2), (160, slv x149), (161, .int .i64 (Sl.len x149 : Int))]) ?_))))
 intro x151 H153 J152 h
 refine Zo (Zi (.bool (decide ((x151.2.2 : Int) < (Sl.len x149 : Int)))) (GL.nil (GC.seq (Yd h (fun u154 h => ?_) fun u154 h => ?_))))
 refine GC.skip (GC.seq (GC.block (Zo (Yx h fun p155 h => ?_))))
 obtain ⟨x160, v161, h⟩ := h
 refine Zv (OV.loadT rfl rfl rfl v161) (GL.alloc (cs := Qa.c Qa.zero) h trivial rfl rfl rfl ?_)
 intro b162 H163 h
 refine GL.storeT (p := (b162, 0)) (vs := Qa.c x160) h trivial rfl rfl rfl rfl ?_
 intro H164 h
 refine GL.nil (Zo ?_)
 obtain ⟨x165, v166, h⟩ := h
 refine Zv (OV.loadT rfl rfl rfl v166) (Zc h Qcd ?_)
 rintro _ H169 ⟨r167, r168, rfl, h⟩
 refine Zm (Yv (.bool r167) rfl rfl (Yv (.bool r168) rfl rfl (Za (Za (GL.nil (GC.region (Zm (Zm (GL.cut0 2 [(174, .bool (x151.1 && r167)), (3, .bool x151.2.1), (12, .bool r168), (160, slv x149), (161, .int .i64 (Sl.len x149 : Int)), (162, .int .i64 x151.2.2)] ?_ ?_)))))))))
 rcases Bool.eq_false_or_eq_true x151.1 with u170 | u170
 refine Zu u170 Ym (Zt u170 ?_)
 exact GL.jump0 (fun _ _ h => h) () rfl ⟨(by rw [u170]; rfl), rfl, rfl, rfl, rfl, rfl, trivial⟩
 refine Zk u170 (Zn u170 ?_)
 exact GL.jump0 (fun _ _ h => h) () rfl ⟨(by rw [u170]; rfl), rfl, rfl, rfl, rfl, rfl, trivial⟩
 refine Zm (Zm (GL.cut0 2 [(178, .bool (x151.2.1 && r168)), (160, slv x149), (161, .int .i64 (Sl.len x149 : Int)), (162, .int .i64 x151.2.2), (174, .bool (x151.1 && r167))] ?_ ?_))
 rcases Bool.eq_false_or_eq_true x151.2.1 with u171 | u171
 refine Zu u171 Ym (Zt u171 ?_)
 exact GL.jump0 (fun _ _ h => h) () rfl ⟨(by rw [u171]; rfl), rfl, rfl, rfl, rfl, trivial⟩
 refine Zk u171 (Zn u171 ?_)
 exact GL.jump0 (fun _ _ h => h) () rfl ⟨(by rw [u171]; rfl), rfl, rfl, rfl, rfl, trivial⟩
 refine Za (Za (GL.nil_to (fun _ _ h => h) (GC.region (Zi (.int .i64 (w .i64 (x151.2.2 + 1))) (Zm ?_)))))
 exact Yj I3 ((x151.1 && r167), (x151.2.1 && r168), (w .i64 (x151.2.2 + 1))) h
 refine GC.exit_to (fun _ _ h => h) (Zo (Zm (Zm (Za (Za (GL.nil ?_))))))
 exact Y2 I3 ⟨x151.1, x151.2.1, rfl, h⟩
def Qdu (C : Ctx) (p_l : Sl) (v0 : Nat × Nat) (v1 : Nat × Nat) (K : Heap → Prop) (H : Heap) : Prop :=
 Qf C (some v0) 40 (fun r1 H2 =>
 lp (α := Int) 0 H2 (fun x3 J4 H5 =>
 ift (decide ((x3 : Int) < (Sl.len p_l : Int)))
 (ixa p_l x3 fun p7 =>
 ldT H5 Qa.c (p7.1, p7.2 + (x3 : Int).toNat * 4) fun x12 =>
 nw (Qa.c Qa.zero) (fun b14 H15 =>
 stT (b14, 0) (Qa.c x12) (fun H16 =>
 jn (α := Unit) (fun x18 H19 =>
 ldV H19 v1 fun x25 =>
 ldT H19 Qa.c (b14, 0) fun x27 =>
 callU Tryz.prog C x25 [.agg (Qa.c x27).toArray] H19 (fun v H29 => v = .tuple #[] ∧
 J4 (w .i64 (x3 + 1)) H29))
 (fun J17 => ift (decide ((x3 : Int) > 0))
 (Qh C (some v0) [44, 32] (fun r22 r23 H24 =>
 J17 () H24) H16)
 (J17 () H16))) H15) H5)
 (Qf C (some v0) 41 (fun r30 H31 =>
 K H31) H5))) H
theorem Qfk (C p_l v0 v1 K H) (h : Qdu C p_l v0 v1 K H) : Qcm C p_l v0 v1 K H := by
 refine Ye Tryz.func95 rfl Tryz.ntmps95 [(0, slv p_l), (1, pv (some v0)), (2, pv (some v1))] (Zo (Zc h Qj ?_))
 rintro _ H2 ⟨r1, rfl, h⟩
 refine GL.nil (GC.seq (Zo (Zm (Zq (Zm (GL.nil (GC.block (Yp h (fun x3 => [(9, .int .i64 x3), (1, pv (some v0)), (2, pv (some v1)), (7, slv p_l), (8, .int .i64 (Sl.len p_l : Int))]) ?_))))))))
 intro x3 H5 J4 h
 refine Zo (Zi (.bool (decide ((x3 : Int) < (Sl.len p_l : Int)))) (GL.nil (GC.seq (Yd h (fun u6 h => ?_) fun u6 h => ?_))))
 refine GC.skip (GC.seq (GC.block (Zo (Zm (Yx h fun p7 h => ?_)))))
 obtain ⟨x12, hr13, h⟩ := h
 refine Zv (OV.loadT rfl rfl rfl hr13) (GL.alloc (cs := Qa.c Qa.zero) h trivial rfl rfl rfl ?_)
 intro b14 H15 h
 refine Za (GL.storeT (p := (b14, 0)) (vs := Qa.c x12) h trivial rfl rfl rfl rfl ?_)
 intro H16 h
 refine GL.nil ?_
 obtain ⟨J17, h, hR20⟩ := h
 refine GC.join (α := Unit) J17 (fun _ => [(1, pv (some v0)), (2, pv (some v1)), (5, pv (some (b14, 0))), (7, slv p_l), (8, .int .i64 (Sl.len p_l : Int)), (9, .int .i64 x3)]) ?_ ?_
 refine Zo (Zm (Zi (.bool (decide ((x3 : Int) > 0))) (GL.nil (Yd h (fun u21 h => ?_) fun u21 h => ?_))))
 refine GC.region (Zc h Qk ?_)
 rintro _ H24 ⟨r22, r23, rfl, h⟩
 exact Yj I3 () h
 exact Yk I3 () h
 intro x18 H19 h
 replace h := hR20 x18 H19 h
 refine GC.region (Yl h fun x25 h => ?_)
 obtain ⟨x27, hr28, h⟩ := h
 refine Zv (OV.loadT rfl rfl rfl hr28) (GL.callU (xv := x25) (vs := [.agg (Qa.c x27).toArray]) h trivial rfl rfl rfl ?_)
 rintro _ H29 ⟨rfl, h⟩
 refine GL.nil_to (fun _ _ h => h) (GC.region (Zi (.int .i64 (w .i64 (x3 + 1))) (Zm ?_)))
 exact Yj I3 (w .i64 (x3 + 1)) h
 refine GC.exit_to (fun _ _ h => h) (GC.region (Zc h Qj ?_))
 rintro _ H31 ⟨r30, rfl, h⟩
 exact GL.ends (fun _ _ hf hs => QB rfl hf hs ⟨rfl, h⟩)
def Qax (C : Ctx) (p_b : Option (Nat × Nat)) (p_c : Int) (K : Value → Heap → Prop) (H : Heap) : Prop :=
 QD C p_b (fun H1 =>
 nck p_b fun p2 =>
 ldL H1 (p2.1, p2.2 + 1) fun x4 =>
 apdG 5 ([.int .u8 0]) 1 x4 ([.int .u8 p_c]) 1 (fun r6 H7 =>
 nck p_b fun p8 =>
 sttG (p8.1, p8.2 + 1) (slv r6) (fun H10 =>
 K .nilIface H10) H7) H1) H
theorem QbJ (C p_b p_c K H) (h : Qax C p_b p_c K H) : Qf C p_b p_c K H := by
 refine Ye Tryz.func96 rfl Tryz.ntmps96 [(0, pv p_b), (1, .int .u8 p_c)] (Zo (Za (GL.nil (Zo (Zm (Zc h Qav ?_))))))
 rintro _ H1 ⟨rfl, h⟩
 refine GL.nil (Zo (Zm (Zm ?_)))
 obtain ⟨p2, hp3, h⟩ := h
 refine Zv (OV.nilCheck (q := p_b) rfl hp3) (Zf (Yl h fun x4 h => ?_))
 refine Zm (GL.appendGLit (e := 5) (s := x4) (ys := [.int .u8 p_c]) (zc := [.int .u8 0]) (bytes := 1) h trivial rfl (fun _ => trivial) rfl (fun _ => rfl) (fun _ => rfl) (vs := [(0, .int .u8 p_c)]) rfl ⟨5, fun _ => by kernel_rfl⟩ ⟨⟨_, _, rfl, rfl, rfl, rfl, rfl, rfl⟩⟩ rfl rfl ?_)
 intro _ r6 H7 h
 obtain ⟨p8, hp9, h⟩ := h
 refine Zv (OV.nilCheck (q := p_b) rfl hp9) (Zf (GL.storeG (p := (p8.1, p8.2 + 1)) (v := slv r6) h trivial rfl rfl rfl rfl ?_))
 intro H10 h
 refine GL.nil (Zo (Za (GL.nil ?_)))
 exact Y1 I3 ⟨.nilIface, rfl, h⟩
def Qad (C : Ctx) (p_b : Option (Nat × Nat)) (p_s : Str) (K : Int → Value → Heap → Prop) (H : Heap) : Prop :=
 QD C p_b (fun H1 =>
 nck p_b fun p2 =>
 ldL H1 (p2.1, p2.2 + 1) fun x4 =>
 apdG 5 [.int .u8 0] 1 x4 (bytesV p_s) (List.length p_s) (fun r6 H7 =>
 nck p_b fun p8 =>
 sttG (p8.1, p8.2 + 1) (slv r6) (fun H10 =>
 K (List.length p_s : Int) .nilIface H10) H7) H1) H
theorem Qbq (C p_b p_s K H) (h : Qad C p_b p_s K H) : Qh C p_b p_s K H := by
 refine Ye Tryz.func97 rfl Tryz.ntmps97 [(0, pv p_b), (1, sv p_s)] (Zo (Za (Za (GL.nil (Zo (Zm (Zc h Qav ?_)))))))
 rintro _ H1 ⟨rfl, h⟩
 refine GL.nil (Zo (Zm (Zm ?_)))
 obtain ⟨p2, hp3, h⟩ := h
 refine Zv (OV.nilCheck (q := p_b) rfl hp3) (Zf (Yl h fun x4 h => ?_))
 refine Zm (GL.appendGStr (e := 5) (s := x4) (u := p_s) (bytes := 1) h trivial rfl rfl rfl ⟨⟨_, _, rfl, rfl, rfl, rfl, rfl, rfl⟩⟩ rfl ?_)
 intro r6 H7 h
 obtain ⟨p8, hp9, h⟩ := h
 refine Zv (OV.nilCheck (q := p_b) rfl hp9) (Zf (GL.storeG (p := (p8.1, p8.2 + 1)) (v := slv r6) h trivial rfl rfl rfl rfl ?_))
 intro H10 h
 refine GL.nil (Zo (Zm (Zr (Za (Za (GL.nil ?_))))))
 exact Y2 I3 ⟨(List.length p_s : Int), .nilIface, rfl, h⟩
end
end Sx
end
