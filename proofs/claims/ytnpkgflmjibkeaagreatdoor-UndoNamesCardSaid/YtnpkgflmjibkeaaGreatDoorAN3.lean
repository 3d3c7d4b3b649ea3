/-
  Texts of this family, one behind the other: ValQ, ValU, ValP1, ValP2, ValP3, ValP4, ValP5, ValR, ValW, ValX, ValC1, ValO1, SortP, SortQ, ValM, ValN1, ShowQ, BldB, ShowP, ValN2, ValH, UdQ, UdO, UdK, UdM, UdN, UdP, UdR, UdS1, UdS2, UdS3.
-/
import Derived.Test.YtnpkgflmjibkeaaGreatDoorAN2
import Derived.Lib.ItoaNum
import Derived.Lib.ItoaLen
import Derived.Shelf.SlSortCmp.Kit1
import Derived.Sort.EncStr
noncomputable section
set_option linter.unusedVariables false
set_option linter.unusedSimpArgs false
namespace Sx
open Go
inductive V where
 | mk (k n : Int) (s : Str) (l : List V)
namespace V
def k : V → Int | .mk k _ _ _ => k
def n : V → Int | .mk _ n _ _ => n
def s : V → Str | .mk _ _ s _ => s
def l : V → List V | .mk _ _ _ l => l
end V
mutual
def vsize : V → Nat
 | .mk _ _ _ l => vsizes l + 1
def vsizes : List V → Nat
 | [] => 0
 | v :: l => vsize v + vsizes l
end
theorem Qer : ∀ {l : List V} {v : V}, v ∈ l → vsize v ≤ vsizes l
 | w :: l, v, h => by
  simp only [vsizes]
  rcases List.mem_cons.1 h with rfl | h
  ·omega
  ·have := Qer h; omega
theorem Qg2 {v w : V} (h : w ∈ v.l) : vsize w < vsize v := by
 obtain ⟨k, n, s, l⟩ := v
 have := Qer (show w ∈ l from h)
 simp only [vsize]; omega
/-- by how great a value is -/
theorem V.rec_ {P : V → Prop} (h : ∀ v, (∀ w ∈ v.l, P w) → P v) (v : V) : P v := by
 have : ∀ n v, vsize v ≤ n → P v := by
  intro n
  induction n with
  | zero => intro v hv; obtain ⟨k, n, s, l⟩ := v; simp [vsize] at hv
  | succ n ih => intro v hv; exact h v fun w hw => ih w (by have := Qg2 hw; omega)
 exact this _ v (Nat.le_refl _)
mutual
def dep : V → Nat
 | .mk _ _ _ l => deps l + 1
def deps : List V → Nat
 | [] => 0
 | v :: l => max (dep v) (deps l)
end
theorem QjB (v : V) : dep v = deps v.l + 1 := by obtain ⟨k, n, s, l⟩ := v; rfl
theorem QdT : ∀ (a b : List V), deps (a ++ b) = max (deps a) (deps b)
 | [], b => by simp [deps]
 | v :: a, b => by simp only [List.cons_append, deps, QdT a b]; omega
theorem QhQ {l : List V} {i : Nat} (h : i < l.length) : deps (l.take (i + 1)) = max (deps (l.take i)) (dep l[i]) := by
 rw [List.take_add_one, List.getElem?_eq_getElem h, Option.toList_some, QdT]; simp [deps]
theorem QhP : ∀ {l : List V} {v : V}, v ∈ l → dep v ≤ deps l
 | w :: l, v, h => by
  simp only [deps]
  rcases List.mem_cons.1 h with rfl | h
  ·omega
  ·have := QhP h; omega
def lowC (c : UInt8) : Bool := decide (97 ≤ c.toNat) && decide (c.toNat ≤ 122)
def nameC (c : UInt8) : Bool := lowC c || (decide (65 ≤ c.toNat) && decide (c.toNat ≤ 90)) || (decide (48 ≤ c.toNat) && decide (c.toNat ≤ 57)) || decide (c.toNat = 95)
def nameS (s : Str) : Bool := !s.isEmpty && decide (s.length ≤ 32) && lowC (s.headD 0) && s.all nameC
def digC (c : UInt8) : Bool := decide (48 ≤ c.toNat) && decide (c.toNat ≤ 57)
def cutD : Str → Option (Str × Str)
 | [] => none
 | c :: t => if c = 46 then some ([], t) else (cutD t).map fun p => (c :: p.1, p.2)
theorem Qf3 : ∀ (a b : Str), (46 : UInt8) ∉ a → cutD (a ++ 46 :: b) = some (a, b)
 | [], b, _ => by simp [cutD]
 | c :: a, b, h => by
  have h1 : c ≠ 46 := fun e => h (by rw [e]; exact List.mem_cons_self ..)
  simp only [List.cons_append, cutD, if_neg h1, Qf3 a b fun hh => h (List.mem_cons_of_mem _ hh)]; rfl
theorem Qf5 : ∀ (a : Str), (46 : UInt8) ∉ a → cutD a = none
 | [], _ => rfl
 | c :: a, h => by
  have h1 : c ≠ 46 := fun e => h (by rw [e]; exact List.mem_cons_self ..)
  simp only [cutD, if_neg h1, Qf5 a fun hh => h (List.mem_cons_of_mem _ hh)]; rfl
theorem Qf4 : ∀ (s : Str), (46 : UInt8) ∈ s → ∃ a b, s = a ++ 46 :: b ∧ 46 ∉ a
 | c :: s, h => by
  by_cases hc : c = 46
  ·exact ⟨[], s, by rw [hc]; rfl, by simp⟩
  ·obtain ⟨a, b, h1, h2⟩ := Qf4 s (by simpa [Ne.symm hc] using h)
   exact ⟨c :: a, b, by rw [h1]; rfl, by simp [h2, Ne.symm hc]⟩
def trueS : Str := [116, 114, 117, 101]
def falseS : Str := [102, 97, 108, 115, 101]
def namesS (s : Str) : Bool := if s = trueS ∨ s = falseS then false else match cutD s with
 | some (a, b) => nameS a && nameS b
 | none => nameS s
def unmin (s : Str) : Str := if s.head? = some 45 then s.tail else s
def numS (s : Str) : Bool := !(unmin s).isEmpty && (unmin s).all digC && !(decide ((unmin s).head? = some 48) && decide (s ≠ [48]))
def digits (s : Str) : Nat := (unmin s).length
def okN (k n : Int) (s : Str) (m : Nat) : Bool :=
 if k = 1 then (n == 0 || n == 1) && s.isEmpty && decide (m = 0)
 else if k = 2 then s.isEmpty && decide (m = 0)
 else if k = 3 then numS s && n == 0 && decide (m = 0)
 else if k = 4 then n == 0 && decide (m = 0)
 else if k = 5 then n == 0 && s.isEmpty && decide (m ≠ 1)
 else if k = 6 then n == 0 && namesS s
 else false
def fitN (k : Int) (s : Str) (m : Nat) : Bool :=
 if k = 3 then decide (digits s ≤ 200)
 else if k = 4 then decide (s.length ≤ 4096)
 else if k = 5 then decide (m ≤ 16)
 else if k = 6 then decide (m ≤ 8)
 else true
mutual
def formV : V → Bool
 | .mk k n s l => okN k n s l.length && formVs l
def formVs : List V → Bool
 | [] => true
 | v :: l => formV v && formVs l
end
mutual
def fitsV : V → Bool
 | .mk k n s l => fitN k s l.length && fitsVs l
def fitsVs : List V → Bool
 | [] => true
 | v :: l => fitsV v && fitsVs l
end
theorem QeT (v : V) : formV v = (okN v.k v.n v.s v.l.length && formVs v.l) := by obtain ⟨k, n, s, l⟩ := v; rfl
theorem Qg7 (v : V) : fitsV v = (fitN v.k v.s v.l.length && fitsVs v.l) := by obtain ⟨k, n, s, l⟩ := v; rfl
theorem Qeb : ∀ (a b : List V), formVs (a ++ b) = (formVs a && formVs b)
 | [], b => by simp [formVs]
 | v :: a, b => by simp only [List.cons_append, formVs, Qeb a b, Bool.and_assoc]
theorem Qea : ∀ (a b : List V), fitsVs (a ++ b) = (fitsVs a && fitsVs b)
 | [], b => by simp [fitsVs]
 | v :: a, b => by simp only [List.cons_append, fitsVs, Qea a b, Bool.and_assoc]
theorem QgW {l : List V} {i : Nat} (h : i < l.length) : formVs (l.take (i + 1)) = (formVs (l.take i) && formV l[i]) := by
 rw [List.take_add_one, List.getElem?_eq_getElem h, Option.toList_some, Qeb]; simp [formVs]
theorem QgV {l : List V} {i : Nat} (h : i < l.length) : fitsVs (l.take (i + 1)) = (fitsVs (l.take i) && fitsV l[i]) := by
 rw [List.take_add_one, List.getElem?_eq_getElem h, Option.toList_some, Qea]; simp [fitsVs]
theorem QeH : ∀ {l : List V} {v : V}, v ∈ l → formV v = false → formVs l = false
 | w :: l, v, h, hv => by
  simp only [formVs]
  rcases List.mem_cons.1 h with rfl | h
  ·rw [hv]; rfl
  ·rw [QeH h hv, Bool.and_false]
theorem Qex : ∀ {l : List V} {v : V}, v ∈ l → formVs l = true → formV v = true := fun h hl => by
 cases hv : formV _ with
 | true => rfl
 | false => rw [QeH h hv] at hl; cases hl
def checkV (v : V) : Int := if dep v > 64 then 65 else if formV v = false then 4 else if fitsV v = false then 40 else 0
def mayV (v : V) : Bool := decide (checkV v = 0)
theorem Qhe (v : V) : mayV v = true ↔ dep v ≤ 64 ∧ formV v = true ∧ fitsV v = true := by
 unfold mayV checkV
 rw [decide_eq_true_eq]
 by_cases h1 : dep v > 64
 ·simp [h1]; omega
 ·rw [if_neg h1]
  cases hf : formV v <;> cases hg : fitsV v <;> simp <;> omega
def sgn (a b : Int) : Int := if a < b then -1 else if b < a then 1 else 0
def vcmpS : Str → Str → Int
 | [], [] => 0
 | [], _ :: _ => -1
 | _ :: _, [] => 1
 | a :: s, b :: t => if a = b then vcmpS s t else sgn a.toNat b.toNat
/-- of whole numbers without their signs -/
def cmpD (a b : Str) : Int := if a.length = b.length then vcmpS a b else sgn a.length b.length
def isMin (s : Str) : Bool := decide (s.head? = some 45)
def cmpB (a b : Str) : Int := if isMin a then (if isMin b then cmpD b.tail a.tail else -1) else if isMin b then 1 else cmpD a b
mutual
def cmpV : V → V → Int
 | .mk k n s l, .mk k' n' s' l' =>
  if k ≠ k' then sgn k k'
  else if k = 3 then cmpB s s'
  else if k = 4 then vcmpS s s'
  else if k = 5 then cmpVs l l'
  else if k = 6 then (if vcmpS s s' ≠ 0 then vcmpS s s' else cmpVs l l')
  else sgn n n'
def cmpVs : List V → List V → Int
 | [], [] => 0
 | [], _ :: _ => -1
 | _ :: _, [] => 1
 | v :: l, w :: m => if cmpV v w ≠ 0 then cmpV v w else cmpVs l m
end
def lastB (a b : Bool) : Int := if a = b then 0 else if a then -1 else 1
def mayR (l : List V) : Bool := l.all mayV
def cmpR (l m : List V) : Int := if mayR l = true ∧ mayR m = true then cmpVs l m else lastB (mayR l) (mayR m)
mutual
def sameV : V → V → Bool
 | .mk k n s l, .mk k' n' s' l' => k == k' && n == n' && decide (s = s') && sameVs l l'
def sameVs : List V → List V → Bool
 | [], [] => true
 | v :: l, w :: m => sameV v w && sameVs l m
 | _, _ => false
end
theorem QgB (h : ∀ v w : V, sameV v w = true → v = w) : ∀ {l m : List V}, sameVs l m = true → l = m
 | [], [], _ => rfl
 | [], _ :: _, h' => by simp [sameVs] at h'
 | _ :: _, [], h' => by simp [sameVs] at h'
 | v :: l, w :: m, h' => by
  simp only [sameVs, Bool.and_eq_true] at h'
  rw [h v w h'.1, QgB h h'.2]
theorem QiV {v w : V} (h : sameV v w = true) : v = w := by
 have key : ∀ v : V, ∀ w, sameV v w = true → v = w := by
  refine V.rec_ (P := fun v => ∀ w, sameV v w = true → v = w) fun v ih w h => ?_
  obtain ⟨k, n, s, l⟩ := v
  obtain ⟨k', n', s', l'⟩ := w
  simp only [sameV, Bool.and_eq_true, beq_iff_eq, decide_eq_true_eq] at h
  obtain ⟨⟨⟨rfl, rfl⟩, rfl⟩, h⟩ := h
  have : ∀ (l m : List V), (∀ v ∈ l, ∀ w, sameV v w = true → v = w) → sameVs l m = true → l = m := by
   intro l
   induction l with
   | nil => intro m _ h; cases m with
    | nil => rfl
    | cons _ _ => simp [sameVs] at h
   | cons v l ihl =>
    intro m hh h
    cases m with
    | nil => simp [sameVs] at h
    | cons w m =>
     simp only [sameVs, Bool.and_eq_true] at h
     rw [hh v (List.mem_cons_self ..) w h.1, ihl m (fun v hv => hh v (List.mem_cons_of_mem _ hv)) h.2]
  rw [this l l' ih h]
 exact key v w h
mutual
theorem Qhz : ∀ v : V, sameV v v = true
 | .mk k n s l => by simp [sameV, QdY l]
theorem QdY : ∀ l : List V, sameVs l l = true
 | [] => rfl
 | v :: l => by simp [sameVs, Qhz v, QdY l]
end
theorem QhA {l m : List V} : sameVs l m = true ↔ l = m := ⟨QgB fun _ _ => QiV, fun h => h ▸ QdY l⟩
end Sx
end

noncomputable section
set_option linter.unusedVariables false
set_option linter.unusedSimpArgs false
set_option maxRecDepth 10000
namespace Sx
section
open Go Go.Proofs
theorem Qdw {α β : Type} (f : α → List β) (z : Nat) (hz : ∀ x, (f x).length = z) : ∀ (l : List α) (i : Nat) (x : α), l[i]? = some x → ∀ (j : Nat) (v : β), (f x)[j]? = some v → (l.flatMap f)[i * z + j]? = some v
 | [], i, x, h, j, v, hv => by simp at h
 | y :: l, 0, x, h, j, v, hv => by
  simp at h; subst h
  rw [List.flatMap_cons, Nat.zero_mul, Nat.zero_add, List.getElem?_append_left (List.getElem?_eq_some_iff.1 hv).1]; exact hv
 | y :: l, i + 1, x, h, j, v, hv => by
  have := Qdw f z hz l i x (by simpa using h) j v hv
  rw [List.flatMap_cons, List.getElem?_append_right (by rw [hz, Nat.add_mul]; omega), hz]
  rw [show (i + 1) * z + j - z = i * z + j by rw [Nat.add_mul]; omega]; exact this
abbrev TV := Qa
theorem TV.c_len (x : TV) : (Qa.c x).length = 4 := rfl
mutual
def VIs (H : Heap) : V → TV → Prop
 | .mk k n s l, x => x.Kind = k ∧ x.N = n ∧ x.S = s ∧ ∃ xs : List TV, rdsl H x.L (xs.flatMap Qa.c) ∧ x.L.len = xs.length ∧ VsAre H l xs
def VsAre (H : Heap) : List V → List TV → Prop
 | [], [] => True
 | v :: l, x :: xs => VIs H v x ∧ VsAre H l xs
 | [], _ :: _ => False
 | _ :: _, [] => False
end
/-- a row of values -/
def VRow (H : Heap) (t : Sl) (l : List V) : Prop := ∃ xs : List TV, rdsl H t (xs.flatMap Qa.c) ∧ t.len = xs.length ∧ VsAre H l xs
theorem Qc8 {H : Heap} {v : V} {x : TV} : VIs H v x ↔ x.Kind = v.k ∧ x.N = v.n ∧ x.S = v.s ∧ VRow H x.L v.l := by obtain ⟨k, n, s, l⟩ := v; rfl
theorem VsAre.len {H : Heap} : ∀ {l : List V} {xs : List TV}, VsAre H l xs → l.length = xs.length
 | [], [], _ => rfl
 | v :: l, x :: xs, h => by have := VsAre.len h.2; simp [this]
theorem VsAre.get {H : Heap} : ∀ {l : List V} {xs : List TV}, VsAre H l xs → ∀ (i : Nat) (v : V) (x : TV), l[i]? = some v → xs[i]? = some x → VIs H v x
 | [], [], _, i, v, x, h, _ => by simp at h
 | v :: l, x :: xs, h, 0, v', x', h1, h2 => by simp at h1 h2; subst h1; subst h2; exact h.1
 | v :: l, x :: xs, h, i + 1, v', x', h1, h2 => VsAre.get h.2 i v' x' (by simpa using h1) (by simpa using h2)
theorem VsAre.of {H : Heap} : ∀ {l : List V} {xs : List TV}, l.length = xs.length → (∀ (i : Nat) (v : V) (x : TV), l[i]? = some v → xs[i]? = some x → VIs H v x) → VsAre H l xs
 | [], [], _, _ => trivial
 | v :: l, x :: xs, h, hg => ⟨hg 0 v x rfl rfl, VsAre.of (by simpa using h) fun i v' x' h1 h2 => hg (i + 1) v' x' (by simpa using h1) (by simpa using h2)⟩
mutual
theorem VIs.le {A B : Heap} (h : A.le B) : ∀ {v : V} {x : TV}, VIs A v x → VIs B v x
 | .mk k n s l, x, ⟨h1, h2, h3, xs, h4, h5, h6⟩ => ⟨h1, h2, h3, xs, Qdl h h4, h5, VsAre.le h h6⟩
theorem VsAre.le {A B : Heap} (h : A.le B) : ∀ {l : List V} {xs : List TV}, VsAre A l xs → VsAre B l xs
 | [], [], _ => trivial
 | v :: l, x :: xs, ⟨h1, h2⟩ => ⟨VIs.le h h1, VsAre.le h h2⟩
end
theorem VRow.le {A B : Heap} {t : Sl} {l : List V} (h : VRow A t l) (hle : A.le B) : VRow B t l := by
 obtain ⟨xs, h1, h2, h3⟩ := h
 exact ⟨xs, Qdl hle h1, h2, h3.le hle⟩
theorem VRow.len {H : Heap} {t : Sl} {l : List V} (h : VRow H t l) : t.len = l.length := by
 obtain ⟨xs, h1, h2, h3⟩ := h
 rw [h2, h3.len]
theorem VIs.kind {H : Heap} {v : V} {x : TV} (h : VIs H v x) : x.Kind = v.k := (Qc8.1 h).1
theorem VIs.num {H : Heap} {v : V} {x : TV} (h : VIs H v x) : x.N = v.n := (Qc8.1 h).2.1
theorem VIs.txt {H : Heap} {v : V} {x : TV} (h : VIs H v x) : x.S = v.s := (Qc8.1 h).2.2.1
theorem VIs.row {H : Heap} {v : V} {x : TV} (h : VIs H v x) : VRow H x.L v.l := (Qc8.1 h).2.2.2
/-- one of a row's values -/
theorem VRow.ld {A H : Heap} {t : Sl} {l : List V} (h : VRow A t l) (hle : A.le H) {i : Nat} {x : Int} {K : TV → Prop} (hx : x = i) (hi : i < l.length) (k : ∀ y, VIs A l[i] y → K y) : ixa t x fun p => ldT H Qa.c (p.1, p.2 + x.toNat * 4) K := by
 have hl := h.len
 obtain ⟨xs, h1, h2, h3⟩ := h
 have hi2 : i < xs.length := by omega
 have hg := List.getElem?_eq_getElem hi2
 subst hx
 refine Qi8 (Qdl hle h1) (by omega) (by omega) (fun e => ?_) fun p _ hp => ⟨xs[i], ?_, k _ (h3.get i _ _ (List.getElem?_eq_getElem hi) hg)⟩
 ·have := Qdw Qa.c 4 TV.c_len xs i _ hg 0 _ rfl
  rw [e] at this; simp at this
 ·refine QfN fun j v hj => ?_
  have := Qge hp _ _ (Qdw Qa.c 4 TV.c_len xs i _ hg j v hj)
  rw [show p.2 + (i : Int).toNat * 4 + j = p.2 + (i * 4 + j) by omega]; exact this
mutual
def VB : V → Prop
 | .mk k n s l => (0 ≤ k ∧ k ≤ 255) ∧ (-9223372036854775808 ≤ n ∧ n ≤ 9223372036854775807) ∧ s.length ≤ 140737488355328 ∧ l.length ≤ 140737488355328 ∧ VBs l
def VBs : List V → Prop
 | [] => True
 | v :: l => VB v ∧ VBs l
end
theorem VBs.mem : ∀ {l : List V}, VBs l → ∀ {v}, v ∈ l → VB v
 | w :: l, h, v, hv => by
  rcases List.mem_cons.1 hv with rfl | hv
  ·exact h.1
  ·exact VBs.mem h.2 hv
theorem VB.k {v : V} (h : VB v) : 0 ≤ v.k ∧ v.k ≤ 255 := by obtain ⟨k, n, s, l⟩ := v; exact h.1
theorem VB.n {v : V} (h : VB v) : -9223372036854775808 ≤ v.n ∧ v.n ≤ 9223372036854775807 := by obtain ⟨k, n, s, l⟩ := v; exact h.2.1
theorem VB.s {v : V} (h : VB v) : v.s.length ≤ 140737488355328 := by obtain ⟨k, n, s, l⟩ := v; exact h.2.2.1
theorem VB.l {v : V} (h : VB v) : v.l.length ≤ 140737488355328 := by obtain ⟨k, n, s, l⟩ := v; exact h.2.2.2.1
theorem VB.ls {v : V} (h : VB v) : VBs v.l := by obtain ⟨k, n, s, l⟩ := v; exact h.2.2.2.2
theorem VB.at {v : V} (h : VB v) {i : Nat} (hi : i < v.l.length) : VB v.l[i] := h.ls.mem (List.getElem_mem hi)
section
variable {B : Heap} {b : Nat} {m : Bool} {x : TV}
theorem Qhg (h : B b = some (m, .row (Qa.c x))) : rd B (b, 0) = some (.int .u8 x.Kind) ∧ rd B (b, 1) = some (.int .i64 x.N) ∧ rd B (b, 2) = some (sv x.S) ∧ rd B (b, 3) = some (slv x.L) :=
 ⟨by rw [Qn h]; rfl, by rw [Qn h]; rfl, by rw [Qn h]; rfl, by rw [Qn h]; rfl⟩
theorem bxK {K : Int → Prop} (h : B b = some (m, .row (Qa.c x))) (k : K x.Kind) : ldI B .u8 ((b, 0).1, (b, 0).2 + 0) K := ⟨_, (Qhg h).1, k⟩
theorem bxN {K : Int → Prop} (h : B b = some (m, .row (Qa.c x))) (k : K x.N) : ldI B .i64 ((b, 0).1, (b, 0).2 + 1) K := ⟨_, (Qhg h).2.1, k⟩
theorem bxS {K : Str → Prop} (h : B b = some (m, .row (Qa.c x))) (k : K x.S) : ldS B ((b, 0).1, (b, 0).2 + 2) K := ⟨_, (Qhg h).2.2.1, k⟩
theorem bxL {K : Sl → Prop} (h : B b = some (m, .row (Qa.c x))) (k : K x.L) : ldL B ((b, 0).1, (b, 0).2 + 3) K := ⟨_, (Qhg h).2.2.2, k⟩
theorem bxV {K : TV → Prop} (h : B b = some (m, .row (Qa.c x))) (k : K x) : ldT B Qa.c (b, 0) K := ⟨x, Qcq h fun j v hj => by simpa using hj, k⟩
end
section
variable {C : Ctx} {H : Heap}
theorem QfE {v : V} {x : TV} {H : Heap} {m : Nat} {K : Int → Heap → Prop} (hv : VIs H v x) (hB : VB v) (hm : m ≤ 1000) (k : ∀ r : Nat, r ≤ m + 1 → r ≤ dep v → (r = dep v ∨ m + 1 ≤ r) → K r H) : QR C x m K H := by
 refine V.rec_ (P := fun v => ∀ {x H} {m : Nat} {K : Int → Heap → Prop}, VIs H v x → VB v → m ≤ 1000 → (∀ r : Nat, r ≤ m + 1 → r ≤ dep v → (r = dep v ∨ m + 1 ≤ r) → K r H) → QR C x m K H) (fun v ih => ?_) v hv hB hm k
 clear hv hB hm k m
 intro x H m K hv hB hm k
 apply QR.gh
 apply Qfx
 unfold QdP
 intro b1 n1
 have hr := hv.row
 have hl := hr.len
 have hbl := hB.l
 have hde := QjB v
 have hb1 : (H.put b1 (.row (Qa.c x))) b1 = some (true, .row (Qa.c x)) := Heap.put_same ..
 refine ⟨fun y H' => H.le H' ∧ ∃ r : Nat, y = (r : Int) ∧ r ≤ m ∧ r ≤ deps v.l ∧ (r = deps v.l ∨ m ≤ r), ?_, ?_⟩
 rotate_left
 ·rintro y H' ⟨hle, r, rfl, h0, h1, h2⟩
  rw [QcG (by omega) (by omega)]
  have := k (r + 1) (by omega) (by omega) (by omega)
  exact ⟨H, Gh.le hle, by simpa using this⟩
 refine bxL hb1 ?_
 refine ⟨fun y H' => ∃ i r : Nat, y = ((r : Int), (i : Int)) ∧ i ≤ v.l.length ∧ H.le H' ∧ r ≤ m ∧ r ≤ deps (v.l.take i) ∧ (r = deps (v.l.take i) ∨ m ≤ r), fun y _ => v.l.length - y.2.toNat, ⟨0, 0, rfl, Nat.zero_le _, Heap.le_put n1, Nat.zero_le _, Nat.zero_le _, .inl (by simp [deps])⟩, ?_⟩
 rintro _ H' ⟨i, r, rfl, hi, hle, hr0, hr1, hr2⟩
 have hdti : deps (v.l.take i) ≤ deps v.l := by
  have h1 := QdT (v.l.take i) (v.l.drop i)
  rw [List.take_append_drop] at h1; omega
 dsimp only
 rw [hl]
 refine ift.of (fun h => ?_) (fun h => ?_)
 ·have hlt : i < v.l.length := by have := of_decide_eq_true h; omega
  have hmem := List.getElem_mem hlt
  have hdl := QhP hmem
  refine hr.ld hle rfl hlt fun y hy => ?_
  intro b20 n20
  refine ⟨_, Heap.put_same .., by simp [Qa.c], ?_⟩
  rw [Heap.put_put]
  have esp : splice (Qa.c Qa.zero) (b20, 0).2 (Qa.c y) = Qa.c y := rfl
  rw [esp]
  have hle2 := hle.trans (Heap.le_put n20 (g := .row (Qa.c y)) (m := true))
  refine ift.of (fun h => ?_) (fun h => ?_)
  ·have hge : m ≤ r := by have := of_decide_eq_true h; omega
   exact ⟨hle2, r, rfl, by omega, by omega, .inr hge⟩
  ·have hltm : r < m := by have := of_decide_eq_false h; omega
   refine bxV (Heap.put_same ..) ?_
   have em : w .i64 ((m : Int) - 1) = ((m - 1 : Nat) : Int) := by rw [QcG (by omega) (by omega)]; omega
   rw [em]
   refine ih _ hmem (hy.le hle2) (hB.at hlt) (by omega) fun q hq0 hq1 hq2 => ?_
   have hdt := QhQ hlt
   rw [QcG (by omega) (by omega)]
   refine ⟨⟨i + 1, max q r, ?_, by omega, hle2, by omega, by omega, ?_⟩, by first | omega | (dsimp only; omega)⟩
   ·refine Prod.ext ?_ rfl
    dsimp only
    split <;> omega
   ·rw [hdt]; omega
 ·have hie : i = v.l.length := by have := of_decide_eq_false h; omega
  subst hie
  rw [List.take_length] at hr1 hr2
  exact ⟨hle, r, rfl, hr0, hr1, hr2⟩
end
end
section
open Go Go.Proofs
theorem u8eq (c : UInt8) (n : Nat) (hn : n < 256) : ((c.toNat : Int) == (n : Int)) = decide (c = UInt8.ofNat n) := by
 rw [Bool.eq_iff_iff]; simp only [decide_eq_true_eq, beq_iff_eq]
 constructor
 ·intro h; exact UInt8.toNat_inj.1 (by rw [UInt8.toNat_ofNat']; omega)
 ·rintro rfl; rw [UInt8.toNat_ofNat']; omega
theorem e48 (c : UInt8) : ((c.toNat : Int) == 48) = decide (c = 48) := u8eq c 48 (by omega)
theorem QiC {α : Type} {p : α → Bool} {s : List α} {i : Nat} (h : i < s.length) : (s.take (i + 1)).all p = ((s.take i).all p && p s[i]) := by
 rw [List.take_add_one, List.getElem?_eq_getElem h, Option.toList_some, List.all_append]; simp
theorem QjA {α : Type} {p : α → Bool} {s : List α} {x : α} (h : x ∈ s) (hp : p x = false) : s.all p = false := by
 rw [List.all_eq_false]; exact ⟨x, h, by simp [hp]⟩
theorem getE {s : Str} {i : Nat} (h : i < s.length) : s[((i : Nat) : Int).toNat]? = some s[i] := by simp [h]
theorem getL {s : Str} (h : 0 < s.length) {x : Int} (hx : x = (s.length : Int) - 1) : s[x.toNat]? = some (s.getLast (List.ne_nil_of_length_pos h)) := by
 subst hx
 have : ((s.length : Int) - 1).toNat = s.length - 1 := by omega
 rw [this, List.getElem?_eq_getElem (by omega), List.getLast_eq_getElem]
section
variable {C : Ctx} {H : Heap}
theorem Qeq {s : Str} {K : Bool → Heap → Prop} (hs : s.length ≤ 140737488355328) (k : K (nameS s) H) : Qa8 C s K H := by
 apply QfY
 unfold Qen
 refine ⟨fun b H' => H = H' ∧ b = (s.isEmpty || decide (s.length > 32) || decide ((s.headD 0).toNat < 97)), ?_, ?_⟩
 ·refine ift.of (fun h => ⟨rfl, ?_⟩) (fun h => ?_)
  ·simp only [Bool.or_eq_true, decide_eq_true_eq, beq_iff_eq] at h
   rcases h with rfl | h
   ·rfl
   ·have : decide (s.length > 32) = true := by rw [decide_eq_true_eq]; omega
    rw [this]; simp
  ·cases s with
   | nil => simp at h
   | cons c t =>
    refine ⟨c, by omega, rfl, rfl, ?_⟩
    simp only [Bool.or_eq_false_iff, decide_eq_false_iff_not] at h
    have : decide ((c :: t).length > 32) = false := by rw [decide_eq_false_iff_not]; omega
    rw [this]
    simp only [List.isEmpty_cons, Bool.false_or, List.headD_cons]
    exact (decide_eq_decide.2 (by omega) : decide ((c.toNat : Int) < 97) = decide (c.toNat < 97))
 rintro b _ ⟨rfl, rfl⟩
 refine ⟨fun b H' => H = H' ∧ b = (s.isEmpty || decide (s.length > 32) || !lowC (s.headD 0)), ?_, ?_⟩
 ·refine ift.of (fun h => ⟨rfl, ?_⟩) (fun h => ?_)
  ·simp only [Bool.or_eq_true, decide_eq_true_eq] at h
   rcases h with (h | h) | h
   ·rw [h]; rfl
   ·have : decide (s.length > 32) = true := by rw [decide_eq_true_eq]; omega
    rw [this]; simp
   ·have : lowC (s.headD 0) = false := by unfold lowC; rw [decide_eq_false (by omega)]; rfl
    rw [this]; simp
  ·simp only [Bool.or_eq_false_iff, decide_eq_false_iff_not] at h
   cases s with
   | nil => simp at h
   | cons c t =>
    refine ⟨c, by omega, rfl, rfl, ?_⟩
    have : decide ((c :: t).length > 32) = false := by rw [decide_eq_false_iff_not]; omega
    rw [this]
    simp only [List.isEmpty_cons, Bool.false_or, List.headD_cons] at h ⊢
    unfold lowC
    rw [decide_eq_true (by omega : 97 ≤ c.toNat), Bool.true_and, ← decide_not, decide_eq_decide]; omega
 rintro b _ ⟨rfl, rfl⟩
 refine ift.of (fun h => ?_) (fun h => ?_)
 ·have : nameS s = false := by
   unfold nameS
   simp only [Bool.or_eq_true, decide_eq_true_eq, Bool.not_eq_true'] at h
   rcases h with (h | h) | h
   ·rw [h]; rfl
   ·have : decide (s.length ≤ 32) = false := by rw [decide_eq_false_iff_not]; omega
    rw [this]; simp
   ·rw [h]; simp
  rw [this] at k; exact k
 have hn : nameS s = s.all nameC := by
  unfold nameS
  simp only [Bool.or_eq_false_iff, decide_eq_false_iff_not, Bool.not_eq_false'] at h
  have : decide (s.length ≤ 32) = true := by rw [decide_eq_true_eq]; omega
  rw [h.1.1, this, h.2]; simp
 refine ⟨fun x H' => ∃ i : Nat, x = (i : Int) ∧ i ≤ s.length ∧ H = H' ∧ (s.take i).all nameC = true, fun x _ => s.length - x.toNat, ⟨0, rfl, Nat.zero_le _, rfl, rfl⟩, ?_⟩
 rintro x _ ⟨i, rfl, hi, rfl, ha⟩
 refine ift.of (fun h => ?_) (fun h => ?_)
 ·have hlt : i < s.length := by have := of_decide_eq_true h; omega
  refine ⟨s[i], by omega, getE hlt, ?_⟩
  dsimp only
  have hm := List.getElem_mem hlt
  have hat := QiC (p := nameC) hlt
  generalize s[i] = c at *
  have e : (!(((((decide ((c.toNat : Int) ≥ 97)) && (decide ((c.toNat : Int) ≤ 122))) || ((decide ((c.toNat : Int) ≥ 65)) && (decide ((c.toNat : Int) ≤ 90)))) || ((decide ((c.toNat : Int) ≥ 48)) && (decide ((c.toNat : Int) ≤ 57)))) || ((c.toNat : Int) == 95))) = !nameC c := by
   unfold nameC lowC
   have h0 : decide ((c.toNat : Int) ≥ 97) = decide (97 ≤ c.toNat) := by rw [decide_eq_decide]; omega
   have h01 : decide ((c.toNat : Int) ≤ 122) = decide (c.toNat ≤ 122) := by rw [decide_eq_decide]; omega
   have h1 : decide ((c.toNat : Int) ≥ 65) = decide (65 ≤ c.toNat) := by rw [decide_eq_decide]; omega
   have h2 : decide ((c.toNat : Int) ≤ 90) = decide (c.toNat ≤ 90) := by rw [decide_eq_decide]; omega
   have h3 : decide ((c.toNat : Int) ≥ 48) = decide (48 ≤ c.toNat) := by rw [decide_eq_decide]; omega
   have h4 : decide ((c.toNat : Int) ≤ 57) = decide (c.toNat ≤ 57) := by rw [decide_eq_decide]; omega
   have h5 : ((c.toNat : Int) == 95) = decide (c.toNat = 95) := by
    rw [Bool.eq_iff_iff]; simp only [beq_iff_eq, decide_eq_true_eq]; omega
   rw [h0, h01, h1, h2, h3, h4, h5]
  rw [e]
  refine ift.of (fun h => ?_) (fun h => ?_)
  ·rw [hn, QjA hm (by simpa using h)] at k; exact k
  ·rw [QcG (by omega) (by omega)]
   refine ⟨⟨i + 1, by omega, by omega, rfl, ?_⟩, by first | omega | (dsimp only; omega)⟩
   rw [hat, ha]; simpa using h
 ·have hie : i = s.length := by have := of_decide_eq_false h; omega
  rw [hie, List.take_length] at ha
  rw [hn, ha] at k; exact k
end
end
section
open Go Go.Proofs
theorem QfI (c : UInt8) : ∀ s : Str, (Lib.indexByte s c = -1 ∧ c ∉ s) ∨ ∃ k : Nat, Lib.indexByte s c = (k : Int) ∧ ∃ a b, s = a ++ c :: b ∧ a.length = k ∧ c ∉ a
 | [] => .inl ⟨rfl, by simp⟩
 | b :: s => by
  unfold Lib.indexByte
  by_cases h : b = c
  ·subst h
   exact .inr ⟨0, by simp, [], s, rfl, rfl, by simp⟩
  ·have hb : (b == c) = false := by simpa using h
   rw [hb]
   rcases QfI c s with ⟨h1, h2⟩ | ⟨k, h1, a, d, h2, h3, h4⟩
   ·left
    rw [h1]
    refine ⟨by simp, by simp [h2, Ne.symm h]⟩
   ·right
    refine ⟨k + 1, ?_, b :: a, d, by rw [h2]; rfl, by simp [h3], by simp [h4, Ne.symm h]⟩
    rw [h1]
    have : ((k : Int) == -1) = false := by rw [beq_eq_false_iff_ne]; omega
    simp [this]
def setD (cs : List Value) (l : Str) : List Value := l.foldl (fun cs c => cs.set c.toNat (.bool true)) cs
def setD0 : List Value := List.replicate 256 (.bool false)
def digS : Str := [48, 49, 50, 51, 52, 53, 54, 55, 56, 57]
theorem Qhk (l : Str) : ∀ cs, (setD cs l).length = cs.length := by
 induction l with
 | nil => intro cs; rfl
 | cons c l ih => intro cs; simp only [setD, List.foldl_cons] at ih ⊢; rw [ih]; simp
theorem Qil (l : Str) (c : UInt8) (cs : List Value) : setD cs (l ++ [c]) = (setD cs l).set c.toNat (.bool true) := by simp [setD]
theorem Qjh (l : Str) : ∀ cs : List Value, cs.all Value.oneCell' = true → (setD cs l).all Value.oneCell' = true := by
 induction l with
 | nil => intro cs h; exact h
 | cons c l ih =>
  intro cs h
  simp only [setD, List.foldl_cons] at ih ⊢
  refine ih _ ?_
  rw [List.all_eq_true] at h ⊢
  intro x hx
  rcases List.mem_or_eq_of_mem_set hx with hx | rfl
  ·exact h x hx
  ·rfl
theorem QiX : ∀ n : Nat, n < 256 → (match (setD setD0 digS)[n]? with | some (.bool b) => b == (decide (48 ≤ n) && decide (n ≤ 57)) | _ => false) = true := by decide +kernel
theorem QiW (c : UInt8) : (setD setD0 digS)[c.toNat]? = some (.bool (digC c)) := by
 have h := QiX c.toNat c.toBitVec.isLt
 unfold digC
 generalize (setD setD0 digS)[c.toNat]? = o at *
 cases o with
 | none => simp at h
 | some v => cases v <;> simp at h ⊢; exact h
section
variable {C : Ctx} {H : Heap}
theorem QeI {s p : Str} {K : Bool → Heap → Prop} (k : K (p.isPrefixOf s) H) : Qs C s p K H := by
 apply Qbc
 unfold Q3
 refine ⟨fun b H' => H = H' ∧ b = p.isPrefixOf s, ?_, ?_⟩
 ·refine ift.of (fun h => ?_) (fun h => ⟨rfl, ?_⟩)
  ·have hl : p.length ≤ s.length := by have := of_decide_eq_true h; omega
   refine ⟨by omega, by omega, by omega, s.take p.length, by simp, rfl, ?_⟩
   rw [Bool.eq_iff_iff, List.isPrefixOf_iff_prefix, beq_iff_eq, List.prefix_iff_eq_take]
   exact ⟨fun h => h.symm, fun h => h.symm⟩
  ·have hl := of_decide_eq_false h
   cases hh : p.isPrefixOf s with
   | false => rfl
   | true =>
    have := (List.isPrefixOf_iff_prefix.1 hh).length_le
    omega
 ·rintro b _ ⟨rfl, rfl⟩
  exact k
theorem Qgi {s p : Str} {K : Str → Heap → Prop} (k : K (if p.isPrefixOf s then s.drop p.length else s) H) : QaU C s p K H := by
 apply Qda
 unfold Qbv
 apply Qba
 unfold QU
 refine QeI ?_
 refine ift.of (fun h => ?_) (fun h => ?_)
 ·rw [if_pos h] at k
  have := (List.isPrefixOf_iff_prefix.1 h).length_le
  exact ⟨by omega, by omega, by omega, _, by simp, k⟩
 ·rw [if_neg (by rw [h]; decide)] at k; exact k
theorem QhO {s : Str} {K : Str → Str → Bool → Heap → Prop} (hs : s.length ≤ 140737488355328) (k : match cutD s with | some (a, b) => K a b true H | none => K s [] false H) : QcK C s [46] K H := by
 apply Qfu
 unfold QdM
 apply QbR
 unfold QaL
 have key : ∀ {K : Int → Heap → Prop}, K (Lib.indexByte s 46) H → QP C s [46] K H := by
  intro K k
  apply Qbw
  unfold Qap
  refine ift.of (fun h => ?_) (fun h => ?_)
  ·have hs : [46] = s := by simpa using h
   subst hs
   exact k
  ·refine Qm rfl ⟨46, by omega, rfl, ?_⟩
   apply Qbd
   unfold Q4
   exact k
 refine key ?_
 rcases QfI 46 s with ⟨h1, h2⟩ | ⟨i, h1, a, b, h2, h3, h4⟩
 ·rw [h1]
  rw [Qf5 s h2] at k
  exact Qk rfl k
 ·rw [h1]
  subst h2
  rw [Qf3 a b h4] at k
  subst h3
  simp only [List.length_append, List.length_cons] at hs
  refine Qm (by rw [decide_eq_true_eq]; omega) ?_
  refine ⟨by omega, by omega, by simp; omega, a, by simp, ?_⟩
  have e1 : (([46] : Str).length : Int) = 1 := rfl
  rw [e1, QcG (by omega) (by omega)]
  refine ⟨by omega, by simp; omega, by omega, b, ?_, k⟩
  have e2 : ((a.length : Int) + 1).toNat = a.length + 1 := by omega
  rw [List.take_of_length_le (by omega), e2, List.drop_append]
  simp
/-- the set of digits -/
def DSet (H : Heap) (b : Nat) : Prop := H b = some (true, .row (setD setD0 digS))
theorem Qe4 {b : Nat} {c : UInt8} {K : Bool → Heap → Prop} (h : DSet H b) (k : K (digC c) H) : QD C (some (b, 0)) (c.toNat : Int) K H := by
 apply QbM
 unfold Qaz
 refine ⟨(b, 0), rfl, by omega, by have := c.toBitVec.isLt; have : c.toNat < 256 := this; omega, digC c, ?_, k⟩
 rw [Qn h]
 have := QiW c
 simpa using this
theorem Qi4 {b : Nat} {s : Str} {K : Str → Heap → Prop} (hs : s.length ≤ 140737488355328) (h : DSet H b) (k : ∀ t, t.length ≤ s.length → t.all digC = s.all digC → K t H) : Q8 C s (some (b, 0)) K H := by
 apply Qci
 unfold QaY
 refine ⟨fun t H' => H = H' ∧ t.length ≤ s.length ∧ t.all digC = s.all digC, ?_, ?_⟩
 rotate_left
 ·rintro t _ ⟨rfl, h1, h2⟩
  exact k t h1 h2
 refine ⟨fun t H' => H = H' ∧ t.length ≤ s.length ∧ t.all digC = s.all digC, fun t _ => t.length, ⟨rfl, Nat.le_refl _, rfl⟩, ?_⟩
 rintro t _ ⟨rfl, h1, h2⟩
 refine ift.of (fun hh => ?_) (fun hh => ⟨rfl, h1, h2⟩)
 have hl : 0 < t.length := by have := of_decide_eq_true hh; omega
 have hne := List.ne_nil_of_length_pos hl
 have hd : t.dropLast ++ [t.getLast hne] = t := List.dropLast_concat_getLast hne
 rw [QcG (by omega) (by omega)]
 refine ⟨t.getLast hne, by omega, getL hl rfl, ?_⟩
 refine Qe4 h ?_
 refine ift.of (fun hc => ⟨rfl, h1, h2⟩) (fun hc => ?_)
 have e1 : (t.take ((t.length : Int) - 1).toNat).drop (0 : Int).toNat = t.dropLast := by
  have : ((t.length : Int) - 1).toNat = t.length - 1 := by omega
  rw [this, List.dropLast_eq_take]; simp
 refine ⟨by omega, by omega, by omega, _, e1.symm, ?_⟩
 have hdl := List.length_dropLast (xs := t)
 refine ⟨⟨rfl, by omega, ?_⟩, by dsimp only; omega⟩
 rw [← h2]
 conv => rhs; rw [← hd]
 rw [List.all_append]
 simp at hc
 simp [hc]
theorem Qi3 {b : Nat} {s : Str} {K : Str → Heap → Prop} (hs : s.length ≤ 140737488355328) (h : DSet H b) (k : ∀ t, t.all digC = s.all digC → (t = [] ∨ t.all digC = false) → K t H) : Qaf C s (some (b, 0)) K H := by
 apply Qcs
 unfold Qa9
 refine ⟨fun t H' => H = H' ∧ t.all digC = s.all digC ∧ (t = [] ∨ t.all digC = false), ?_, ?_⟩
 rotate_left
 ·rintro t _ ⟨rfl, h1, h2⟩
  exact k t h1 h2
 refine ⟨fun t H' => H = H' ∧ t.length ≤ s.length ∧ t.all digC = s.all digC, fun t _ => t.length, ⟨rfl, Nat.le_refl _, rfl⟩, ?_⟩
 rintro t _ ⟨rfl, h1, h2⟩
 cases t with
 | nil => exact Qk rfl ⟨rfl, h2, .inl rfl⟩
 | cons c t =>
  refine Qm (by rw [decide_eq_true_eq]; simp only [List.length_cons]; omega) ?_
  refine ⟨c, by omega, rfl, ?_⟩
  refine Qe4 h ?_
  refine ift.of (fun hc => ⟨rfl, h2, .inr ?_⟩) (fun hc => ?_)
  ·simp at hc; simp [hc]
  ·refine ⟨by omega, by simp only [List.length_cons]; omega, by omega, t, ?_, ⟨rfl, by simp only [List.length_cons] at h1; omega, ?_⟩, by simp⟩
   ·rw [List.take_of_length_le (by omega)]; rfl
   ·rw [← h2]; simp at hc; simp [hc]
theorem Qf9 {K : List Value → Bool → Heap → Prop} (k : K (setD setD0 digS) true H) : Qr C digS K H := by
 apply Qr.gh
 apply QcH
 unfold Qbh
 intro b n
 refine ⟨fun x H' => ∃ i : Nat, x = (i : Int) ∧ i ≤ 10 ∧ H' = H.put b (.row (setD setD0 (digS.take i))), fun x _ => 10 - x.toNat, ⟨0, rfl, by omega, rfl⟩, ?_⟩
 rintro x _ ⟨i, rfl, hi, rfl⟩
 have hlen : (setD setD0 (digS.take i)).length = 256 := by rw [Qhk]; simp [setD0]
 refine ift.of (fun h => ?_) (fun h => ?_)
 ·have hlt : i < digS.length := by have := of_decide_eq_true h; omega
  have hlt' : i < 10 := hlt
  refine ⟨digS[i], by omega, getE hlt, ?_⟩
  have hm : ∀ c ∈ digS, c.toNat < 128 := by decide
  have h128 := hm _ (List.getElem_mem hlt)
  have htk : digS.take (i + 1) = digS.take i ++ [digS[i]] := by rw [List.take_add_one, List.getElem?_eq_getElem hlt]; rfl
  generalize digS[i] = c at *
  refine Qk (by rw [decide_eq_false_iff_not]; omega) ?_
  refine ⟨by omega, by omega, _, Heap.put_same .., by rw [hlen]; simp; omega, ?_⟩
  rw [QcG (by omega) (by omega), Heap.put_put]
  refine ⟨⟨i + 1, by omega, by omega, ?_⟩, by first | omega | (dsimp only; omega)⟩
  rw [htk, Qil]
  have : (b, 0).2 + (c.toNat : Int).toNat * 1 = c.toNat := by simp
  rw [this]
 ·have hi10 : i = 10 := by have := of_decide_eq_false h; have : digS.length = 10 := rfl; omega
  subst hi10
  have e : digS.take 10 = digS := rfl
  rw [e] at hlen ⊢
  have hr : ∀ {B : Heap}, B b = some (true, .row (setD setD0 digS)) → rds B (b, 0) (setD setD0 digS) := fun h => Qcq h fun j v hj => by simpa using hj
  refine ⟨_, hlen, hr (Heap.put_same ..), hlen, Qjh _ _ (by decide +kernel), _, Heap.put_same .., by simp, ?_⟩
  have esp : splice (setD setD0 digS) (b, 0).2 (setD setD0 digS) = setD setD0 digS := by
   unfold splice; simp
  rw [esp, Heap.put_put]
  exact ⟨_, hlen, hr (Heap.put_same ..), H, Gh.le (Heap.le_put n), k⟩
theorem QhD {s : Str} {K : Str → Heap → Prop} (hs : s.length ≤ 140737488355328) (k : ∀ t, (t = [] ↔ s.all digC = true) → K t H) : Q5 C s digS K H := by
 apply Q5.gh
 apply QeW
 unfold Qdo
 refine ift.of (fun h => ?_) (fun h => ?_)
 ·have : s = [] := by simpa [digS] using h
  subst this
  exact ⟨H, Gh.refl _, k [] (by simp)⟩
 refine ⟨fun b H' => H = H' ∧ b = false, Qk rfl ⟨rfl, rfl⟩, ?_⟩
 rintro _ _ ⟨rfl, rfl⟩
 refine Qk rfl ?_
 refine Qf9 ?_
 intro b n
 have hlen : (setD setD0 digS).length = 256 := by rw [Qhk]; simp [setD0]
 refine ⟨hlen, Qjh _ _ (by decide +kernel), _, Heap.put_same .., by rw [hlen]; simp, ?_⟩
 have esp : splice (List.replicate 256 (.bool false : Value)) (b, 0).2 (setD setD0 digS) = setD setD0 digS := by
  unfold splice; simp [hlen]
 rw [esp, Heap.put_put]
 refine Qm rfl ?_
 refine Qi4 hs (Heap.put_same ..) fun t ht1 ht2 => ?_
 refine Qi3 (by omega) (Heap.put_same ..) fun u hu1 hu2 => ?_
 refine ⟨H, Gh.le (Heap.le_put n), k u ?_⟩
 rw [← ht2, ← hu1]
 constructor
 ·rintro rfl; rfl
 ·intro h
  rcases hu2 with h2 | h2
  ·exact h2
  ·rw [h] at h2; cases h2
theorem Qfo {s : Str} {K : Int → Bool → Heap → Prop} (hs : s.length ≤ 140737488355328) (k : K (if numS s then (digits s : Int) else 0) (numS s) H) : Qcl C s K H := by
 apply Qe0
 unfold Qds
 refine Qgi ?_
 have e : (if ([45] : Str).isPrefixOf s then s.drop ([45] : Str).length else s) = unmin s := by
  unfold unmin
  cases s with
  | nil => rfl
  | cons c t =>
   by_cases hc : c = 45
   ·subst hc; simp [List.isPrefixOf]
   ·simp [List.isPrefixOf, hc, Ne.symm hc]
 rw [e]
 have hul : (unmin s).length ≤ s.length := by unfold unmin; split <;> simp
 have hdg : digits s = (unmin s).length := rfl
 have hnu : numS s = (!(unmin s).isEmpty && (unmin s).all digC && !(decide ((unmin s).head? = some 48) && decide (s ≠ [48]))) := rfl
 rw [hdg, hnu] at k
 clear hdg hnu e
 generalize unmin s = d at *
 refine ⟨fun b H' => H = H' ∧ b = !(!d.isEmpty && d.all digC), ?_, ?_⟩
 ·refine ift.of (fun h => ⟨rfl, ?_⟩) (fun h => ?_)
  ·have : d = [] := by simpa using h
   subst this; rfl
  ·have hne : d ≠ [] := by simpa using h
   refine QhD (by omega) fun t ht => ⟨rfl, ?_⟩
   have he : d.isEmpty = false := by cases d with
    | nil => exact absurd rfl hne
    | cons _ _ => rfl
   rw [he]
   cases hd : d.all digC with
   | true => rw [ht.2 hd]; rfl
   | false =>
    have : t ≠ [] := fun e => by rw [ht.1 e] at hd; cases hd
    simpa using this
 rintro b _ ⟨rfl, rfl⟩
 refine ⟨fun b H' => H = H' ∧ b = !(!d.isEmpty && d.all digC && !(decide (d.head? = some 48) && decide (s ≠ [48]))), ?_, ?_⟩
 ·refine ift.of (fun h => ⟨rfl, ?_⟩) (fun h => ?_)
  ·simp only [Bool.not_eq_true'] at h
   rw [h]; rfl
  ·simp only [Bool.not_eq_false'] at h
   rw [h]
   cases d with
   | nil => simp at h
   | cons c t =>
    refine ⟨c, by omega, rfl, rfl, ?_⟩
    rw [e48]
    simp only [List.head?_cons, Option.some.injEq, Bool.true_and, Bool.not_not]
    congr 1
    rw [decide_not]; congr 1
    rw [Bool.eq_iff_iff]; simp
 rintro b _ ⟨rfl, rfl⟩
 refine ift.of (fun h => ?_) (fun h => ?_)
 ·simp only [Bool.not_eq_true'] at h
  rw [h] at k; exact k
 ·simp only [Bool.not_eq_false'] at h
  rw [h] at k; exact k
end
end
section
open Go Go.Proofs
section
variable {C : Ctx} {H : Heap}
theorem sEmpty {s : Str} : (s == ([] : Str)) = s.isEmpty := by cases s <;> rfl
theorem lenZ {l : List V} {n : Nat} (h : n = l.length) (m : Nat) : ((n : Int) == (m : Int)) = decide (l.length = m) := by
 rw [Bool.eq_iff_iff]; simp only [beq_iff_eq, decide_eq_true_eq]; omega
theorem Qh6 {k n : Int} {s : Str} {m : Nat} (h : okN k n s m = true) (hk : k = 3) : numS s = true := by
 unfold okN at h
 rw [if_neg (by omega), if_neg (by omega), if_pos hk] at h
 simp only [Bool.and_eq_true] at h
 exact h.1.1
end
end
section
open Go Go.Proofs
theorem Qh4 (s : Str) : namesS s = (match cutD s with | some (a, b) => nameS a && nameS b | none => nameS s && !decide (s = trueS) && !decide (s = falseS)) := by
 unfold namesS
 by_cases ht : s = trueS
 ·subst ht; rfl
 by_cases hf : s = falseS
 ·subst hf; rfl
 rw [if_neg (fun h => h.elim ht hf)]
 cases hc : cutD s with
 | none => simp [ht, hf]
 | some p => rfl
section
variable {C : Ctx} {H : Heap}
theorem Qjp {v : V} {x : TV} {H : Heap} {K : Bool → Bool → Heap → Prop} (hv : VIs H v x) (hB : VB v) (k : ∀ g, (formV v = true → g = fitsV v) → K (formV v) g H) : Qu C x K H := by
 refine V.rec_ (P := fun v => ∀ {x H} {K : Bool → Bool → Heap → Prop}, VIs H v x → VB v → (∀ g, (formV v = true → g = fitsV v) → K (formV v) g H) → Qu C x K H) (fun v ih => ?_) v hv hB k
 clear hv hB k
 intro x H K hv hB k
 apply Qu.gh
 apply Qd7
 unfold Qcg
 intro b1 n1
 have hr := hv.row
 have hl := hr.len
 have hbl := hB.l
 have hbs := hB.s
 have hk := hv.kind
 have hn := hv.num
 have ht := hv.txt
 have hb1 : (H.put b1 (.row (Qa.c x))) b1 = some (true, .row (Qa.c x)) := Heap.put_same ..
 have hle1 := Heap.le_put n1 (g := .row (Qa.c x)) (m := true)
 generalize H.put b1 (.row (Qa.c x)) = H1 at *
 refine bxN hb1 ?_
 refine ⟨fun b H' => H1 = H', ?_, ?_⟩
 ·exact ift.of (fun _ => bxS hb1 rfl) (fun _ => rfl)
 rintro _ _ rfl
 refine ⟨fun b H' => H1 = H', ?_, ?_⟩
 ·exact ift.of (fun _ => bxL hb1 rfl) (fun _ => rfl)
 rintro _ _ rfl
 refine ⟨fun b H' => H1 = H' ∧ b.1 = okN v.k v.n v.s v.l.length ∧ (b.1 = true → b.2 = fitN v.k v.s v.l.length), ?_, ?_⟩
 rotate_left
 ·rintro ⟨o, g⟩ _ ⟨rfl, ho, hg⟩
  dsimp only at ho hg ⊢
  subst ho
  refine bxL hb1 ?_
  refine ⟨fun y H' => ∃ i : Nat, y.2.2 = (i : Int) ∧ i ≤ v.l.length ∧ H.le H' ∧ y.1 = (okN v.k v.n v.s v.l.length && formVs (v.l.take i)) ∧ (y.1 = true → y.2.1 = (fitN v.k v.s v.l.length && fitsVs (v.l.take i))), fun y _ => v.l.length - y.2.2.toNat, ⟨0, rfl, Nat.zero_le _, hle1, by simp [formVs], fun h => by simp [fitsVs, hg h]⟩, ?_⟩
  rintro ⟨f, g', y⟩ H2 ⟨i, hy, hi, hle, h1, h2⟩
  dsimp only at hy h1 h2
  subst hy
  dsimp only
  rw [hl]
  refine ift.of (fun h => ?_) (fun h => ?_)
  ·have hlt : i < v.l.length := by have := of_decide_eq_true h; omega
   have hmem := List.getElem_mem hlt
   refine hr.ld hle rfl hlt fun z hz => ?_
   intro b20 n20
   refine ⟨_, Heap.put_same .., by simp [Qa.c], ?_⟩
   rw [Heap.put_put]
   have esp : splice (Qa.c Qa.zero) (b20, 0).2 (Qa.c z) = Qa.c z := rfl
   rw [esp]
   have hle2 := hle.trans (Heap.le_put n20 (g := .row (Qa.c z)) (m := true))
   refine bxV (Heap.put_same ..) ?_
   refine ih _ hmem (hz.le hle2) (hB.at hlt) fun q hq => ?_
   rw [QcG (by omega) (by omega)]
   refine ⟨⟨i + 1, by omega, by omega, hle2, ?_, fun hh => ?_⟩, by first | omega | (dsimp only; omega)⟩
   ·rw [h1, QgW hlt, Bool.and_assoc]
   ·rw [Bool.and_eq_true] at hh
    rw [h2 hh.1, QgV hlt, hq hh.2, Bool.and_assoc]
  ·have hie : i = v.l.length := by have := of_decide_eq_false h; omega
   subst hie
   rw [List.take_length] at h1 h2
   rw [← QeT] at h1
   rw [← Qg7] at h2
   refine ⟨H, Gh.le hle, ?_⟩
   rw [h1] at h2 ⊢
   exact k g' h2
 refine bxK hb1 ?_
 rw [hk]
 refine ift.of (fun h => ?_) (fun h => ?_)
 ·have h : v.k = 1 := by simpa using h
  have eo : okN v.k v.n v.s v.l.length = ((v.n == 0 || v.n == 1) && v.s.isEmpty && decide (v.l.length = 0)) := by rw [h]; rfl
  have ef : fitN v.k v.s v.l.length = true := by rw [h]; rfl
  rw [eo, ef]
  refine bxN hb1 ?_
  refine ⟨fun b H' => H1 = H' ∧ b = (v.n == 0 || v.n == 1), ?_, ?_⟩
  ·rw [hn]
   refine ift.of (fun h => ⟨rfl, by rw [h]; rfl⟩) (fun h => ?_)
   refine bxN hb1 ⟨rfl, ?_⟩
   rw [h, hn]; rfl
  rintro _ _ ⟨rfl, rfl⟩
  refine ⟨fun b H' => H1 = H' ∧ b = ((v.n == 0 || v.n == 1) && v.s.isEmpty), ?_, ?_⟩
  ·refine ift.of (fun h => ?_) (fun h => ⟨rfl, by rw [h]; rfl⟩)
   refine bxS hb1 ⟨rfl, ?_⟩
   rw [h, ht, sEmpty]; rfl
  rintro _ _ ⟨rfl, rfl⟩
  refine ⟨fun b H' => H1 = H' ∧ b = ((v.n == 0 || v.n == 1) && v.s.isEmpty && decide (v.l.length = 0)), ?_, ?_⟩
  ·refine ift.of (fun h => ?_) (fun h => ⟨rfl, by rw [h]; rfl⟩)
   refine bxL hb1 ⟨rfl, ?_⟩
   rw [h]; exact lenZ hl 0
  rintro _ _ ⟨rfl, rfl⟩
  exact ⟨rfl, rfl, fun _ => rfl⟩
 have g1 : v.k ≠ 1 := by simpa using h
 refine ift.of (fun h => ?_) (fun h => ?_)
 ·have h : v.k = 2 := by simpa using h
  have eo : okN v.k v.n v.s v.l.length = (v.s.isEmpty && decide (v.l.length = 0)) := by rw [h]; rfl
  have ef : fitN v.k v.s v.l.length = true := by rw [h]; rfl
  rw [eo, ef]
  refine bxS hb1 ?_
  refine ⟨fun b H' => H1 = H' ∧ b = (v.s.isEmpty && decide (v.l.length = 0)), ?_, ?_⟩
  ·rw [ht, sEmpty]
   refine ift.of (fun h => ?_) (fun h => ⟨rfl, by rw [h]; rfl⟩)
   refine bxL hb1 ⟨rfl, ?_⟩
   rw [h]; exact lenZ hl 0
  rintro _ _ ⟨rfl, rfl⟩
  exact ⟨rfl, rfl, fun _ => rfl⟩
 have g2 : v.k ≠ 2 := by simpa using h
 refine ift.of (fun h => ?_) (fun h => ?_)
 ·have h : v.k = 3 := by simpa using h
  have eo : okN v.k v.n v.s v.l.length = (numS v.s && v.n == 0 && decide (v.l.length = 0)) := by rw [h]; rfl
  have ef : fitN v.k v.s v.l.length = decide (digits v.s ≤ 200) := by rw [h]; rfl
  rw [eo, ef]
  refine bxS hb1 ?_
  rw [ht]
  refine Qfo hbs ?_
  refine ⟨fun b H' => H1 = H' ∧ b = (numS v.s && v.n == 0), ?_, ?_⟩
  ·refine ift.of (fun h => ?_) (fun h => ⟨rfl, by rw [h]; rfl⟩)
   refine bxN hb1 ⟨rfl, ?_⟩
   rw [h, hn]; rfl
  rintro _ _ ⟨rfl, rfl⟩
  refine ⟨fun b H' => H1 = H' ∧ b = (numS v.s && v.n == 0 && decide (v.l.length = 0)), ?_, ?_⟩
  ·refine ift.of (fun h => ?_) (fun h => ⟨rfl, by rw [h]; rfl⟩)
   refine bxL hb1 ⟨rfl, ?_⟩
   rw [h]; exact lenZ hl 0
  rintro _ _ ⟨rfl, rfl⟩
  refine ⟨rfl, rfl, fun hh => ?_⟩
  dsimp only at hh ⊢
  simp only [Bool.and_eq_true] at hh
  rw [hh.1.1, if_pos rfl, decide_eq_decide]; omega
 have g3 : v.k ≠ 3 := by simpa using h
 refine ift.of (fun h => ?_) (fun h => ?_)
 ·have h : v.k = 4 := by simpa using h
  have eo : okN v.k v.n v.s v.l.length = (v.n == 0 && decide (v.l.length = 0)) := by rw [h]; rfl
  have ef : fitN v.k v.s v.l.length = decide (v.s.length ≤ 4096) := by rw [h]; rfl
  rw [eo, ef]
  have ed : decide ((v.s.length : Int) ≤ 4096) = decide (v.s.length ≤ 4096) := by rw [decide_eq_decide]; omega
  refine ⟨fun b H' => H1 = H' ∧ b = ((v.n == 0 && decide (v.l.length = 0)), decide (v.s.length ≤ 4096)), ?_, ?_⟩
  ·refine ⟨H1, Heap.le.refl _, bxN hb1 (bxS hb1 ?_)⟩
   rw [hn, ht, ed]
   refine ift.of (fun h => ?_) (fun h => ⟨rfl, by rw [h]; rfl⟩)
   refine bxL hb1 ⟨rfl, ?_⟩
   rw [h, show ((x.L.len : Int) == 0) = decide (v.l.length = 0) from lenZ hl 0]; rfl
  rintro _ _ ⟨rfl, rfl⟩
  exact ⟨rfl, rfl, fun _ => rfl⟩
 have g4 : v.k ≠ 4 := by simpa using h
 refine ift.of (fun h => ?_) (fun h => ?_)
 ·have h : v.k = 5 := by simpa using h
  have eo : okN v.k v.n v.s v.l.length = (v.n == 0 && v.s.isEmpty && decide (v.l.length ≠ 1)) := by rw [h]; rfl
  have ef : fitN v.k v.s v.l.length = decide (v.l.length ≤ 16) := by rw [h]; rfl
  rw [eo, ef]
  have ed : decide ((x.L.len : Int) ≤ 16) = decide (v.l.length ≤ 16) := by rw [decide_eq_decide]; omega
  refine ⟨fun b H' => H1 = H' ∧ b = ((v.n == 0 && v.s.isEmpty && decide (v.l.length ≠ 1)), decide (v.l.length ≤ 16)), ?_, ?_⟩
  ·refine ⟨H1, Heap.le.refl _, bxN hb1 (bxL hb1 ?_)⟩
   rw [hn, ed]
   refine ift.of (fun h => ?_) (fun h => ⟨rfl, by rw [h]; rfl⟩)
   refine bxS hb1 ?_
   rw [ht, sEmpty]
   refine ift.of (fun h2 => ?_) (fun h2 => ⟨rfl, by rw [h2]; simp⟩)
   refine bxL hb1 ⟨rfl, ?_⟩
   rw [h, h2, bne, show ((x.L.len : Int) == 1) = decide (v.l.length = 1) from lenZ hl 1, decide_not]; rfl
  rintro _ _ ⟨rfl, rfl⟩
  exact ⟨rfl, rfl, fun _ => rfl⟩
 have g5 : v.k ≠ 5 := by simpa using h
 refine ift.of (fun h => ?_) (fun h => ?_)
 ·have h : v.k = 6 := by simpa using h
  have eo : okN v.k v.n v.s v.l.length = (v.n == 0 && namesS v.s) := by rw [h]; rfl
  have ef : fitN v.k v.s v.l.length = decide (v.l.length ≤ 8) := by rw [h]; rfl
  rw [eo, ef]
  have ed : decide ((x.L.len : Int) ≤ 8) = decide (v.l.length ≤ 8) := by rw [decide_eq_decide]; omega
  refine bxS hb1 ?_
  rw [ht]
  refine QhO hbs ?_
  have key : ∀ (a b : Str) (two : Bool), a.length ≤ 140737488355328 → b.length ≤ 140737488355328 → namesS v.s = (if two then nameS a && nameS b else nameS a && !decide (v.s = trueS) && !decide (v.s = falseS)) →
   jn (α := Bool × Bool) (fun x118 H119 => H1 = H119 ∧ x118.1 = (v.n == 0 && namesS v.s) ∧ (x118.1 = true → x118.2 = decide (v.l.length ≤ 8)))
    (fun J117 => dr H1 fun Hs121 =>
    ldI Hs121 .i64 ((b1, 0).1, (b1, 0).2 + 1) fun x123 =>
    ldL Hs121 ((b1, 0).1, (b1, 0).2 + 3) fun x125 =>
    ift ((x123 : Int) == 0)
    (Qa8 C a (fun r129 H130 =>
    Heap.le Hs121 H130 ∧
    ift r129
    (ift two
    (Qa8 C b (fun r134 H135 =>
    Heap.le Hs121 H135 ∧
    ift r134
    (J117 (true, (decide (((Sl.len x125 : Int) : Int) ≤ 8))) H135)
    (ift (!two)
    (ldS Hs121 ((b1, 0).1, (b1, 0).2 + 2) fun x138 =>
    ift (!(x138 == ([116, 114, 117, 101] : Str)))
    (ldS Hs121 ((b1, 0).1, (b1, 0).2 + 2) fun x141 =>
    J117 ((!(x141 == ([102, 97, 108, 115, 101] : Str))), (decide (((Sl.len x125 : Int) : Int) ≤ 8))) H135)
    (J117 (false, (decide (((Sl.len x125 : Int) : Int) ≤ 8))) H135))
    (J117 (false, (decide (((Sl.len x125 : Int) : Int) ≤ 8))) H135))) H130)
    (ift (!two)
    (ldS Hs121 ((b1, 0).1, (b1, 0).2 + 2) fun x144 =>
    ift (!(x144 == ([116, 114, 117, 101] : Str)))
    (ldS Hs121 ((b1, 0).1, (b1, 0).2 + 2) fun x147 =>
    J117 ((!(x147 == ([102, 97, 108, 115, 101] : Str))), (decide (((Sl.len x125 : Int) : Int) ≤ 8))) H130)
    (J117 (false, (decide (((Sl.len x125 : Int) : Int) ≤ 8))) H130))
    (J117 (false, (decide (((Sl.len x125 : Int) : Int) ≤ 8))) H130)))
    (J117 (false, (decide (((Sl.len x125 : Int) : Int) ≤ 8))) H130)) H1)
    (J117 (false, (decide (((Sl.len x125 : Int) : Int) ≤ 8))) H1)) := by
   intro a b two ha hb hns
   refine ⟨fun y H' => H1 = H' ∧ y = ((v.n == 0 && namesS v.s), decide (v.l.length ≤ 8)), ?_, ?_⟩
   ·refine ⟨H1, Heap.le.refl _, bxN hb1 (bxL hb1 ?_)⟩
    rw [hn, ed]
    refine ift.of (fun h => ?_) (fun h => ⟨rfl, by rw [h]; rfl⟩)
    refine Qeq ha ⟨Heap.le.refl _, ?_⟩
    rw [h, hns]
    refine ift.of (fun h2 => ?_) (fun h2 => ⟨rfl, by rw [h2]; cases two <;> rfl⟩)
    rw [h2]
    have eq : ∀ t : Str, (v.s == t) = decide (v.s = t) := fun t => by rw [Bool.eq_iff_iff]; simp
    cases two with
    | true =>
     refine Qm rfl ?_
     refine Qeq hb ⟨Heap.le.refl _, ?_⟩
     exact ift.of (fun h3 => ⟨rfl, by rw [h3]; rfl⟩) (fun h3 => Qk rfl ⟨rfl, by rw [h3]; rfl⟩)
    | false =>
     refine Qk rfl (Qm rfl ?_)
     refine bxS hb1 ?_
     rw [ht, show (v.s == ([116, 114, 117, 101] : Str)) = decide (v.s = trueS) from eq _]
     refine ift.of (fun h3 => ?_) (fun h3 => ⟨rfl, ?_⟩)
     ·refine bxS hb1 ⟨rfl, ?_⟩
      rw [ht, show (v.s == ([102, 97, 108, 115, 101] : Str)) = decide (v.s = falseS) from eq _, h3]; rfl
     ·rw [h3]; rfl
   ·rintro _ _ ⟨rfl, rfl⟩
    exact ⟨rfl, rfl, fun _ => rfl⟩
  have hc := Qh4 v.s
  cases hcd : cutD v.s with
  | none =>
   rw [hcd] at hc
   exact key _ _ _ hbs (by simp) hc
  | some p =>
   obtain ⟨a, b⟩ := p
   rw [hcd] at hc
   have hlen : a.length ≤ v.s.length ∧ b.length ≤ v.s.length := by
    by_cases hm : (46 : UInt8) ∈ v.s
    ·obtain ⟨a', b', e1, e2⟩ := Qf4 _ hm
     have := Qf3 a' b' e2
     rw [← e1, hcd] at this
     injection this with this; injection this with h1 h2
     subst h1; subst h2
     rw [e1]; simp; omega
    ·rw [Qf5 _ hm] at hcd; cases hcd
   exact key _ _ _ (by omega) (by omega) hc
 have g6 : v.k ≠ 6 := by simpa using h
 have eo : okN v.k v.n v.s v.l.length = false := by unfold okN; rw [if_neg g1, if_neg g2, if_neg g3, if_neg g4, if_neg g5, if_neg g6]
 rw [eo]
 exact ⟨rfl, rfl, fun hh => by cases hh⟩
theorem Qcr {v : V} {x : TV} {H : Heap} {K : Int → Heap → Prop} (hv : VIs H v x) (hB : VB v) (k : K (checkV v) H) : QQ C x K H := by
 apply QQ.gh
 apply Qfw
 unfold QdO
 intro b1 n1
 have hb1 : (H.put b1 (.row (Qa.c x))) b1 = some (true, .row (Qa.c x)) := Heap.put_same ..
 have hle1 := Heap.le_put n1 (g := .row (Qa.c x)) (m := true)
 generalize H.put b1 (.row (Qa.c x)) = H1 at *
 unfold checkV at k
 refine bxV hb1 (QfE (m := 65) (hv.le hle1) hB (by omega) fun r h0 h1 h2 => ?_)
 refine ift.of (fun h => ?_) (fun h => ?_)
 ·have h := of_decide_eq_true h
  rw [if_pos (by omega)] at k
  exact ⟨H, Gh.le hle1, k⟩
 have h := of_decide_eq_false h
 rw [if_neg (by omega)] at k
 refine bxV hb1 (Qjp (hv.le hle1) hB fun g hg => ?_)
 refine ift.of (fun h => ?_) (fun h => ?_)
 ·have h : formV v = false := by simpa using h
  rw [if_pos h] at k
  exact ⟨H, Gh.le hle1, k⟩
 have hf : formV v = true := by simpa using h
 rw [if_neg (by rw [hf]; decide)] at k
 rw [hg hf]
 refine ift.of (fun h => ?_) (fun h => ?_)
 ·have h : fitsV v = false := by simpa using h
  rw [if_pos h] at k
  exact ⟨H, Gh.le hle1, k⟩
 have hf : fitsV v = true := by simpa using h
 rw [if_neg (by rw [hf]; decide)] at k
 exact ⟨H, Gh.le hle1, k⟩
end
end
section
open Go Go.Proofs
theorem QgT (t : List V) : cmpVs [] t = sgn 0 t.length := by
 cases t with
 | nil => simp [cmpVs, sgn]
 | cons c t => simp only [cmpVs]; unfold sgn; rw [if_pos (by simp <;> omega)]
theorem QfL {s : Str} (h : numS s = true) (hm : isMin s = true) : isMin s.tail = false ∧ s.tail ≠ [] := by
 cases s with
 | nil => simp [isMin] at hm
 | cons c t =>
  have hc : c = 45 := by simpa [isMin] using hm
  subst hc
  cases t with
  | nil => simp [numS, unmin] at h
  | cons d u =>
   refine ⟨?_, by simp⟩
   simp only [numS, unmin, List.head?_cons, if_true, List.tail_cons, Bool.and_eq_true, List.all_cons] at h
   have hd := h.1.2.1
   unfold isMin
   simp only [List.tail_cons, List.head?_cons, Option.some.injEq, decide_eq_false_iff_not]
   rintro rfl
   simp [digC] at hd
theorem Qjm {a b : Str} (ha : isMin a = false) (hb : isMin b = false) : cmpB a b = cmpD a b := by unfold cmpB; rw [ha, hb]; rfl
theorem Qh5 {s : Str} (h : numS s = true) : s ≠ [] := fun e => by subst e; simp [numS, unmin] at h
section
variable {C : Ctx} {H : Heap}
theorem QgS (v w : V) : cmpV v w = if v.k ≠ w.k then sgn v.k w.k else if v.k = 3 then cmpB v.s w.s else if v.k = 4 then vcmpS v.s w.s else if v.k = 5 then cmpVs v.l w.l else if v.k = 6 then (if vcmpS v.s w.s ≠ 0 then vcmpS v.s w.s else cmpVs v.l w.l) else sgn v.n w.n := by
 obtain ⟨k, n, s, l⟩ := v
 obtain ⟨k', n', s', l'⟩ := w
 simp only [cmpV, V.k, V.n, V.s, V.l]
 rfl
theorem Qhd (v : V) : ((checkV v : Int) == 0) = mayV v := by unfold mayV; rw [Bool.eq_iff_iff]; simp
theorem Qcx {v : V} (h : mayV v = true) : formV v = true := ((Qhe v).1 h).2.1
theorem QfO : ∀ {l m : List V}, sameVs l m = true → l.length = m.length
 | [], [], _ => rfl
 | [], _ :: _, h => by simp [sameVs] at h
 | _ :: _, [], h => by simp [sameVs] at h
 | v :: l, w :: m, h => by
  simp only [sameVs, Bool.and_eq_true] at h
  have := QfO h.2
  simp [this]
theorem QeV {l m : List V} {s t : Sl} {H : Heap} {K : Bool → Heap → Prop} (hs : VRow H s l) (ht : VRow H t m) (hl : l.length ≤ 140737488355328)
 (ih : ∀ v ∈ l, ∀ w, ∀ {x y : TV} {K : Bool → Heap → Prop}, VIs H v x → VIs H w y → w ∈ m → K (sameV v w) H → QY C x y K H) (k : K (sameVs l m) H) : QaF C s t K H := by
 apply QeQ
 unfold Qc5
 rw [hs.len, ht.len]
 by_cases hlm : l.length = m.length
 rotate_left
 ·refine Qm (by simp; omega) ?_
  cases hh : sameVs l m with
  | true => exact absurd (QfO hh) hlm
  | false => rw [hh] at k; exact k
 refine Qk (by simp; omega) ?_
 refine ⟨fun x H' => ∃ i : Nat, x = (i : Int) ∧ i ≤ l.length ∧ H = H' ∧ sameVs l m = sameVs (l.drop i) (m.drop i), fun x _ => l.length - x.toNat, ⟨0, rfl, Nat.zero_le _, rfl, rfl⟩, ?_⟩
 rintro x _ ⟨i, rfl, hi, rfl, ha⟩
 refine ift.of (fun h => ?_) (fun h => ?_)
 ·have h1 : i < l.length := by have := of_decide_eq_true h; omega
  have h2 : i < m.length := by omega
  have m1 := List.getElem_mem h1
  have m2 := List.getElem_mem h2
  rw [List.drop_eq_getElem_cons h1, List.drop_eq_getElem_cons h2] at ha
  simp only [sameVs] at ha
  refine ⟨H, Heap.le.refl _, ?_⟩
  refine hs.ld (Heap.le.refl _) rfl h1 fun y hy => ?_
  refine ht.ld (Heap.le.refl _) rfl h2 fun z hz => ?_
  refine ih _ m1 _ hy hz m2 ⟨Heap.le.refl _, ?_⟩
  refine ift.of (fun h => ?_) (fun h => ?_)
  ·have h : sameV l[i] m[i] = false := by simpa using h
   rw [ha, h] at k; exact k
  ·have h : sameV l[i] m[i] = true := by simpa using h
   rw [h, Bool.true_and] at ha
   rw [QcG (by omega) (by omega)]
   exact ⟨⟨i + 1, by omega, by omega, rfl, ha⟩, by first | omega | (dsimp only; omega)⟩
 ·have hie : i = l.length := by have := of_decide_eq_false h; omega
  rw [hie, List.drop_length, hlm, List.drop_length] at ha
  rw [ha] at k; exact k
theorem Qik (v w : V) : sameV v w = (v.k == w.k && v.n == w.n && decide (v.s = w.s) && sameVs v.l w.l) := by
 obtain ⟨k, n, s, l⟩ := v
 obtain ⟨k', n', s', l'⟩ := w
 simp only [sameV, V.k, V.n, V.s, V.l]
 rfl
theorem Qjj {v w : V} {x y : TV} {H : Heap} {K : Bool → Heap → Prop} (hv : VIs H v x) (hw : VIs H w y) (hB : VB v) (k : K (sameV v w) H) : QY C x y K H := by
 refine V.rec_ (P := fun v => ∀ {w x y H} {K : Bool → Heap → Prop}, VIs H v x → VIs H w y → VB v → K (sameV v w) H → QY C x y K H) (fun v ih => ?_) v hv hw hB k
 clear hv hw hB k
 intro w x y H K hv hw hB k
 apply QY.gh
 apply QfV
 unfold Qek
 intro b1 n1 b3 n3
 have hb3 : ((H.put b1 (.row (Qa.c x))).put b3 (.row (Qa.c y))) b3 = some (true, .row (Qa.c y)) := Heap.put_same ..
 have hne : b1 ≠ b3 := fun e => by rw [e, Heap.put_same] at n3; cases n3
 have hb1 : ((H.put b1 (.row (Qa.c x))).put b3 (.row (Qa.c y))) b1 = some (true, .row (Qa.c x)) := by rw [Heap.put_ne _ _ _ hne, Heap.put_same]
 have hle := (Heap.le_put n1 (g := .row (Qa.c x)) (m := true)).trans (Heap.le_put n3 (g := .row (Qa.c y)) (m := true))
 generalize (H.put b1 (.row (Qa.c x))).put b3 (.row (Qa.c y)) = H1 at *
 have k' : ∃ H0, Gh C H1 H0 ∧ K (sameV v w) H0 := ⟨H, Gh.le hle, k⟩
 rw [Qik] at k'
 refine bxK hb1 (bxK hb3 ?_)
 rw [hv.kind, hw.kind]
 refine ⟨fun b H' => H1 = H' ∧ b = (v.k == w.k && v.n == w.n), ?_, ?_⟩
 ·refine ift.of (fun h => ?_) (fun h => ⟨rfl, by rw [h]; rfl⟩)
  refine bxN hb1 (bxN hb3 ⟨rfl, ?_⟩)
  rw [h, hv.num, hw.num]; rfl
 rintro _ _ ⟨rfl, rfl⟩
 refine ⟨fun b H' => H1 = H' ∧ b = (v.k == w.k && v.n == w.n && decide (v.s = w.s)), ?_, ?_⟩
 ·refine ift.of (fun h => ?_) (fun h => ⟨rfl, by rw [h]; rfl⟩)
  refine bxS hb1 (bxS hb3 ⟨rfl, ?_⟩)
  rw [h, hv.txt, hw.txt, Bool.true_and, Bool.eq_iff_iff]; simp
 rintro _ _ ⟨rfl, rfl⟩
 refine ⟨fun b H' => H1 = H' ∧ b = (v.k == w.k && v.n == w.n && decide (v.s = w.s) && sameVs v.l w.l), ?_, ?_⟩
 ·refine ift.of (fun h => ?_) (fun h => ⟨rfl, by rw [h]; rfl⟩)
  refine bxL hb1 (bxL hb3 ?_)
  refine QeV (hv.row.le hle) (hw.row.le hle) hB.l (fun p hp q {x' y'} {K'} hx hy _ kk => ih p hp hx hy (hB.ls.mem hp) kk) ⟨rfl, ?_⟩
  rw [h]; rfl
 rintro _ _ ⟨rfl, rfl⟩
 exact k'
theorem Qhq {l m : List V} {s t : Sl} {H : Heap} {K : Bool → Heap → Prop} (hs : VRow H s l) (ht : VRow H t m) (hl : l.length ≤ 140737488355328) (hB : VBs l) (k : K (sameVs l m) H) : QaF C s t K H :=
 QeV hs ht hl (fun p hp q {x y} {K} hx hy _ kk => Qjj hx hy (hB.mem hp) kk) k
end
end
section
open Go
section
variable {H : Type} {enc : TypeId × Value → H} {P : Program} {W : World}
/-- the type of values -/
structure ValT (P : Program) (t tl : TypeId) : Prop where
 st : ∃ fs : Array Field, P.underlying t = some (.struct fs) ∧ fs.size = 4 ∧ (∃ f tk, fs[0]? = some f ∧ f.type = tk ∧ f.offset = 0 ∧ P.underlying tk = some (.int .u8) ∧ P.cellsOf tk = 1) ∧ (∃ f tk, fs[1]? = some f ∧ f.type = tk ∧ f.offset = 1 ∧ P.underlying tk = some (.int .i64) ∧ P.cellsOf tk = 1) ∧ (∃ f tk, fs[2]? = some f ∧ f.type = tk ∧ f.offset = 2 ∧ P.underlying tk = some .string ∧ P.cellsOf tk = 1) ∧ (∃ f, fs[3]? = some f ∧ f.type = tl ∧ f.offset = 3 ∧ P.cellsOf tl = 1)
 cells : P.cellsOf t = 4
 sl : P.underlying tl = some (.slice t)
end
end
section
open Go
section
variable {H : Type} {enc : TypeId × Value → H} {P : Program} {W : World}
end
end
section
open Go Go.Proofs
/-- a list of rows -/
def VRows (H : Heap) (s : Sl) (ls : List (List V)) : Prop := ∃ xs : List Sl, rdsl H s (xs.map slv) ∧ s.len = xs.length ∧ xs.length = ls.length ∧ ∀ (i : Nat) (x : Sl) (l : List V), xs[i]? = some x → ls[i]? = some l → VRow H x l
theorem VRows.len {H : Heap} {s : Sl} {ls : List (List V)} (h : VRows H s ls) : s.len = ls.length := by
 obtain ⟨xs, h1, h2, h3, h4⟩ := h; omega
section
variable {H : Type} {enc : TypeId × Value → H} {P : Program} {W : World}
end
end
section
open Go Go.Proofs
theorem Qit (a b : UInt8) (s t : Str) : slt (a :: s) (b :: t) = (decide (a < b) || (decide (a = b) && slt s t)) := by
 simp only [slt, Op.bytesLess]
 by_cases h : a < b
 ·simp [h]
 ·by_cases h2 : a = b
  ·subst h2; simp [h]
  ·simp [h, h2]
theorem QdA (a : Int) : sgn a a = 0 := by unfold sgn; rw [if_neg (by omega), if_neg (by omega)]
theorem Qim (a b : Int) : -1 ≤ sgn a b ∧ sgn a b ≤ 1 := by unfold sgn; (split; · omega); (split <;> omega)
theorem QeD {a b : Int} : sgn a b < 0 ↔ a < b := by unfold sgn; (split; · omega); (split <;> omega)
theorem Qah {a b : Int} : sgn a b = 0 ↔ a = b := by unfold sgn; (split; · omega); (split <;> omega)
theorem vslt : ∀ s t : Str, slt s t = decide (vcmpS s t < 0) ∧ (vcmpS s t = 0 ↔ s = t) ∧ -1 ≤ vcmpS s t ∧ vcmpS s t ≤ 1
 | [], [] => ⟨rfl, by simp [vcmpS], by simp [vcmpS], by simp [vcmpS]⟩
 | [], b :: t => ⟨rfl, by simp [vcmpS], by simp [vcmpS], by simp [vcmpS]⟩
 | a :: s, [] => ⟨rfl, by simp [vcmpS], by simp [vcmpS], by simp [vcmpS]⟩
 | a :: s, b :: t => by
  obtain ⟨h1, h2, h3, h4⟩ := vslt s t
  rw [Qit, h1]
  simp only [vcmpS]
  by_cases he : a = b
  ·subst he
   have : ¬ a < a := fun h => Nat.lt_irrefl _ h
   refine ⟨by simp [this], ?_, by rw [if_pos rfl]; exact h3, by rw [if_pos rfl]; exact h4⟩
   rw [if_pos rfl, h2]; simp
  ·have hne : ¬ (a.toNat : Int) = b.toNat := fun h => he (UInt8.toNat_inj.1 (by omega))
   have hz : ¬ sgn a.toNat b.toNat = 0 := fun h => hne (Qah.1 h)
   refine ⟨?_, ?_, ?_⟩
   ·simp only [he, if_false, decide_false, Bool.false_and, Bool.or_false]
    rw [decide_eq_decide, QeD, UInt8.lt_iff_toNat_lt]; omega
   ·simp only [he, if_false, List.cons.injEq, false_and]; exact ⟨fun h => hz h, fun h => h.elim⟩
   ·rw [if_neg he]; exact Qim _ _
section
variable {C : Ctx} {H : Heap}
theorem QiL {a b : Int} {K : Int → Heap → Prop} (k : K (sgn a b) H) : Qa2 C a b K H := by
 have nan : ∀ {a : Int} {K : Bool → Heap → Prop}, K false H → QaP C a K H := fun {a K} k => by
  apply Qd3
  unfold Qcd
  simpa using k
 apply QdC
 unfold QbH
 refine nan (nan (Qk rfl (Qk rfl ?_)))
 unfold sgn at k
 refine ift.of (fun h => ?_) (fun h => ?_)
 ·rw [if_pos (of_decide_eq_true h)] at k; exact k
 rw [if_neg (of_decide_eq_false h)] at k
 refine ift.of (fun h => ?_) (fun h => ?_)
 ·rw [if_pos (show b < a from of_decide_eq_true h)] at k; exact k
 ·rw [if_neg (show ¬ b < a from of_decide_eq_false h)] at k; exact k
theorem Qh7 {a b : Int} {K : Int → Heap → Prop} (k : K (sgn a b) H) : Qa1 C a b K H := by
 have nan : ∀ {a : Int} {K : Bool → Heap → Prop}, K false H → QaO C a K H := fun {a K} k => by
  apply Qd2
  unfold Qcc
  simpa using k
 apply QdB
 unfold QbG
 refine nan (nan (Qk rfl (Qk rfl ?_)))
 unfold sgn at k
 refine ift.of (fun h => ?_) (fun h => ?_)
 ·rw [if_pos (of_decide_eq_true h)] at k; exact k
 rw [if_neg (of_decide_eq_false h)] at k
 refine ift.of (fun h => ?_) (fun h => ?_)
 ·rw [if_pos (show b < a from of_decide_eq_true h)] at k; exact k
 ·rw [if_neg (show ¬ b < a from of_decide_eq_false h)] at k; exact k
theorem QiM {a b : Int} {K : Int → Heap → Prop} (k : K (sgn a b) H) : Qbi C a b K H := by
 have nan : ∀ {a : Int} {K : Bool → Heap → Prop}, K false H → Qbe C a K H := fun {a K} k => by
  apply QeP
  unfold Qc4
  simpa using k
 apply Qd0
 unfold Qcb
 refine nan (nan (Qk rfl (Qk rfl ?_)))
 unfold sgn at k
 refine ift.of (fun h => ?_) (fun h => ?_)
 ·rw [if_pos (of_decide_eq_true h)] at k; exact k
 rw [if_neg (of_decide_eq_false h)] at k
 refine ift.of (fun h => ?_) (fun h => ?_)
 ·rw [if_pos (show b < a from of_decide_eq_true h)] at k; exact k
 ·rw [if_neg (show ¬ b < a from of_decide_eq_false h)] at k; exact k
theorem Qgd {a b : Str} {K : Int → Heap → Prop} (k : K (vcmpS a b) H) : Qv C a b K H := by
 have nan : ∀ {a : Str} {K : Bool → Heap → Prop}, K false H → QW C a K H := fun {a K} k => by
  apply QbQ
  unfold Qa5
  simpa using k
 apply Qbo
 unfold QaK
 obtain ⟨h1, h2, h3, h4⟩ := vslt a b
 refine nan (nan (Qk rfl (Qk rfl ?_)))
 refine ift.of (fun h => ?_) (fun h => ?_)
 ·rw [h1] at h
  have := of_decide_eq_true h
  rw [show vcmpS a b = -1 by omega] at k; exact k
 have hn : ¬ vcmpS a b < 0 := by rw [h1] at h; exact of_decide_eq_false h
 rw [h, Bool.false_or]
 refine ift.of (fun h => ?_) (fun h => ?_)
 ·have : ¬ a = b := by simpa using h
  have : ¬ vcmpS a b = 0 := fun e => this (h2.1 e)
  rw [show vcmpS a b = 1 by omega] at k; exact k
 ·have : a = b := by simpa using h
  rw [h2.2 this] at k; exact k
theorem Qjc {b : Nat} {m : Bool} {l : List Int} {n : Nat} {K : Int → Heap → Prop} (hb : H b = some (m, .row (l.map fun x => Value.int .i64 x))) (hn : n = l.length) (hl : l.length ≤ 1000) (k : K ((l.find? fun x => x != 0).getD 0) H) : Qa6 C (Sl.of (some (b, 0)) n n) K H := by
 subst hn
 apply Qd1
 unfold QcT
 refine ⟨fun x H' => ∃ i : Nat, x = (i : Int) ∧ i ≤ l.length ∧ H = H' ∧ (l.find? fun x => x != 0) = ((l.drop i).find? fun x => x != 0), fun x _ => l.length - x.toNat, ⟨0, rfl, Nat.zero_le _, rfl, rfl⟩, ?_⟩
 rintro x _ ⟨i, rfl, hi, rfl, hc⟩
 refine ift.of (fun h => ?_) (fun h => ?_)
 ·have h1 : i < l.length := by have := of_decide_eq_true h; simp only [Sl.of] at this; omega
  refine ⟨(b, 0), rfl, rfl, by omega, of_decide_eq_true h, l[i], ?_, ?_⟩
  ·simp [rd, hb, GO.cells?, h1]
  rw [List.drop_eq_getElem_cons h1, List.find?_cons] at hc
  refine ift.of (fun h => ?_) (fun h => ?_)
  ·rw [h] at hc
   rw [hc] at k; exact k
  ·rw [h] at hc
   rw [QcG (by omega) (by omega)]
   exact ⟨⟨i + 1, by omega, by omega, rfl, hc⟩, by first | omega | (dsimp only; omega)⟩
 ·have : i = l.length := by have := of_decide_eq_false h; simp only [Sl.of] at this; omega
  subst this
  rw [hc, List.drop_length] at k; exact k
theorem QbP {s p : Str} {K : Bool → Heap → Prop} (k : K (p.isPrefixOf s) H) : Qae C s p K H := by
 apply QdE
 unfold QbJ
 exact QeI k
theorem pre45 (s : Str) : ([45] : Str).isPrefixOf s = isMin s := by
 cases s with
 | nil => rfl
 | cons c s =>
  simp only [List.isPrefixOf, isMin, List.head?_cons, Option.some.injEq, Bool.and_true]
  by_cases h : c = 45
  ·subst h; rfl
  ·have h2 : ¬ (45 : UInt8) = c := fun e => h e.symm
   simp [h, h2]
theorem or2 (a b : Int) : (([a, b].find? fun x => x != 0).getD 0) = if a ≠ 0 then a else b := by
 by_cases h : a = 0
 ·subst h
  by_cases hb : b = 0
  ·subst hb; rfl
  ·simp [hb]
 ·simp [h]
theorem or3 (a b c : Int) : (([a, b, c].find? fun x => x != 0).getD 0) = if a ≠ 0 then a else if b ≠ 0 then b else c := by
 by_cases h : a = 0
 ·subst h
  have := or2 b c
  simpa using this
 ·simp [h]
theorem Qgw {a b : Str} {K : Int → Heap → Prop} (ma : isMin a = false) (mb : isMin b = false) (k : K (cmpD a b) H) : QZ C a b K H := by
 apply QZ.gh
 apply Qd6
 unfold QcU
 refine QbP (QbP ?_)
 rw [pre45, pre45, ma, mb]
 refine Qk rfl (Qk rfl (Qk rfl ?_))
 refine QiM (Qgd ?_)
 intro c hc
 refine Qjc (l := [sgn a.length b.length, vcmpS a b]) (Heap.put_same ..) rfl (by simp) ?_
 refine ⟨H, Gh.le (Heap.le_put hc), ?_⟩
 rw [or2]
 unfold cmpD at k
 by_cases h : a.length = b.length
 ·rw [if_pos h] at k
  rw [if_neg (by rw [h, QdA]; simp)]; exact k
 ·rw [if_neg h] at k
  rw [if_pos (fun e => h (by have := Qah.1 e; omega))]; exact k
theorem QiK {a b : Str} {K : Int → Heap → Prop} (na : numS a = true) (nb : numS b = true) (k : K (cmpB a b) H) : QZ C a b K H := by
 by_cases hn : isMin a = false ∧ isMin b = false
 ·rw [Qjm hn.1 hn.2] at k; exact Qgw hn.1 hn.2 k
 apply Qd6
 unfold QcU
 refine QbP (QbP ?_)
 rw [pre45, pre45]
 unfold cmpB at k
 refine ift.of (fun h => ?_) (fun h => ?_)
 ·obtain ⟨h1, h2⟩ := Bool.and_eq_true_iff.1 h
  rw [if_pos h1, if_pos h2] at k
  have la : 1 ≤ a.length := by have := Qh5 na; cases a <;> simp_all
  have lb : 1 ≤ b.length := by have := Qh5 nb; cases b <;> simp_all
  refine ⟨H, Heap.le.refl _, by omega, by omega, by omega, _, rfl, by omega, by omega, by omega, _, rfl, ?_⟩
  have ea : (a.take (a.length : Int).toNat).drop (1 : Int).toNat = a.tail := by simp
  have eb : (b.take (b.length : Int).toNat).drop (1 : Int).toNat = b.tail := by simp
  rw [ea, eb]
  exact Qgw (QfL nb h2).1 (QfL na h1).1 ⟨Heap.le.refl _, k⟩
 refine ift.of (fun h1 => ?_) (fun h1 => ?_)
 ·rw [if_pos h1] at k
  have h2 : isMin b = false := by rw [h1] at h; simpa using h
  rw [if_neg (by rw [h2]; simp)] at k; exact k
 rw [if_neg (by rw [h1]; simp)] at k
 refine ift.of (fun h2 => ?_) (fun h2 => ?_)
 ·rw [if_pos h2] at k; exact k
 ·exact absurd ⟨h1, h2⟩ hn
theorem QiN {a b : Bool} {K : Int → Heap → Prop} (k : K (lastB a b) H) : Qdf C a b K H := by
 apply QfX
 unfold Qem
 unfold lastB at k
 refine ift.of (fun h => ?_) (fun h => ?_)
 ·rw [if_pos (by simpa using h)] at k; exact k
 rw [if_neg (by simpa using h)] at k
 refine ift.of (fun h => ?_) (fun h => ?_)
 ·rw [if_pos h] at k; exact k
 ·rw [if_neg (by rw [h]; decide)] at k; exact k
theorem Qjq {v : V} {x : TV} {K : Bool → Heap → Prop} (hv : VIs H v x) (hB : VB v) (k : K (!mayV v) H) : Qag C x K H := by
 apply Qag.gh
 apply Qfy
 unfold QdQ
 intro c hc
 have hle := Heap.le_put hc (g := .row (Qa.c x)) (m := true)
 refine bxV (Heap.put_same ..) ?_
 refine Qcr (hv.le hle) hB ⟨H, Gh.le hle, ?_⟩
 rw [bne, Qhd]; exact k
/-- a function that is asked of each value -/
theorem QhW {l : List V} {s : Sl} {f : Value} {φ : V → Bool} {K : Int → Heap → Prop} (hs : VRow H s l) (hl : l.length ≤ 140737488355328)
 (hf : ∀ v x, v ∈ l → VIs H v x → ∀ Φ : Value → Heap → Prop, Φ (.bool (φ v)) H → callU Tryz.prog C f [.agg (Qa.c x).toArray] H Φ)
 (k : ∀ i : Int, (0 ≤ i ↔ l.any φ = true) → K i H) : Qt C s f K H := by
 apply QaE
 unfold QO
 rw [hs.len]
 refine ⟨fun x H' => ∃ i : Nat, x = (i : Int) ∧ i ≤ l.length ∧ H = H' ∧ (l.take i).any φ = false, fun x _ => l.length - x.toNat, ⟨0, rfl, Nat.zero_le _, rfl, rfl⟩, ?_⟩
 rintro x _ ⟨i, rfl, hi, rfl, ha⟩
 refine ift.of (fun h => ?_) (fun h => ?_)
 ·have hlt : i < l.length := by have := of_decide_eq_true h; omega
  have hm := List.getElem_mem hlt
  refine hs.ld (Heap.le.refl _) rfl hlt fun y hy => ?_
  refine hf _ y hm hy _ ⟨_, rfl, ?_⟩
  refine ift.of (fun h => ?_) (fun h => ?_)
  ·exact k _ ⟨fun _ => List.any_eq_true.2 ⟨_, hm, h⟩, fun _ => by omega⟩
  ·rw [QcG (by omega) (by omega)]
   refine ⟨⟨i + 1, by omega, by omega, rfl, ?_⟩, by first | omega | (dsimp only; omega)⟩
   rw [List.take_add_one, List.getElem?_eq_getElem hlt, Option.toList_some, List.any_append, ha]; simp [h]
 ·have hie : i = l.length := by have := of_decide_eq_false h; omega
  rw [hie, List.take_length] at ha
  exact k _ ⟨fun h => by omega, fun h => by rw [h] at ha; cases ha⟩
theorem Qgq {l : List V} {s : Sl} {f : Value} {φ : V → Bool} {K : Bool → Heap → Prop} (hs : VRow H s l) (hl : l.length ≤ 140737488355328)
 (hf : ∀ v x, v ∈ l → VIs H v x → ∀ Φ : Value → Heap → Prop, Φ (.bool (φ v)) H → callU Tryz.prog C f [.agg (Qa.c x).toArray] H Φ)
 (k : K (l.any φ) H) : Qq C s f K H := by
 apply Qaj
 unfold QG
 refine QhW hs hl hf fun i hi => ?_
 have : decide (i ≥ 0) = l.any φ := by
  rw [Bool.eq_iff_iff, decide_eq_true_eq]; exact hi
 rw [this]; exact k
theorem Qh8 {l : List V} {s : Sl} {K : Bool → Heap → Prop} (hs : VRow H s l) (hl : l.length ≤ 140737488355328) (hB : VBs l) (k : K (mayR l) H) : QcM C s K H := by
 apply Qgn
 unfold QeM
 refine Qgq (φ := fun v => !mayV v) hs hl (fun v x hv hx Φ hΦ => ⟨_, [], [], rfl, QfC, ?_⟩) ?_
 ·have h : Qag C x (fun r H2 => Φ (.bool r) H2) H := Qjq hx (hB.mem hv) hΦ
  exact Spec.mono h fun v H2 ⟨r, hv, h⟩ => by rw [hv]; exact h
 ·have : (!(l.any fun v => !mayV v)) = mayR l := by unfold mayR; rw [List.not_any_eq_all_not]; simp
  rw [this]; exact k
/-- rows, value by value -/
theorem QgU {l m : List V} {s t : Sl} {f : Value} {K : Int → Heap → Prop} (hs : VRow H s l) (ht : VRow H t m) (hl : l.length ≤ 140737488355328) (hm : m.length ≤ 140737488355328)
 (hf : ∀ v x w y, v ∈ l → w ∈ m → ∀ A : Heap, H.le A → VIs A v x → VIs A w y → ∀ Φ : Value → Heap → Prop, Φ (.int .i64 (cmpV v w)) A → callU Tryz.prog C f [.agg (Qa.c x).toArray, .agg (Qa.c y).toArray] A Φ)
 (k : K (cmpVs l m) H) : Qe C s t f K H := by
 apply Qe.gh
 apply QH
 unfold Qo
 rw [hs.len, ht.len]
 refine ⟨fun x A => ∃ i : Nat, x = (i : Int) ∧ i ≤ l.length ∧ i ≤ m.length ∧ H.le A ∧ cmpVs l m = cmpVs (l.drop i) (m.drop i), fun x _ => l.length - x.toNat, ⟨0, rfl, Nat.zero_le _, Nat.zero_le _, Heap.le.refl _, rfl⟩, ?_⟩
 rintro x A ⟨i, rfl, hi, hi2, hA, hc⟩
 refine ift.of (fun h => ?_) (fun h => ?_)
 ·have h1 : i < l.length := by have := of_decide_eq_true h; omega
  have m1 := List.getElem_mem h1
  refine hs.ld hA rfl h1 fun y hy => ?_
  intro b1 n1
  have hle1 := Heap.le_put n1 (g := .row (Qa.c Qa.zero)) (m := true)
  refine ⟨_, Heap.put_same .., by simp [Qa.c], ?_⟩
  have e1 : ∀ z : TV, splice (Qa.c Qa.zero) 0 (Qa.c z) = Qa.c z := fun z => by simp [splice, Qa.c]
  dsimp only
  rw [e1, Heap.put_put]
  have hle1 := Heap.le_put n1 (g := .row (Qa.c y)) (m := true)
  refine ift.of (fun h => ?_) (fun h => ?_)
  ·have h2 : i = m.length := by have := of_decide_eq_true h; omega
   refine ⟨H, Gh.le (hA.trans hle1), ?_⟩
   subst h2
   rw [hc, List.drop_length, List.drop_eq_getElem_cons h1] at k; exact k
  ·have h2 : i < m.length := by have := of_decide_eq_false h; omega
   have m2 := List.getElem_mem h2
   rw [List.drop_eq_getElem_cons h1, List.drop_eq_getElem_cons h2] at hc
   refine ht.ld (hA.trans hle1) rfl h2 fun z hz => ?_
   intro b2 n2
   refine ⟨_, Heap.put_same .., by simp [Qa.c], ?_⟩
   dsimp only
   rw [e1, Heap.put_put]
   have hle2 := Heap.le_put n2 (g := .row (Qa.c z)) (m := true)
   have hne : b1 ≠ b2 := fun e => by rw [← e, Heap.put_same] at n2; cases n2
   refine bxV (m := true) (by rw [Heap.put_ne _ _ _ hne, Heap.put_same]) (bxV (m := true) (Heap.put_same ..) ?_)
   have hle := (hA.trans hle1).trans hle2
   refine hf _ y _ z m1 m2 _ hle (hy.le hle) (hz.le hle) _ ⟨_, rfl, ?_⟩
   simp only [cmpVs] at hc
   refine ift.of (fun h => ?_) (fun h => ?_)
   ·rw [if_pos (by simpa using h)] at hc
    rw [hc] at k; exact ⟨H, Gh.le hle, k⟩
   ·rw [if_neg (by simpa using h)] at hc
    rw [QcG (by omega) (by omega)]
    exact ⟨⟨i + 1, by omega, by omega, by omega, hle, hc⟩, by first | omega | (dsimp only; omega)⟩
 ·have h1 : i = l.length := by have := of_decide_eq_false h; omega
  subst h1
  rw [hc, List.drop_length, QgT, List.length_drop] at k
  refine ift.of (fun h => ?_) (fun h => ?_)
  ·have := of_decide_eq_true h
   rw [show sgn 0 ((m.length - l.length : Nat) : Int) = -1 by unfold sgn; rw [if_pos (by omega)]] at k
   exact ⟨H, Gh.le hA, k⟩
  ·have := of_decide_eq_false h
   rw [show sgn 0 ((m.length - l.length : Nat) : Int) = 0 by rw [Qah]; omega] at k
   exact ⟨H, Gh.le hA, k⟩
theorem Qgy {l m : List V} {s t : Sl} {K : Int → Heap → Prop} (hs : VRow H s l) (ht : VRow H t m) (hl : l.length ≤ 140737488355328) (hm : m.length ≤ 140737488355328)
 (ih : ∀ v ∈ l, ∀ w ∈ m, ∀ {A : Heap} {x y : TV} {K : Int → Heap → Prop}, VIs A v x → VIs A w y → K (cmpV v w) A → Qz C x y K A) (k : K (cmpVs l m) H) : Qbr C s t K H := by
 apply QfZ
 unfold Qeo
 refine QgU hs ht hl hm (fun v x w y hv hw A hA hx hy Φ hΦ => ⟨_, [], [], rfl, Qfe, ?_⟩) k
 have h : Qas C x y (fun r H2 => Φ (.int .i64 r) H2) A := by
  apply Qas.gh
  apply Qe1
  unfold Qdt
  intro b1 n1 b3 n3
  have hb3 : ((A.put b1 (.row (Qa.c x))).put b3 (.row (Qa.c y))) b3 = some (true, .row (Qa.c y)) := Heap.put_same ..
  have hne : b1 ≠ b3 := fun e => by rw [e, Heap.put_same] at n3; cases n3
  have hb1 : ((A.put b1 (.row (Qa.c x))).put b3 (.row (Qa.c y))) b1 = some (true, .row (Qa.c x)) := by rw [Heap.put_ne _ _ _ hne, Heap.put_same]
  have hle := (Heap.le_put n1 (g := .row (Qa.c x)) (m := true)).trans (Heap.le_put n3 (g := .row (Qa.c y)) (m := true))
  generalize (A.put b1 (.row (Qa.c x))).put b3 (.row (Qa.c y)) = B at *
  refine bxV hb1 (bxV hb3 ?_)
  exact ih v hv w hw (hx.le hle) (hy.le hle) ⟨A, Gh.le hle, hΦ⟩
 exact Spec.mono h fun v H2 ⟨r, hv, h⟩ => by rw [hv]; exact h
theorem QbT {k n : Int} {s : Str} {m : Nat} (h : okN k n s m = true) : (k = 1 ∧ s = [] ∧ m = 0) ∨ (k = 2 ∧ s = [] ∧ m = 0) ∨ (k = 3 ∧ n = 0 ∧ m = 0) ∨ (k = 4 ∧ n = 0 ∧ m = 0) ∨ (k = 5 ∧ n = 0 ∧ s = []) ∨ (k = 6 ∧ n = 0) := by
 unfold okN at h
 split at h
 ·rename_i e
  simp only [Bool.and_eq_true, decide_eq_true_eq, List.isEmpty_iff] at h
  exact .inl ⟨e, h.1.2, h.2⟩
 split at h
 ·rename_i e
  simp only [Bool.and_eq_true, decide_eq_true_eq, List.isEmpty_iff] at h
  exact .inr (.inl ⟨e, h.1, h.2⟩)
 split at h
 ·rename_i e
  simp only [Bool.and_eq_true, decide_eq_true_eq, beq_iff_eq] at h
  exact .inr (.inr (.inl ⟨e, h.1.2, h.2⟩))
 split at h
 ·rename_i e
  simp only [Bool.and_eq_true, decide_eq_true_eq, beq_iff_eq] at h
  exact .inr (.inr (.inr (.inl ⟨e, h.1, h.2⟩)))
 split at h
 ·rename_i e
  simp only [Bool.and_eq_true, decide_eq_true_eq, beq_iff_eq, List.isEmpty_iff] at h
  exact .inr (.inr (.inr (.inr (.inl ⟨e, h.1.1, h.1.2⟩))))
 split at h
 ·rename_i e
  simp only [Bool.and_eq_true, decide_eq_true_eq, beq_iff_eq] at h
  exact .inr (.inr (.inr (.inr (.inr ⟨e, h.1⟩))))
 ·cases h
theorem Qjr {v w : V} {x y : TV} {H : Heap} {K : Int → Heap → Prop} (hv : VIs H v x) (hw : VIs H w y) (hB : VB v) (hB2 : VB w) (hF : formV v = true) (hF2 : formV w = true) (k : K (cmpV v w) H) : Qz C x y K H := by
 refine V.rec_ (P := fun v => ∀ {w x y H} {K : Int → Heap → Prop}, VIs H v x → VIs H w y → VB v → VB w → formV v = true → formV w = true → K (cmpV v w) H → Qz C x y K H) (fun v ih => ?_) v hv hw hB hB2 hF hF2 k
 clear hv hw hB hB2 hF hF2 k
 intro w x y H K hv hw hB hB2 hF hF2 k
 apply Qz.gh
 apply Qeu
 unfold QcF
 intro b1 n1 b3 n3
 have hb3 : ((H.put b1 (.row (Qa.c x))).put b3 (.row (Qa.c y))) b3 = some (true, .row (Qa.c y)) := Heap.put_same ..
 have hne : b1 ≠ b3 := fun e => by rw [e, Heap.put_same] at n3; cases n3
 have hb1 : ((H.put b1 (.row (Qa.c x))).put b3 (.row (Qa.c y))) b1 = some (true, .row (Qa.c x)) := by rw [Heap.put_ne _ _ _ hne, Heap.put_same]
 have hle := (Heap.le_put n1 (g := .row (Qa.c x)) (m := true)).trans (Heap.le_put n3 (g := .row (Qa.c y)) (m := true))
 generalize (H.put b1 (.row (Qa.c x))).put b3 (.row (Qa.c y)) = H1 at *
 have k' : ∃ H0, Gh C H1 H0 ∧ K (cmpV v w) H0 := ⟨H, Gh.le hle, k⟩
 rw [QeT, Bool.and_eq_true] at hF hF2
 rw [QgS] at k'
 refine bxK hb1 (bxK hb3 ?_)
 rw [hv.kind, hw.kind]
 refine QiL ?_
 refine ift.of (fun h => ?_) (fun h => ?_)
 ·rw [if_pos (fun e => by rw [e, QdA] at h; simp at h)] at k'; exact k'
 have hkk : v.k = w.k := Qah.1 (by simpa using h)
 rw [if_neg (by simp [hkk])] at k'
 have hr1 := hv.row.le hle
 have hr2 := hw.row.le hle
 refine bxK hb1 ?_
 rw [hv.kind]
 refine ift.of (fun h => ?_) (fun h3 => ?_)
 ·have h : v.k = 3 := by simpa using h
  rw [if_pos h] at k'
  refine bxS hb1 (bxS hb3 ?_)
  rw [hv.txt, hw.txt]
  exact QiK (Qh6 hF.1 h) (Qh6 hF2.1 (by omega)) k'
 have h3 : ¬ v.k = 3 := by simpa using h3
 rw [if_neg h3] at k'
 refine ift.of (fun h => ?_) (fun h4 => ?_)
 ·have h : v.k = 4 := by simpa using h
  rw [if_pos h] at k'
  refine bxS hb1 (bxS hb3 ?_)
  rw [hv.txt, hw.txt]
  exact Qgd k'
 have h4 : ¬ v.k = 4 := by simpa using h4
 rw [if_neg h4] at k'
 refine ⟨H1, Heap.le.refl _, ?_⟩
 refine bxN hb1 (bxN hb3 (bxS hb1 (bxS hb3 (bxL hb1 (bxL hb3 ?_)))))
 rw [hv.num, hw.num, hv.txt, hw.txt]
 refine Qh7 ⟨Heap.le.refl _, Qgd ⟨Heap.le.refl _, ?_⟩⟩
 refine Qgy hr1 hr2 hB.l hB2.l (fun p hp q hq {A x' y'} {K'} hx hy kk => ih p hp hx hy (hB.ls.mem hp) (hB2.ls.mem hq) (Qex hp hF.2) (Qex hq hF2.2) kk) ⟨Heap.le.refl _, ?_⟩
 intro b5 n5
 have hle5 := Heap.le_put n5 (g := .row [Value.int .i64 (sgn v.n w.n), .int .i64 (vcmpS v.s w.s), .int .i64 (cmpVs v.l w.l)]) (m := true)
 refine ⟨hle5, ?_⟩
 refine Qjc (l := [sgn v.n w.n, vcmpS v.s w.s, cmpVs v.l w.l]) (Heap.put_same ..) rfl (by simp) ⟨hle5, ?_⟩
 rw [or3]
 obtain ⟨H0, hg, hk⟩ := k'
 refine ⟨H0, (Gh.le hle5).trans hg, ?_⟩
 rcases QbT hF.1 with ⟨e, e1, e2⟩ | ⟨e, e1, e2⟩ | ⟨e, _⟩ | ⟨e, _⟩ | ⟨e, e1, e2⟩ | ⟨e, e1⟩
 ·rcases QbT hF2.1 with ⟨f, f1, f2⟩ | ⟨f, _⟩ | ⟨f, _⟩ | ⟨f, _⟩ | ⟨f, _⟩ | ⟨f, _⟩ <;> try (exfalso; omega)
  rw [if_neg (by omega), if_neg (by omega)] at hk
  have l1 := List.length_eq_zero_iff.1 e2
  have l2 := List.length_eq_zero_iff.1 f2
  rw [e1, f1, l1, l2]
  split
  ·exact hk
  ·rename_i hz
   have : sgn v.n w.n = 0 := by omega
   rw [this] at hk
   simpa [vcmpS, cmpVs] using hk
 ·rcases QbT hF2.1 with ⟨f, _⟩ | ⟨f, f1, f2⟩ | ⟨f, _⟩ | ⟨f, _⟩ | ⟨f, _⟩ | ⟨f, _⟩ <;> try (exfalso; omega)
  rw [if_neg (by omega), if_neg (by omega)] at hk
  have l1 := List.length_eq_zero_iff.1 e2
  have l2 := List.length_eq_zero_iff.1 f2
  rw [e1, f1, l1, l2]
  split
  ·exact hk
  ·rename_i hz
   have : sgn v.n w.n = 0 := by omega
   rw [this] at hk
   simpa [vcmpS, cmpVs] using hk
 ·exact absurd e h3
 ·exact absurd e h4
 ·rcases QbT hF2.1 with ⟨f, _⟩ | ⟨f, _⟩ | ⟨f, _⟩ | ⟨f, _⟩ | ⟨f, f1, f2⟩ | ⟨f, _⟩ <;> try (exfalso; omega)
  rw [if_pos e] at hk
  rw [e1, f1, e2, f2, QdA]
  simpa [vcmpS] using hk
 ·rcases QbT hF2.1 with ⟨f, _⟩ | ⟨f, _⟩ | ⟨f, _⟩ | ⟨f, _⟩ | ⟨f, _⟩ | ⟨f, f1⟩ <;> try (exfalso; omega)
  rw [if_neg (by omega), if_pos e] at hk
  rw [e1, f1, QdA]
  simpa using hk
theorem QiO {l m : List V} {s t : Sl} {K : Int → Heap → Prop} (hs : VRow H s l) (ht : VRow H t m) (hl : l.length ≤ 140737488355328) (hm : m.length ≤ 140737488355328) (hB : VBs l) (hB2 : VBs m) (hF : mayR l = true) (hF2 : mayR m = true) (k : K (cmpVs l m) H) : Qbr C s t K H :=
 Qgy hs ht hl hm (fun p hp q hq {A x' y'} {K'} hx hy kk => Qjr hx hy (hB.mem hp) (hB2.mem hq) (Qcx (List.all_eq_true.1 hF p hp)) (Qcx (List.all_eq_true.1 hF2 q hq)) kk) k
theorem Qff {l m : List V} {s t : Sl} {K : Int → Heap → Prop} (hs : VRow H s l) (ht : VRow H t m) (hl : l.length ≤ 140737488355328) (hm : m.length ≤ 140737488355328) (hB : VBs l) (hB2 : VBs m) (k : K (cmpR l m) H) : Qbg C s t K H := by
 apply QeR
 unfold Qc6
 refine Qh8 hs hl hB (Qh8 ht hm hB2 ?_)
 unfold cmpR at k
 refine ift.of (fun h => ?_) (fun h => ?_)
 ·refine QiN ?_
  rw [if_neg (by intro hh; rw [hh.1, hh.2] at h; cases h)] at k; exact k
 ·have h1 : mayR l = true ∧ mayR m = true := by simpa using h
  rw [if_pos h1] at k
  exact QiO hs ht hl hm hB hB2 h1.1 h1.2 k
end
end
section
open Go Go.Proofs
/-- an order, told by signs -/
structure Lin {α : Type} (f : α → α → Int) (P : α → Prop) : Prop where
 anti : ∀ a b, P a → P b → f b a = - f a b
 rng : ∀ a b, P a → P b → -1 ≤ f a b ∧ f a b ≤ 1
 tr : ∀ a b c, P a → P b → P c → f a b ≤ 0 → f b c ≤ 0 → f a c ≤ 0 ∧ (f a b < 0 ∨ f b c < 0 → f a c < 0)
section
variable {α β : Type} {f g : α → α → Int} {P Q : α → Prop}
theorem Lin.refl (h : Lin f P) {a : α} (ha : P a) : f a a = 0 := by have := h.anti a a ha ha; omega
theorem Lin.l0 (h : Lin f P) {a b c : α} (ha : P a) (hb : P b) (hc : P c) (e : f a b = 0) : f a c = f b c := by
 have t1 := h.tr a b c ha hb hc (by omega)
 have e' := h.anti a b ha hb
 have t2 := h.tr b a c hb ha hc (by omega)
 have r1 := h.rng a c ha hc
 have r2 := h.rng b c hb hc
 rcases Int.lt_trichotomy (f b c) 0 with h1 | h1 | h1
 ·have := (t1 (by omega)).2 (.inr h1); omega
 ·have k1 := (t1 (by omega)).1
  rcases Int.lt_trichotomy (f a c) 0 with h2 | h2 | h2
  ·have := (t2 (by omega)).2 (.inr h2); omega
  ·omega
  ·omega
 ·rcases Int.lt_trichotomy (f a c) 0 with h2 | h2 | h2
  ·have := (t2 (by omega)).2 (.inr h2); omega
  ·have := (t2 (by omega)).1; omega
  ·omega
theorem Lin.r0 (h : Lin f P) {a b c : α} (ha : P a) (hb : P b) (hc : P c) (e : f b c = 0) : f a c = f a b := by
 have h1 := h.anti b c hb hc
 have h2 := h.l0 hc hb ha (by omega)
 have h3 := h.anti a c ha hc
 have h4 := h.anti a b ha hb
 omega
theorem Lin.sub (h : Lin f P) (hs : ∀ a, Q a → P a) : Lin f Q := ⟨fun a b ha hb => h.anti a b (hs a ha) (hs b hb), fun a b ha hb => h.rng a b (hs a ha) (hs b hb), fun a b c ha hb hc => h.tr a b c (hs a ha) (hs b hb) (hs c hc)⟩
theorem Lin.swap (h : Lin f P) : Lin (fun a b => f b a) P := ⟨fun a b ha hb => h.anti b a hb ha, fun a b ha hb => h.rng b a hb ha, fun a b c ha hb hc h1 h2 => by
 have := h.tr c b a hc hb ha h2 h1
 exact ⟨this.1, fun hh => this.2 hh.symm⟩⟩
theorem Lin.comp {f : β → β → Int} {P : β → Prop} (h : Lin f P) (u : α → β) : Lin (fun a b => f (u a) (u b)) (fun a => P (u a)) :=
 ⟨fun a b ha hb => h.anti _ _ ha hb, fun a b ha hb => h.rng _ _ ha hb, fun a b c ha hb hc => h.tr _ _ _ ha hb hc⟩
theorem Lin.or (h : Lin f P) (h2 : Lin g P) : Lin (fun a b => if f a b ≠ 0 then f a b else g a b) P := by
 refine ⟨fun a b ha hb => ?_, fun a b ha hb => ?_, fun a b c ha hb hc => ?_⟩
 ·have e1 := h.anti a b ha hb
  have e2 := h2.anti a b ha hb
  try dsimp only
  by_cases hz : f a b = 0
  ·rw [if_neg (by omega), if_neg (by omega)]; exact e2
  ·rw [if_pos (by omega), if_pos (by omega)]; exact e1
 ·try dsimp only
  split
  ·exact h.rng a b ha hb
  ·exact h2.rng a b ha hb
 ·try dsimp only
  have t := h.tr a b c ha hb hc
  have t2 := h2.tr a b c ha hb hc
  by_cases h1 : f a b = 0
  ·have e := h.l0 ha hb hc h1
   by_cases h3 : f b c = 0
   ·rw [if_neg (by omega), if_neg (by omega), if_neg (by omega)]; exact t2
   ·rw [if_neg (by omega), if_pos h3, if_pos (by omega)]
    intro _ k2
    exact ⟨by omega, fun _ => by omega⟩
  ·by_cases h3 : f b c = 0
   ·have e := h.r0 ha hb hc h3
    rw [if_pos h1, if_neg (by omega), if_pos (by omega)]
    intro k1 _
    exact ⟨by omega, fun _ => by omega⟩
   ·rw [if_pos h1, if_pos h3]
    intro k1 k2
    have := (t k1 k2).2 (.inl (by omega))
    rw [if_pos (by omega)]
    exact ⟨by omega, fun _ => this⟩
/-- first by classes, then within a class -/
theorem Lin.sel {κ : α → Int} {B : Int → α → α → Int} (hs : Lin (fun a b : Int => sgn a b) fun _ => True) (h : ∀ k, Lin (B k) P) : Lin (fun a b => if κ a ≠ κ b then sgn (κ a) (κ b) else B (κ a) a b) P := by
 refine ⟨fun a b ha hb => ?_, fun a b ha hb => ?_, fun a b c ha hb hc => ?_⟩
 ·try dsimp only
  by_cases hz : κ a = κ b
  ·rw [if_neg (by omega), if_neg (by omega), hz]; exact (h _).anti a b ha hb
  ·rw [if_pos (by omega), if_pos (by omega)]; exact hs.anti _ _ trivial trivial
 ·try dsimp only
  split
  ·exact hs.rng _ _ trivial trivial
  ·exact (h _).rng a b ha hb
 ·try dsimp only
  have t := hs.tr (κ a) (κ b) (κ c) trivial trivial trivial
  try dsimp only at t
  by_cases h1 : κ a = κ b
  ·by_cases h3 : κ b = κ c
   ·rw [if_neg (by omega), if_neg (by omega), if_neg (by omega), ← h1]; exact (h _).tr a b c ha hb hc
   ·rw [if_neg (by omega), if_pos h3, if_pos (by omega), h1]
    intro _ k2
    have := Qah (a := κ b) (b := κ c)
    exact ⟨by omega, fun _ => by omega⟩
  ·have z1 := Qah (a := κ a) (b := κ b)
   by_cases h3 : κ b = κ c
   ·rw [if_pos h1, if_neg (by omega), if_pos (by omega), ← h3]
    intro k1 _
    exact ⟨by omega, fun _ => by omega⟩
   ·rw [if_pos h1, if_pos h3]
    intro k1 k2
    have := (t k1 k2).2 (.inl (by omega))
    have z2 := QeD.1 this
    rw [if_pos (by omega)]
    exact ⟨by omega, fun _ => this⟩
end
theorem Lin.sgn : Lin (fun a b : Int => sgn a b) fun _ => True := by
 refine ⟨fun a b _ _ => ?_, fun a b _ _ => Qim a b, fun a b c _ _ _ h1 h2 => ?_⟩
 ·unfold Sx.sgn; split <;> split <;> omega
 ·have n1 := QeD (a := a) (b := b)
  have n2 := QeD (a := b) (b := c)
  have n3 := QeD (a := a) (b := c)
  have z1 := Qah (a := a) (b := b)
  have z2 := Qah (a := b) (b := c)
  have z3 := Qah (a := a) (b := c)
  omega
def lexF {α : Type} (f : α → α → Int) : List α → List α → Int
 | [], [] => 0
 | [], _ :: _ => -1
 | _ :: _, [] => 1
 | a :: s, b :: t => if f a b ≠ 0 then f a b else lexF f s t
theorem Lin.lex {α : Type} {f : α → α → Int} {P : α → Prop} (h : Lin f P) : Lin (lexF f) (fun l => ∀ a ∈ l, P a) := by
 refine ⟨fun l => ?_, fun l => ?_, fun l => ?_⟩
 ·induction l with
  | nil => intro m _ _; cases m <;> simp [lexF]
  | cons a l ih =>
   intro m hl hm
   cases m with
   | nil => simp [lexF]
   | cons b m =>
    have ha := hl a (List.mem_cons_self ..)
    have hb := hm b (List.mem_cons_self ..)
    have e1 := h.anti a b ha hb
    have e2 := ih m (fun x hx => hl x (List.mem_cons_of_mem _ hx)) (fun x hx => hm x (List.mem_cons_of_mem _ hx))
    simp only [lexF]
    by_cases hz : f a b = 0
    ·rw [if_neg (by omega), if_neg (by omega)]; exact e2
    ·rw [if_pos (by omega), if_pos (by omega)]; exact e1
 ·induction l with
  | nil => intro m _ _; cases m <;> simp [lexF]
  | cons a l ih =>
   intro m hl hm
   cases m with
   | nil => simp [lexF]
   | cons b m =>
    simp only [lexF]
    split
    ·exact h.rng a b (hl a (List.mem_cons_self ..)) (hm b (List.mem_cons_self ..))
    ·exact ih m (fun x hx => hl x (List.mem_cons_of_mem _ hx)) (fun x hx => hm x (List.mem_cons_of_mem _ hx))
 ·induction l with
  | nil =>
   intro m n _ _ _ h1 h2
   cases n with
   | nil =>
    cases m with
    | nil => simp [lexF]
    | cons b m => simp [lexF] at h2
   | cons c n => simp [lexF]
  | cons a l ih =>
   intro m n hl hm hn
   cases m with
   | nil => intro h1; simp [lexF] at h1
   | cons b m =>
   cases n with
   | nil => intro _ h2; simp [lexF] at h2
   | cons c n =>
    have ha := hl a (List.mem_cons_self ..)
    have hb := hm b (List.mem_cons_self ..)
    have hc := hn c (List.mem_cons_self ..)
    have t := h.tr a b c ha hb hc
    have t2 := ih m n (fun x hx => hl x (List.mem_cons_of_mem _ hx)) (fun x hx => hm x (List.mem_cons_of_mem _ hx)) (fun x hx => hn x (List.mem_cons_of_mem _ hx))
    simp only [lexF]
    by_cases h1 : f a b = 0
    ·have e := h.l0 ha hb hc h1
     by_cases h3 : f b c = 0
     ·rw [if_neg (by omega), if_neg (by omega), if_neg (by omega)]; exact t2
     ·rw [if_neg (by omega), if_pos h3, if_pos (by omega)]
      intro _ k2
      exact ⟨by omega, fun _ => by omega⟩
    ·by_cases h3 : f b c = 0
     ·have e := h.r0 ha hb hc h3
      rw [if_pos h1, if_neg (by omega), if_pos (by omega)]
      intro k1 _
      exact ⟨by omega, fun _ => by omega⟩
     ·rw [if_pos h1, if_pos h3]
      intro k1 k2
      have := (t k1 k2).2 (.inl (by omega))
      rw [if_pos (by omega)]
      exact ⟨by omega, fun _ => this⟩
theorem QgL : ∀ s t : Str, vcmpS s t = lexF (fun a b : UInt8 => sgn a.toNat b.toNat) s t
 | [], [] => rfl
 | [], _ :: _ => rfl
 | _ :: _, [] => rfl
 | a :: s, b :: t => by
  simp only [vcmpS, lexF, QgL s t]
  by_cases h : a = b
  ·subst h; rw [QdA]; simp
  ·have : ¬ sgn a.toNat b.toNat = 0 := fun e => h (UInt8.toNat_inj.1 (by have := Qah.1 e; omega))
   rw [if_neg h, if_pos this]
theorem Lin.txt : Lin vcmpS fun _ => True := by
 have h := (Lin.sgn.comp (fun a : UInt8 => (a.toNat : Int))).lex
 have e : vcmpS = lexF (fun a b : UInt8 => Sx.sgn a.toNat b.toNat) := funext fun s => funext fun t => QgL s t
 rw [e]
 exact h.sub fun _ _ _ _ => trivial
theorem Lin.dig : Lin cmpD fun _ => True := by
 have h := (Lin.sgn.comp (fun a : Str => (a.length : Int))).or Lin.txt
 have e : cmpD = fun a b : Str => if Sx.sgn a.length b.length ≠ 0 then Sx.sgn a.length b.length else vcmpS a b := funext fun a => funext fun b => by
  unfold cmpD
  by_cases hl : a.length = b.length
  ·rw [if_pos hl, if_neg (by rw [hl, QdA]; simp)]
  ·rw [if_neg hl, if_pos (fun e => hl (by have := Qah.1 e; omega))]
 rw [e]; exact h
theorem Lin.bigs : Lin cmpB fun _ => True := by
 have h := Lin.sel (α := Str) (P := fun _ => True) (κ := fun s => if isMin s then 0 else 1) (B := fun k a b => if k = 0 then cmpD b.tail a.tail else cmpD a b) Lin.sgn fun k => by
  by_cases hk : k = 0
  ·subst hk
   simp only [if_true]
   exact (Lin.dig.swap.comp List.tail)
  ·simp only [if_neg hk]
   exact Lin.dig
 have e : cmpB = fun a b : Str => if (if isMin a then (0 : Int) else 1) ≠ (if isMin b then 0 else 1) then Sx.sgn (if isMin a then 0 else 1) (if isMin b then 0 else 1) else (if (if isMin a then (0 : Int) else 1) = 0 then cmpD b.tail a.tail else cmpD a b) := funext fun a => funext fun b => by
  unfold cmpB
  cases ha : isMin a <;> cases hb : isMin b <;> simp [Sx.sgn]
 rw [e]; exact h
theorem Qe3 : ∀ l m : List V, cmpVs l m = lexF cmpV l m
 | [], [] => rfl
 | [], _ :: _ => rfl
 | _ :: _, [] => rfl
 | v :: l, w :: m => by simp only [cmpVs, lexF, Qe3 l m]
theorem Lin.vals : ∀ n : Nat, Lin cmpV fun v => vsize v ≤ n := by
 intro n
 induction n with
 | zero => exact ⟨fun a b ha => by obtain ⟨k, n, s, l⟩ := a; simp [vsize] at ha, fun a b ha => by obtain ⟨k, n, s, l⟩ := a; simp [vsize] at ha, fun a b c ha => by obtain ⟨k, n, s, l⟩ := a; simp [vsize] at ha⟩
 | succ n ih =>
  have hl : Lin (fun v w : V => cmpVs v.l w.l) fun v => vsize v ≤ n + 1 := by
   have h := (ih.lex).comp V.l
   have e : (fun v w : V => cmpVs v.l w.l) = fun v w : V => lexF cmpV v.l w.l := funext fun v => funext fun w => Qe3 _ _
   rw [e]
   exact h.sub fun v hv x hx => by have := Qg2 hx; omega
  have hs : Lin (fun v w : V => vcmpS v.s w.s) fun v => vsize v ≤ n + 1 := (Lin.txt.comp V.s).sub fun _ _ => trivial
  have h := Lin.sel (α := V) (P := fun v => vsize v ≤ n + 1) (κ := V.k) (B := fun k v w => if k = 3 then cmpB v.s w.s else if k = 4 then vcmpS v.s w.s else if k = 5 then cmpVs v.l w.l else if k = 6 then (if vcmpS v.s w.s ≠ 0 then vcmpS v.s w.s else cmpVs v.l w.l) else Sx.sgn v.n w.n) Lin.sgn fun k => by
   by_cases h3 : k = 3
   ·simp only [if_pos h3]; exact (Lin.bigs.comp V.s).sub fun _ _ => trivial
   simp only [if_neg h3]
   by_cases h4 : k = 4
   ·simp only [if_pos h4]; exact hs
   simp only [if_neg h4]
   by_cases h5 : k = 5
   ·simp only [if_pos h5]; exact hl
   simp only [if_neg h5]
   by_cases h6 : k = 6
   ·simp only [if_pos h6]; exact hs.or hl
   simp only [if_neg h6]
   exact (Lin.sgn.comp V.n).sub fun _ _ => trivial
  have e : cmpV = fun v w : V => if v.k ≠ w.k then Sx.sgn v.k w.k else if v.k = 3 then cmpB v.s w.s else if v.k = 4 then vcmpS v.s w.s else if v.k = 5 then cmpVs v.l w.l else if v.k = 6 then (if vcmpS v.s w.s ≠ 0 then vcmpS v.s w.s else cmpVs v.l w.l) else Sx.sgn v.n w.n := funext fun v => funext fun w => QgS v w
  rw [e]; exact h
theorem Lin.val : Lin cmpV fun _ => True := by
 refine ⟨fun a b _ _ => ?_, fun a b _ _ => ?_, fun a b c _ _ _ => ?_⟩
 ·exact (Lin.vals (vsize a + vsize b)).anti a b (by omega) (by omega)
 ·exact (Lin.vals (vsize a + vsize b)).rng a b (by omega) (by omega)
 ·exact (Lin.vals (vsize a + vsize b + vsize c)).tr a b c (by omega) (by omega) (by omega)
theorem Lin.vs : Lin cmpVs fun _ => True := by
 have e : cmpVs = lexF cmpV := funext fun l => funext fun m => Qe3 l m
 rw [e]
 exact Lin.val.lex.sub fun _ _ _ _ => trivial
theorem Lin.row : Lin cmpR fun _ => True := by
 have h := Lin.sel (α := List V) (P := fun _ => True) (κ := fun l => if mayR l then 0 else 1) (B := fun k a b => if k = 0 then cmpVs a b else 0) Lin.sgn fun k => by
  by_cases hk : k = 0
  ·simp only [if_pos hk]; exact Lin.vs
  ·simp only [if_neg hk]
   exact ⟨fun _ _ _ _ => rfl, fun _ _ _ _ => by simp, fun _ _ _ _ _ _ _ _ => by simp⟩
 have e : cmpR = fun a b : List V => if (if mayR a then (0 : Int) else 1) ≠ (if mayR b then 0 else 1) then Sx.sgn (if mayR a then 0 else 1) (if mayR b then 0 else 1) else (if (if mayR a then (0 : Int) else 1) = 0 then cmpVs a b else 0) := funext fun a => funext fun b => by
  unfold cmpR lastB
  cases ha : mayR a <;> cases hb : mayR b <;> simp [Sx.sgn]
 rw [e]; exact h
theorem Qgo {a b : Str} (h : cmpD a b = 0) : a = b := by
 unfold cmpD at h
 by_cases hl : a.length = b.length
 ·rw [if_pos hl] at h; exact (vslt a b).2.1.1 h
 ·rw [if_neg hl] at h; exact absurd (Qah.1 h) (by omega)
theorem QfJ {a : Str} (h : isMin a = true) : a = 45 :: a.tail := by
 cases a with
 | nil => simp [isMin] at h
 | cons c a => simp [isMin] at h; rw [h]; rfl
theorem QhK {a b : Str} (h : cmpB a b = 0) : a = b := by
 unfold cmpB at h
 cases ha : isMin a <;> cases hb : isMin b <;> rw [ha, hb] at h
 ·exact Qgo (by simpa using h)
 ·simp at h
 ·simp at h
 ·have := Qgo (by simpa using h)
  rw [QfJ ha, QfJ hb, this]
theorem QhM {v w : V} (hv : formV v = true) (hw : formV w = true) (h : cmpV v w = 0) : v = w := by
 have key : ∀ n, ∀ v w : V, vsize v ≤ n → formV v = true → formV w = true → cmpV v w = 0 → v = w := by
  intro n
  induction n with
  | zero => intro v w hn; obtain ⟨k, n, s, l⟩ := v; simp [vsize] at hn
  | succ n ih =>
   intro v w hn hv hw h
   have hrow : ∀ l m : List V, (∀ x ∈ l, vsize x ≤ n) → formVs l = true → formVs m = true → cmpVs l m = 0 → l = m := by
    intro l
    induction l with
    | nil => intro m _ _ _ h; cases m with
     | nil => rfl
     | cons w m => simp [cmpVs] at h
    | cons a l ihl =>
     intro m hn hl hm h
     cases m with
     | nil => simp [cmpVs] at h
     | cons b m =>
      simp only [cmpVs] at h
      simp only [formVs, Bool.and_eq_true] at hl hm
      split at h
      ·rename_i h1; exact absurd h h1
      ·rename_i h1
       have h1 : cmpV a b = 0 := by omega
       rw [ih a b (hn a (List.mem_cons_self ..)) hl.1 hm.1 h1, ihl m (fun x hx => hn x (List.mem_cons_of_mem _ hx)) hl.2 hm.2 h]
   have hvl : ∀ x ∈ v.l, vsize x ≤ n := fun x hx => by have := Qg2 hx; omega
   rw [QeT, Bool.and_eq_true] at hv hw
   rw [QgS] at h
   have ext : v.k = w.k → v.n = w.n → v.s = w.s → v.l = w.l → v = w := by
    intro e1 e2 e3 e4
    obtain ⟨k, n1, s, l⟩ := v
    obtain ⟨k', n1', s', l'⟩ := w
    have e1 : k = k' := e1
    have e2 : n1 = n1' := e2
    have e3 : s = s' := e3
    have e4 : l = l' := e4
    rw [e1, e2, e3, e4]
   by_cases hk : v.k = w.k
   ·rw [if_neg (by simp [hk])] at h
    rcases QbT hv.1 with ⟨e, e1, e2⟩ | ⟨e, e1, e2⟩ | ⟨e, e1, e2⟩ | ⟨e, e1, e2⟩ | ⟨e, e1, e2⟩ | ⟨e, e1⟩ <;>
    rcases QbT hw.1 with ⟨f, f1, f2⟩ | ⟨f, f1, f2⟩ | ⟨f, f1, f2⟩ | ⟨f, f1, f2⟩ | ⟨f, f1, f2⟩ | ⟨f, f1⟩ <;> try (exfalso; omega)
    ·rw [if_neg (by omega), if_neg (by omega), if_neg (by omega), if_neg (by omega)] at h
     exact ext hk (Qah.1 h) (e1.trans f1.symm) ((List.length_eq_zero_iff.1 e2).trans (List.length_eq_zero_iff.1 f2).symm)
    ·rw [if_neg (by omega), if_neg (by omega), if_neg (by omega), if_neg (by omega)] at h
     exact ext hk (Qah.1 h) (e1.trans f1.symm) ((List.length_eq_zero_iff.1 e2).trans (List.length_eq_zero_iff.1 f2).symm)
    ·rw [if_pos e] at h
     exact ext hk (e1.trans f1.symm) (QhK h) ((List.length_eq_zero_iff.1 e2).trans (List.length_eq_zero_iff.1 f2).symm)
    ·rw [if_neg (by omega), if_pos e] at h
     exact ext hk (e1.trans f1.symm) ((vslt v.s w.s).2.1.1 h) ((List.length_eq_zero_iff.1 e2).trans (List.length_eq_zero_iff.1 f2).symm)
    ·rw [if_neg (by omega), if_neg (by omega), if_pos e] at h
     exact ext hk (e1.trans f1.symm) (e2.trans f2.symm) (hrow v.l w.l hvl hv.2 hw.2 h)
    ·rw [if_neg (by omega), if_neg (by omega), if_neg (by omega), if_pos e] at h
     split at h
     ·rename_i h1; exact absurd h h1
     ·rename_i h1
      exact ext hk (e1.trans f1.symm) ((vslt v.s w.s).2.1.1 (by omega)) (hrow v.l w.l hvl hv.2 hw.2 h)
   ·rw [if_pos hk] at h; exact absurd (Qah.1 h) hk
 exact key _ v w (Nat.le_refl _) hv hw h
theorem QfG : ∀ {l m : List V}, mayR l = true → mayR m = true → cmpVs l m = 0 → l = m
 | [], [], _, _, _ => rfl
 | [], _ :: _, _, _, h => by simp [cmpVs] at h
 | _ :: _, [], _, _, h => by simp [cmpVs] at h
 | v :: l, w :: m, hl, hm, h => by
  simp only [cmpVs] at h
  simp only [mayR, List.all_cons, Bool.and_eq_true] at hl hm
  split at h
  ·rename_i h1; exact absurd h h1
  ·rename_i h1
   rw [QhM (Qcx hl.1) (Qcx hm.1) (by omega), QfG (l := l) (m := m) hl.2 hm.2 h]
theorem Qgp {l m : List V} (hl : mayR l = true) (hm : mayR m = true) : cmpR l m = 0 ↔ l = m := by
 refine ⟨fun h => ?_, fun h => by rw [h]; exact Lin.row.refl trivial⟩
 unfold cmpR at h
 rw [if_pos ⟨hl, hm⟩] at h
 exact QfG hl hm h
end
section
open Go Go.Proofs
section
variable {α : Type} {κ : α → α → Int} {ι : α → Nat} {P : α → Prop}
/-- stands ahead; of two alike the one that was ahead -/
def Bf (κ : α → α → Int) (ι : α → Nat) (x y : α) : Prop := κ x y < 0 ∨ (κ x y = 0 ∧ ι x < ι y)
/-- what was sorted by blocks -/
inductive Ch (κ : α → α → Int) (ι : α → Nat) (bs : Nat) : List α → List α → Prop
 | last {Z L : List α} : L.length < bs → Z.Perm L → Z.Pairwise (Bf κ ι) → Ch κ ι bs Z L
 | cons {Z L Z' L' : List α} : L.length = bs → Z.Perm L → Z.Pairwise (Bf κ ι) → Ch κ ι bs Z' L' → Ch κ ι bs (Z ++ Z') (L ++ L')
theorem Ch.perm {bs : Nat} {Z L : List α} (h : Ch κ ι bs Z L) : Z.Perm L := by
 induction h with
 | last _ h _ => exact h
 | cons _ h _ _ ih => exact h.append ih
theorem Ch.all {bs : Nat} {Z L : List α} (h : Ch κ ι bs Z L) (hl : L.length ≤ bs) (h0 : 0 < bs) : Z.Pairwise (Bf κ ι) := by
 cases h with
 | last _ _ h => exact h
 | @cons Z1 L1 Z2 L2 h1 h2 h3 h4 =>
  rw [List.length_append] at hl
  have hp := h4.perm.length_eq
  have e : Z2 = [] := List.length_eq_zero_iff.1 (by rw [hp]; omega)
  rw [e, List.append_nil]; exact h3
end
end
section
open Go Go.Proofs
section
variable {α β : Type} {κ : α → α → Int} {ι : α → Nat} {P : α → Prop}
/-- of each kind the first one, rising -/
structure Rep (κ : α → α → Int) (ι : α → Nat) (L A : List α) : Prop where
 asc : A.Pairwise fun a b => κ a b < 0
 sub : ∀ y ∈ A, y ∈ L
 all : ∀ x ∈ L, ∃ y ∈ A, κ y x = 0
 fst : ∀ y ∈ A, ∀ x ∈ L, κ y x = 0 → x = y ∨ ι y < ι x
theorem Qf1 (hL : Lin κ P) : ∀ {A B : List α}, A.Pairwise (fun a b => κ a b < 0) → B.Pairwise (fun a b => κ a b < 0) → (∀ x ∈ A, P x) → (∀ x, x ∈ A ↔ x ∈ B) → A = B
 | [], [], _, _, _, _ => rfl
 | [], b :: B, _, _, _, h => absurd ((h b).2 (List.mem_cons_self ..)) (by simp)
 | a :: A, [], _, _, _, h => absurd ((h a).1 (List.mem_cons_self ..)) (by simp)
 | a :: A, b :: B, hA, hB, hP, h => by
  rw [List.pairwise_cons] at hA hB
  have hab : a = b := by
   rcases List.mem_cons.1 ((h a).1 (List.mem_cons_self ..)) with e | e
   ·exact e
   rcases List.mem_cons.1 ((h b).2 (List.mem_cons_self ..)) with e2 | e2
   ·exact e2.symm
   have h1 := hB.1 a e
   have h2 := hA.1 b e2
   have := hL.anti a b (hP a (List.mem_cons_self ..)) (hP b ((h b).2 (List.mem_cons_self ..)))
   omega
  subst hab
  have hr := hL.refl (hP a (List.mem_cons_self ..))
  rw [Qf1 hL hA.2 hB.2 (fun x hx => hP x (List.mem_cons_of_mem _ hx)) fun x => ⟨fun hx => ?_, fun hx => ?_⟩]
  ·rcases List.mem_cons.1 ((h x).1 (List.mem_cons_of_mem _ hx)) with e | e
   ·have := hA.1 x hx; rw [e] at this; omega
   ·exact e
  ·rcases List.mem_cons.1 ((h x).2 (List.mem_cons_of_mem _ hx)) with e | e
   ·have := hB.1 x hx; rw [e] at this; omega
   ·exact e
end
end
section
open Go Go.Proofs
def Heap.new (H H2 : Heap) : Heap := fun x => if (H x).isSome then none else H2 x
theorem Heap.new_some {H H2 : Heap} {x : Nat} {e : Bool × GO} (h : H2 x = some e) (hn : H x = none) : Heap.new H H2 x = some e := by
 unfold Heap.new; rw [hn]; exact h
theorem Heap.new_inv {H H2 : Heap} {x : Nat} {e : Bool × GO} (h : Heap.new H H2 x = some e) : H x = none ∧ H2 x = some e := by
 unfold Heap.new at h
 cases hx : H x with
 | none => rw [hx] at h; exact ⟨rfl, h⟩
 | some y => rw [hx] at h; cases h
theorem Heap.new_le (H H2 : Heap) : (Heap.new H H2).le H2 := fun x e h => (Heap.new_inv h).2
/-- a row of values that may be written over, with all that is in it: its blocks are N's; k deep at most -/
def Sp (N : Nat → Prop) (H : Heap) : Nat → Sl → Prop
 | 0, t => t.len = 0
 | k + 1, t => t.len = 0 ∨ ∃ (b : Nat) (xs : List TV) (sp : List Value), N b ∧ t.p = some (b, 0) ∧ t.x = none ∧ H b = some (true, .row (xs.flatMap Qa.c ++ sp)) ∧ (t.len ≤ xs.length ∧ xs.length ≤ 1000000) ∧ ∀ x ∈ xs, Sp N H k x.L
section
variable {N M : Nat → Prop} {H H2 : Heap}
theorem Sp.mono : ∀ {k : Nat} {t : Sl}, Sp N H k t → Sp N H (k + 1) t
 | 0, t, h => .inl h
 | k + 1, t, .inl h => .inl h
 | k + 1, t, .inr ⟨b, xs, sp, h1, h2, h3, h4, h5, h6⟩ => .inr ⟨b, xs, sp, h1, h2, h3, h4, h5, fun x hx => Sp.mono (h6 x hx)⟩
theorem Sp.up {k m : Nat} {t : Sl} (h : Sp N H k t) (hk : k ≤ m) : Sp N H m t := by
 induction hk with
 | refl => exact h
 | step _ ih => exact ih.mono
theorem Sp.to (h : ∀ b e, N b → H b = some e → M b ∧ H2 b = some e) : ∀ {k : Nat} {t : Sl}, Sp N H k t → Sp M H2 k t
 | 0, t, h0 => h0
 | k + 1, t, .inl h0 => .inl h0
 | k + 1, t, .inr ⟨b, xs, sp, h1, h2, h3, h4, h5, h6⟩ => .inr ⟨b, xs, sp, (h b _ h1 h4).1, h2, h3, (h b _ h1 h4).2, h5, fun x hx => Sp.to h (h6 x hx)⟩
theorem Sp.all : ∀ {xs : List TV}, (∀ x ∈ xs, ∃ k, Sp N H k x.L) → ∃ k, ∀ x ∈ xs, Sp N H k x.L
 | [], _ => ⟨0, fun x hx => by cases hx⟩
 | y :: xs, h => by
  obtain ⟨k, hk⟩ := h y (List.mem_cons_self ..)
  obtain ⟨m, hm⟩ := Sp.all (xs := xs) fun x hx => h x (List.mem_cons_of_mem _ hx)
  refine ⟨max k m, fun x hx => ?_⟩
  rcases List.mem_cons.1 hx with rfl | hx
  ·exact hk.up (Nat.le_max_left ..)
  ·exact (hm x hx).up (Nat.le_max_right ..)
/-- what a copy is -/
structure Made (H H2 : Heap) (l : List V) (t : Sl) : Prop where
 le : H.le H2
 row : VRow (Heap.new H H2) t l
 sp : ∃ k, Sp (fun b => H b = none) H2 k t
 cp : t.len ≤ t.cap
theorem Made.row2 {l : List V} {t : Sl} (h : Made H H2 l t) : VRow H2 t l := h.row.le (Heap.new_le _ _)
theorem Made.up {H3 : Heap} {l : List V} {t : Sl} (h : Made H H2 l t) (hle : H2.le H3) : Made H H3 l t := by
 refine ⟨h.le.trans hle, h.row.le fun x e hx => ?_, ?_, h.cp⟩
 ·obtain ⟨a, b⟩ := Heap.new_inv hx
  exact Heap.new_some (hle _ _ b) a
 ·obtain ⟨k, hk⟩ := h.sp
  exact ⟨k, hk.to fun b e h he => ⟨h, hle b e he⟩⟩
theorem Made.down {H0 : Heap} {l : List V} {t : Sl} (h : Made H H2 l t) (hle : H0.le H) : Made H0 H2 l t := by
 refine ⟨hle.trans h.le, h.row.le fun x e hx => ?_, ?_, h.cp⟩
 ·obtain ⟨a, b⟩ := Heap.new_inv hx
  exact Heap.new_some b (hle.none a)
 ·obtain ⟨k, hk⟩ := h.sp
  exact ⟨k, hk.to fun b e h he => ⟨hle.none h, he⟩⟩
theorem Made.nil {H : Heap} {t : Sl} (h : t.len = 0) : Made H H [] t := ⟨Heap.le.refl _, ⟨[], .inl rfl, by simpa using h, trivial⟩, ⟨0, h⟩, by omega⟩
theorem QeF : ∀ l : List V, l.length ≤ vsizes l
 | [] => Nat.le_refl _
 | v :: l => by
  have := QeF l
  have hv : vsize v = vsizes v.l + 1 := by cases v; rfl
  simp only [vsizes, List.length_cons]; omega
theorem flat4 : ∀ xs : List TV, (xs.flatMap Qa.c).length = xs.length * 4
 | [] => rfl
 | x :: xs => by rw [List.flatMap_cons, List.length_append, flat4 xs, TV.c_len, List.length_cons]; omega
theorem QjI {t : Sl} {sp : List Value} : ∀ (xs : List TV) (i : Nat) (hi : i < xs.length), ((xs.flatMap Qa.c) ++ sp).set (i * 4 + 3) (slv t) = (xs.set i { xs[i] with L := t }).flatMap Qa.c ++ sp
 | [], i, hi => by simp at hi
 | x :: xs, 0, hi => by
  simp only [List.flatMap_cons, List.getElem_cons_zero, List.set_cons_zero]
  rfl
 | x :: xs, i + 1, hi => by
  have ih := QjI (t := t) (sp := sp) xs i (by simpa using hi)
  simp only [List.flatMap_cons, List.set_cons_succ, List.getElem_cons_succ, List.append_assoc]
  have e : (i + 1) * 4 + 3 = (Qa.c x).length + (i * 4 + 3) := by rw [TV.c_len]; omega
  rw [← ih, e, List.set_append_right _ _ (Nat.le_add_right ..), Nat.add_sub_cancel_left]
/-- the copy's loop: what stands in the copy's block b over B -/
structure Ow (A H B : Heap) (b i : Nat) (l : List V) (xs ys : List TV) : Prop where
 le : H.le B
 ale : A.le B
 nb : B b = none
 len : ys.length = l.length
 xlen : xs.length = l.length
 old : VsAre A l xs
 rest : ∀ j, i ≤ j → ys[j]? = xs[j]?
 done : ∀ (j : Nat) (v : V) (x : TV), j < i → l[j]? = some v → ys[j]? = some x → VIs (Heap.new H B) v x ∧ ∃ k, Sp (fun c => H c = none) B k x.L
theorem Ow.step {A B B2 : Heap} {b i : Nat} {l : List V} {xs ys : List TV} {sp : List Value} {t : Sl} (h : Ow A H B b i l xs ys) (hi : i < l.length) (hi2 : i < ys.length)
 (hm : Made (B.put b (.row (ys.flatMap Qa.c ++ sp))) B2 l[i].l t) :
 Ow A H (B2.del b) b (i + 1) l xs (ys.set i { ys[i] with L := t }) ∧ B2.put b (.row (((ys.set i { ys[i] with L := t }).flatMap Qa.c) ++ sp)) = (B2.del b).put b (.row (((ys.set i { ys[i] with L := t }).flatMap Qa.c) ++ sp)) := by
 have hb : B.le (B2.del b) := fun x e hx => by
  have hne : x ≠ b := fun e' => by rw [e', h.nb] at hx; cases hx
  rw [Heap.del_ne _ hne]
  exact hm.le _ _ (by rw [Heap.put_ne _ _ _ hne]; exact hx)
 have hnn : (Heap.new H B).le (Heap.new H (B2.del b)) := fun x e hx => by
  obtain ⟨a, c⟩ := Heap.new_inv hx
  exact Heap.new_some (hb _ _ c) a
 have hPN : ∀ c, (B.put b (.row (ys.flatMap Qa.c ++ sp))) c = none → H c = none ∧ c ≠ b := fun c hc => by
  have hne : c ≠ b := fun e' => by rw [e', Heap.put_same] at hc; cases hc
  rw [Heap.put_ne _ _ _ hne] at hc
  exact ⟨h.le.none hc, hne⟩
 refine ⟨⟨h.le.trans hb, h.ale.trans hb, Heap.del_same .., by rw [List.length_set]; exact h.len, h.xlen, h.old, fun j hj => ?_, fun j v x hj hv hx => ?_⟩, ?_⟩
 ·rw [List.getElem?_set_ne (by omega)]; exact h.rest j (by omega)
 ·by_cases hji : j = i
  ·subst hji
   rw [List.getElem?_set_self hi2] at hx
   have hx := Option.some.inj hx
   rw [List.getElem?_eq_getElem hi] at hv
   have hv := Option.some.inj hv
   subst hx; subst hv
   have hxi := h.rest j (Nat.le_refl _)
   rw [List.getElem?_eq_getElem hi2] at hxi
   have hold := Qc8.1 (h.old.get j _ _ (List.getElem?_eq_getElem hi) hxi.symm)
   refine ⟨Qc8.2 ⟨hold.1, hold.2.1, hold.2.2.1, hm.row.le fun c e hc => ?_⟩, ?_⟩
   ·obtain ⟨a1, a2⟩ := Heap.new_inv hc
    obtain ⟨a3, a4⟩ := hPN c a1
    exact Heap.new_some (by rw [Heap.del_ne _ a4]; exact a2) a3
   ·obtain ⟨k, hk⟩ := hm.sp
    refine ⟨k, hk.to fun c e hc he => ⟨(hPN c hc).1, ?_⟩⟩
    rw [Heap.del_ne _ (hPN c hc).2]; exact he
  ·rw [List.getElem?_set_ne (by omega)] at hx
   obtain ⟨d1, k, d2⟩ := h.done j v x (by omega) hv hx
   exact ⟨d1.le hnn, k, d2.to fun c e h he => ⟨h, hb c e he⟩⟩
 ·funext x
  by_cases hx : x = b
  ·subst hx; rw [Heap.put_same, Heap.put_same]
  ·rw [Heap.put_ne _ _ _ hx, Heap.put_ne _ _ _ hx, Heap.del_ne _ hx]
theorem Ow.fin {A B : Heap} {b n cap : Nat} {l : List V} {xs ys : List TV} {sp : List Value} (h : Ow A H B b n l xs ys) (hn : n = l.length) (hb : H b = none) (hz : l.length ≤ 1000000) (hcap : n ≤ cap) :
 Made H (B.put b (.row (ys.flatMap Qa.c ++ sp))) l (Sl.of (some (b, 0)) n cap) := by
 have hBP : B.le (B.put b (.row (ys.flatMap Qa.c ++ sp))) := Heap.le_put h.nb
 have hnn : (Heap.new H B).le (Heap.new H (B.put b (.row (ys.flatMap Qa.c ++ sp)))) := fun x e hx => by
  obtain ⟨a, c⟩ := Heap.new_inv hx
  exact Heap.new_some (hBP _ _ c) a
 refine ⟨h.le.trans hBP, ⟨ys, .inr ⟨rfl, _, rfl, Qcq (Heap.new_some (Heap.put_same ..) hb) fun j v hj => ?_⟩, ?_, VsAre.of h.len.symm fun i v x hv hx => ?_⟩, ?_, hcap⟩
 ·rw [Nat.zero_add, List.getElem?_append_left (List.getElem?_eq_some_iff.1 hj).1]; exact hj
 ·show n = _; rw [hn, h.len]
 ·exact (h.done i v x (by rw [hn]; exact (List.getElem?_eq_some_iff.1 hv).1) hv hx).1.le hnn
 ·obtain ⟨k, hk⟩ : ∃ k, ∀ x ∈ ys, Sp (fun c => H c = none) B k x.L := Sp.all fun x hx => by
   obtain ⟨j, hj, e⟩ := List.getElem_of_mem hx
   have hl : j < l.length := by rw [← h.len]; exact hj
   exact (h.done j l[j] x (by omega) (List.getElem?_eq_getElem hl) (by rw [List.getElem?_eq_getElem hj, e])).2
  refine ⟨k + 1, .inr ⟨b, ys, sp, hb, rfl, rfl, Heap.put_same .., ⟨by show n ≤ _; rw [hn, h.len]; exact Nat.le_refl _, by rw [h.len]; exact hz⟩, fun x hx => (hk x hx).to fun c e h he => ⟨h, hBP c e he⟩⟩⟩
/-- a list that grows: what is made in it stands beside its own block -/
structure Od (H B : Heap) (l : List V) (s : Sl) (ys : List TV) : Prop where
 own : OwnF H B 4 s (ys.flatMap Qa.c)
 le : ys.length ≤ l.length
 done : ∀ (j : Nat) (v : V) (x : TV), l[j]? = some v → ys[j]? = some x → VIs (Heap.new H (B.off s)) v x ∧ ∃ k, Sp (fun c => H c = none) (B.off s) k x.L
/-- a list of rows that grows, each a copy -/
structure Og (H B : Heap) (ls : List (List V)) (s : Sl) (ys : List Sl) : Prop where
 own : OwnF H B 1 s (ys.map slv)
 le : ys.length ≤ ls.length
 done : ∀ (j : Nat) (l : List V) (y : Sl), ls[j]? = some l → ys[j]? = some y → Made H (B.off s) l y
theorem Og.nil {ls : List (List V)} : Og H H ls Sl.nil [] := ⟨OwnF.nil H 1, Nat.zero_le _, fun j l y _ hy => by simp at hy⟩
theorem Made.off {B : Heap} {l : List V} {s t : Sl} (h : Made B H2 l t) (hle : H.le B) (hf : Fresh H s) (hs : ∀ p, s.p = some p → ∃ g, B p.1 = some (true, g)) : Made H (H2.off s) l t := by
 have hne : ∀ c, B c = none → ∀ p, s.p = some p → p.1 ≠ c := fun c hc p hp e => by
  obtain ⟨g, hg⟩ := hs p hp
  rw [e, hc] at hg; cases hg
 refine ⟨Heap.le_off (hle.trans h.le) hf, h.row.le fun c e hc => ?_, ?_, h.cp⟩
 ·obtain ⟨a, b⟩ := Heap.new_inv hc
  exact Heap.new_some (Heap.off_some b (hne c a)) (hle.none a)
 ·obtain ⟨k, hk⟩ := h.sp
  exact ⟨k, hk.to fun c e hc he => ⟨hle.none hc, Heap.off_some he (hne c hc)⟩⟩
theorem Og.step {B B2 B4 : Heap} {ls : List (List V)} {s r t : Sl} {ys : List Sl} (h : Og H B ls s ys) (hi : ys.length < ls.length) (hm : Made B B2 ls[ys.length] t) (h4 : OwnF (B2.off s) B4 1 r (ys.map slv ++ [slv t])) : Og H B4 ls r (ys ++ [t]) := by
 have hoff : H.le (B2.off s) := Heap.le_off (h.own.le.trans hm.le) h.own.fresh
 have h34 : (B2.off s).le (B4.off r) := Heap.le_off h4.le h4.fresh
 have h12 : (B.off s).le (B2.off s) := Heap.le_off ((Heap.off_le s B).trans hm.le) (Heap.off_fresh s B)
 refine ⟨?_, by rw [List.length_append]; exact hi, fun j l y hl hy => ?_⟩
 ·have e : (ys ++ [t]).map slv = ys.map slv ++ [slv t] := by simp
  rw [e]; exact h4.down hoff
 ·by_cases hj : j < ys.length
  ·rw [List.getElem?_append_left hj] at hy
   exact (h.done j l y hl hy).up (h12.trans h34)
  ·have hjl := (List.getElem?_eq_some_iff.1 hy).1
   rw [List.length_append, List.length_singleton] at hjl
   have hje : j = ys.length := by omega
   subst hje
   rw [List.getElem?_append_right (Nat.le_refl _), Nat.sub_self] at hy
   simp only [List.getElem?_cons_zero, Option.some.injEq] at hy
   rw [List.getElem?_eq_getElem hi] at hl
   have hl := Option.some.inj hl
   subst hy; subst hl
   exact (hm.off h.own.le h.own.fresh fun p hp => h.own.own.mine hp).up h34
/-- rows in order, each once, in memory of their own -/
structure Srt (H H2 : Heap) (ls : List (List V)) (t : Sl) (A : List (Sl × (List V × Nat))) : Prop where
 own : OwnF H H2 1 t (A.map fun e => slv e.1)
 row : ∀ e ∈ A, Made H (H2.off t) e.2.1 e.1
 rep : Rep (fun a b => cmpR a.1 b.1) (fun a => a.2) ls.zipIdx (A.map fun e => e.2)
 few : A.length ≤ ls.length
end
end
section
open Go Go.Proofs
section
variable {C : Ctx} {H : Heap}
theorem QiF {t : Sl} {xs : List TV} {K : Sl → Heap → Prop} (hr : rdsl H t (xs.flatMap Qa.c)) (hl : t.len = xs.length) (h0 : t.len ≠ 0) (hs : t.len ≤ 1000000)
 (k : ∀ b sp cap B, H.le B → B b = none → t.len ≤ cap → K (Sl.of (some (b, 0)) t.len cap) (B.put b (.row (xs.flatMap Qa.c ++ sp)))) : QB C t K H := by
 apply Qa0
 unfold QT
 have hf := flat4 xs
 have hnil : Sl.isNil t = false := by
  rcases hr with h | ⟨hx, p, hp, _⟩
  ·rw [h] at hf; simp at hf; omega
  ·unfold Sl.isNil; rw [hp]; rfl
 refine Qk hnil ?_
 intro b2 n2
 have hle := Heap.le_put n2 (g := .row []) (m := true)
 refine ⟨xs.flatMap Qa.c, Qdl hle hr, ?_, [], .inl rfl, ?_, ?_, ?_, ?_, fun hfit => ?_, fun hgrow b cap hb hcap => ?_⟩
 ·intro u hu
  obtain ⟨x, _, hx⟩ := List.mem_flatMap.1 hu
  simp only [Qa.c, List.mem_cons, List.not_mem_nil, or_false] at hx
  rcases hx with rfl | rfl | rfl | rfl <;> rfl
 ·rfl
 ·rw [hf, hl]; rfl
 ·show (0 + t.len) * 56 ≤ _; omega
 ·show 0 + t.len ≤ _; omega
 ·exfalso
  have : 0 + t.len ≤ 0 := hfit
  omega
 ·have e : (0 : Nat) + t.len = t.len := Nat.zero_add _
  have hc2 : 0 + t.len ≤ cap := hcap
  have := k b (zeros (Qa.c Qa.zero) (cap - (0 + t.len))) cap _ hle hb (by omega)
  show K (Sl.of (some (b, 0)) (0 + t.len) cap) _
  rw [e] at this ⊢
  exact this
end
end
section
open Go
def hexD (k : Nat) : UInt8 := if k < 10 then UInt8.ofNat (48 + k) else UInt8.ofNat (87 + k)
def qC (c : UInt8) : Str :=
 if c = 34 ∨ c = 92 then [92, c] else if c = 10 then [92, 110] else if c = 9 then [92, 116]
 else if 32 ≤ c.toNat ∧ c.toNat ≤ 126 then [c] else [92, 120, hexD (c.toNat / 16), hexD (c.toNat % 16)]
def quoteS (s : Str) : Str := 34 :: (s.flatMap qC ++ [34])
mutual
def showV : V → Str
 | .mk k n s l => if k = 1 then (if n = 1 then trueS else falseS) else if k = 2 then Lib.itoa n else if k = 3 then s ++ [98] else if k = 4 then quoteS s
  else if k = 5 then 40 :: (showR true l ++ [41]) else s ++ (if l.length = 0 then [] else 40 :: (showR true l ++ [41]))
def showR : Bool → List V → Str
 | _, [] => []
 | f, v :: l => (if f then [] else [44, 32]) ++ (showV v ++ showR false l)
end
theorem QfP : ∀ (l : List V) (f : Bool) (v : V), showR f (l ++ [v]) = showR f l ++ ((if f && l.isEmpty then [] else [44, 32]) ++ showV v)
 | [], f, v => by cases f <;> simp [showR]
 | w :: l, f, v => by
  rw [List.cons_append]
  simp only [showR, QfP l false v, List.isEmpty_cons, Bool.and_false, Bool.false_and, Bool.false_eq_true, if_false, List.append_assoc]
theorem QeN : ∀ (a b : List V) (f : Bool), showR f (a ++ b) = showR f a ++ showR (f && a.isEmpty) b
 | [], b, f => by simp [showR]
 | v :: a, b, f => by
  rw [List.cons_append]
  simp only [showR, QeN a b false, List.isEmpty_cons, Bool.and_false, Bool.false_and, List.append_assoc]
theorem Qin (l : List V) (i : Nat) : (showR true (l.take i)).length ≤ (showR true l).length := by
 have := congrArg List.length (QeN (l.take i) (l.drop i) true)
 rw [List.take_append_drop, List.length_append] at this
 omega
theorem QhC {l : List V} {i : Nat} (h : i < l.length) : showR true (l.take (i + 1)) = showR true (l.take i) ++ ((if i = 0 then [] else [44, 32]) ++ showV l[i]) := by
 rw [List.take_add_one, List.getElem?_eq_getElem h, Option.toList_some, QfP]
 congr 2
 have e : (l.take i).isEmpty = decide (i = 0) := by
  rw [Bool.eq_iff_iff, List.isEmpty_iff, decide_eq_true_iff]
  refine ⟨fun h2 => ?_, fun h2 => by rw [h2]; rfl⟩
  have := congrArg List.length h2
  rw [List.length_take, List.length_nil] at this; omega
 rw [Bool.true_and, e]
 by_cases hi : i = 0 <;> simp [hi]
theorem QcP {n : Nat} (h : n < 256) : (UInt8.ofNat n).toNat = n := by rw [UInt8.toNat_ofNat']; omega
def valN (l : Str) : Nat := l.foldl (fun a c => 10 * a + (c.toNat - 48)) 0
theorem Qi7 (u : Nat) : valN (Lib.decDigits u) = u := by
 induction u using Nat.strongRecOn with
 | _ u ih =>
  rw [Lib.decDigits]
  split
  ·rename_i h
   have := QcP (n := 48 + u) (by omega)
   simp only [valN, List.foldl_cons, List.foldl_nil, this]; omega
  ·rename_i h
   have e := ih (u / 10) (by omega)
   have := QcP (n := 48 + u % 10) (by omega)
   unfold valN at e ⊢
   rw [List.foldl_append, e]
   simp only [List.foldl_cons, List.foldl_nil, this]; omega
theorem Qg5 (u : Nat) : (∀ c ∈ Lib.decDigits u, digC c = true) ∧ Lib.decDigits u ≠ [] := by
 induction u using Nat.strongRecOn with
 | _ u ih =>
  rw [Lib.decDigits]
  split
  ·rename_i h
   refine ⟨fun c hc => ?_, by simp⟩
   rw [List.mem_singleton] at hc
   subst hc
   have := QcP (n := 48 + u) (by omega)
   unfold digC
   rw [this]
   simp only [Bool.and_eq_true, decide_eq_true_eq]; omega
  ·rename_i h
   refine ⟨fun c hc => ?_, by simp⟩
   rw [List.mem_append, List.mem_singleton] at hc
   rcases hc with hc | rfl
   ·exact (ih (u / 10) (by omega)).1 c hc
   ·have := QcP (n := 48 + u % 10) (by omega)
    unfold digC
    rw [this]
    simp only [Bool.and_eq_true, decide_eq_true_eq]; omega
theorem Qi6 {u v : Nat} (h : Lib.decDigits u = Lib.decDigits v) : u = v := by rw [← Qi7 u, h, Qi7 v]
theorem QiJ {m n : Int} (h : Lib.itoa m = Lib.itoa n) : m = n := by
 have ne : ∀ u v : Nat, (45 : UInt8) :: Lib.decDigits u ≠ Lib.decDigits v := fun u v e => by
  have := (Qg5 v).1 45 (by rw [← e]; exact List.mem_cons_self ..)
  exact absurd this (by decide)
 unfold Lib.itoa at h
 split at h <;> split at h
 ·injection h with _ h
  have := Qi6 h; omega
 ·exact absurd h (ne _ _)
 ·exact absurd h.symm (ne _ _)
 ·have := Qi6 h; omega
theorem Qf6 {n : Int} {c : UInt8} (h : c ∈ Lib.itoa n) : digC c = true ∨ c = 45 := by
 unfold Lib.itoa at h
 split at h
 ·rcases List.mem_cons.1 h with h | h
  ·exact .inr h
  ·exact .inl ((Qg5 _).1 c h)
 ·exact .inl ((Qg5 _).1 c h)
theorem QhY (n : Int) : Lib.itoa n ≠ [] := by
 unfold Lib.itoa
 split
 ·simp
 ·exact (Qg5 _).2
theorem QhX (n : Int) : (Lib.itoa n).getLast? ≠ some 98 := fun h => by
 have hm := List.mem_of_getLast? h
 rcases Qf6 hm with h | h
 ·exact absurd h (by decide)
 ·exact absurd h (by decide)
def stopC (c : UInt8) : Bool := c == 40 || c == 41 || c == 44 || c == 59 || c == 34
def tok : V → Str
 | .mk k n s l => if k = 1 then (if n = 1 then trueS else falseS) else if k = 2 then Lib.itoa n else if k = 3 then s ++ [98] else if k = 5 then [] else s
def rst : V → Str
 | .mk k n s l => if k = 5 ∨ (k = 6 ∧ l.length ≠ 0) then 40 :: (showR true l ++ [41]) else []
def kindT (t : Str) : Int := if t = [] then 5 else if lowC (t.headD 0) = true then (if t = trueS ∨ t = falseS then 1 else 6) else if t.getLast? = some 98 then 3 else 2
theorem Qdy {v : V} (h : formV v = true) : formVs v.l = true ∧ ((v.k = 1 ∧ (v.n = 0 ∨ v.n = 1) ∧ v.s = [] ∧ v.l = []) ∨ (v.k = 2 ∧ v.s = [] ∧ v.l = []) ∨ (v.k = 3 ∧ numS v.s = true ∧ v.n = 0 ∧ v.l = []) ∨ (v.k = 4 ∧ v.n = 0 ∧ v.l = []) ∨
 (v.k = 5 ∧ v.n = 0 ∧ v.s = []) ∨ (v.k = 6 ∧ v.n = 0 ∧ namesS v.s = true)) := by
 rw [QeT, Bool.and_eq_true] at h
 obtain ⟨h, h2⟩ := h
 refine ⟨h2, ?_⟩
 unfold okN at h
 split at h
 ·rename_i hk
  simp only [Bool.and_eq_true, Bool.or_eq_true, beq_iff_eq, List.isEmpty_iff, decide_eq_true_eq, List.length_eq_zero_iff] at h
  exact .inl ⟨hk, h.1.1, h.1.2, h.2⟩
 split at h
 ·rename_i hk
  simp only [Bool.and_eq_true, beq_iff_eq, List.isEmpty_iff, decide_eq_true_eq, List.length_eq_zero_iff] at h
  exact .inr (.inl ⟨hk, h.1, h.2⟩)
 split at h
 ·rename_i hk
  simp only [Bool.and_eq_true, beq_iff_eq, decide_eq_true_eq, List.length_eq_zero_iff] at h
  exact .inr (.inr (.inl ⟨hk, h.1.1, h.1.2, h.2⟩))
 split at h
 ·rename_i hk
  simp only [Bool.and_eq_true, beq_iff_eq, decide_eq_true_eq, List.length_eq_zero_iff] at h
  exact .inr (.inr (.inr (.inl ⟨hk, h.1, h.2⟩)))
 split at h
 ·rename_i hk
  simp only [Bool.and_eq_true, beq_iff_eq, List.isEmpty_iff] at h
  exact .inr (.inr (.inr (.inr (.inl ⟨hk, h.1.1, h.1.2⟩))))
 split at h
 ·rename_i hk
  simp only [Bool.and_eq_true, beq_iff_eq] at h
  exact .inr (.inr (.inr (.inr (.inr ⟨hk, h.1, h.2⟩))))
 ·cases h
theorem Qgf {v : V} (h : formV v = true) (h4 : v.k ≠ 4) : showV v = tok v ++ rst v := by
 have hc := (Qdy h).2
 obtain ⟨k, n, s, l⟩ := v
 simp only [V.k, V.n, V.s, V.l] at hc h4
 simp only [showV, tok, rst]
 rcases hc with ⟨rfl, _, _, rfl⟩ | ⟨rfl, _, rfl⟩ | ⟨rfl, _, _, rfl⟩ | ⟨rfl, _⟩ | ⟨rfl, _⟩ | ⟨rfl, _⟩
 ·simp
 ·simp
 ·simp
 ·exact absurd rfl h4
 ·simp
 ·by_cases hl : l.length = 0 <;> simp [hl]
theorem Qdx {c : UInt8} (h : nameC c = true) : stopC c = false := by
 simp only [nameC, lowC, Bool.or_eq_true, Bool.and_eq_true, decide_eq_true_eq] at h
 unfold stopC
 simp only [Bool.or_eq_false_iff, beq_eq_false_iff_ne]
 refine ⟨⟨⟨⟨?_, ?_⟩, ?_⟩, ?_⟩, ?_⟩ <;> (rintro rfl; revert h; decide)
theorem QhR {c : UInt8} (h : digC c = true) : stopC c = false := Qdx (by
 simp only [digC, Bool.and_eq_true, decide_eq_true_eq] at h
 simp only [nameC, Bool.or_eq_true, Bool.and_eq_true, decide_eq_true_eq]
 exact .inl (.inr h))
theorem QdU {s : Str} (h : nameS s = true) : s ≠ [] ∧ s.length ≤ 32 ∧ lowC (s.headD 0) = true ∧ ∀ c ∈ s, nameC c = true := by
 simp only [nameS, Bool.and_eq_true, Bool.not_eq_true', List.isEmpty_eq_false_iff, decide_eq_true_eq, List.all_eq_true] at h
 exact ⟨h.1.1.1, h.1.1.2, h.1.2, h.2⟩
theorem Qdg {s : Str} (h : namesS s = true) : s ≠ trueS ∧ s ≠ falseS ∧ s ≠ [] ∧ s.length ≤ 65 ∧ lowC (s.headD 0) = true ∧ ∀ c ∈ s, stopC c = false := by
 unfold namesS at h
 split at h
 ·cases h
 rename_i hne
 refine ⟨fun e => hne (.inl e), fun e => hne (.inr e), ?_⟩
 split at h
 ·rename_i a b hab
  rw [Bool.and_eq_true] at h
  obtain ⟨h1, h2, h3, h4⟩ := QdU h.1
  obtain ⟨g1, g2, g3, g4⟩ := QdU h.2
  have hs : s = a ++ 46 :: b := by
   by_cases hm : (46 : UInt8) ∈ s
   ·obtain ⟨x, y, e1, e2⟩ := Qf4 s hm
    rw [e1, Qf3 x y e2] at hab
    injection hab with hab; injection hab with e3 e4
    rw [e1, e3, e4]
   ·rw [Qf5 s hm] at hab; cases hab
  rw [hs]
  refine ⟨by simp, by rw [List.length_append, List.length_cons]; omega, ?_, fun c hc => ?_⟩
  ·cases a with
   | nil => exact absurd rfl h1
   | cons x a => exact h3
  ·rw [List.mem_append, List.mem_cons] at hc
   rcases hc with hc | rfl | hc
   ·exact Qdx (h4 c hc)
   ·rfl
   ·exact Qdx (g4 c hc)
 ·obtain ⟨h1, h2, h3, h4⟩ := QdU h
  exact ⟨h1, by omega, h3, fun c hc => Qdx (h4 c hc)⟩
theorem Qey {s : Str} (h : numS s = true) : s ≠ [] ∧ (∀ c ∈ s, digC c = true ∨ c = 45) ∧ s.length ≤ digits s + 1 := by
 simp only [numS, Bool.and_eq_true, Bool.not_eq_true', List.isEmpty_eq_false_iff, List.all_eq_true] at h
 obtain ⟨⟨h1, h2⟩, h3⟩ := h
 unfold digits
 unfold unmin at h1 h2 ⊢
 split at h1
 ·rename_i hh
  rw [if_pos hh] at h2 ⊢
  cases s with
  | nil => cases hh
  | cons c s =>
   simp only [List.head?_cons, Option.some.injEq] at hh
   subst hh
   refine ⟨by simp, fun d hd => ?_, by simp⟩
   rcases List.mem_cons.1 hd with rfl | hd
   ·exact .inr rfl
   ·exact .inl (h2 d hd)
 ·rename_i hh
  rw [if_neg hh] at h2 ⊢
  exact ⟨h1, fun d hd => .inl (h2 d hd), by omega⟩
theorem Qed {c : UInt8} (h : digC c = true ∨ c = 45) : stopC c = false ∧ lowC c = false := by
 rcases h with h | rfl
 ·refine ⟨QhR h, ?_⟩
  simp only [digC, Bool.and_eq_true, decide_eq_true_eq] at h
  simp only [lowC, Bool.and_eq_false_iff, decide_eq_false_iff_not]; omega
 ·exact ⟨rfl, rfl⟩
theorem QhT : ∀ {s : Str}, s ≠ [] → s.headD 0 ∈ s
 | [], h => absurd rfl h
 | c :: s, _ => List.mem_cons_self ..
theorem Qgh {v : V} (h : formV v = true) (h4 : v.k ≠ 4) : ∀ c ∈ tok v, stopC c = false := by
 have hc := (Qdy h).2
 obtain ⟨k, n, s, l⟩ := v
 simp only [V.k, V.n, V.s, V.l] at hc h4
 intro c hm
 simp only [tok] at hm
 rcases hc with ⟨rfl, _, _, rfl⟩ | ⟨rfl, _, rfl⟩ | ⟨rfl, hn, _, rfl⟩ | ⟨rfl, _⟩ | ⟨rfl, _⟩ | ⟨rfl, _, hn⟩
 ·rw [if_pos rfl] at hm
  split at hm
  ·exact (by decide : ∀ c ∈ trueS, stopC c = false) c hm
  ·exact (by decide : ∀ c ∈ falseS, stopC c = false) c hm
 ·exact (Qed (Qf6 (by simpa using hm))).1
 ·have hm : c ∈ s ∨ c = 98 := by simpa using hm
  rcases hm with hm | rfl
  ·exact (Qed ((Qey hn).2.1 c hm)).1
  ·rfl
 ·exact absurd rfl h4
 ·simp at hm
 ·exact (Qdg hn).2.2.2.2.2 c (by simpa using hm)
theorem Qf8 {v : V} (h : formV v = true) (h4 : v.k ≠ 4) : kindT (tok v) = v.k := by
 have hc := (Qdy h).2
 obtain ⟨k, n, s, l⟩ := v
 simp only [V.k, V.n, V.s, V.l] at hc h4 ⊢
 simp only [tok]
 rcases hc with ⟨rfl, hn, rfl, rfl⟩ | ⟨rfl, _, rfl⟩ | ⟨rfl, hn, _, rfl⟩ | ⟨rfl, _⟩ | ⟨rfl, _⟩ | ⟨rfl, _, hn⟩
 ·rcases hn with rfl | rfl <;> decide
 ·have e : (if (2 : Int) = 1 then (if n = 1 then trueS else falseS) else if (2 : Int) = 2 then Lib.itoa n else if (2 : Int) = 3 then s ++ [98] else if (2 : Int) = 5 then [] else s) = Lib.itoa n := by simp
  rw [e]
  unfold kindT
  have hlow := (Qed (Qf6 (QhT (QhY n)))).2
  rw [if_neg (QhY n), if_neg (by rw [hlow]; decide), if_neg (QhX n)]
 ·have e : (if (3 : Int) = 1 then (if n = 1 then trueS else falseS) else if (3 : Int) = 2 then Lib.itoa n else if (3 : Int) = 3 then s ++ [98] else if (3 : Int) = 5 then [] else s) = s ++ [98] := by simp
  rw [e]
  obtain ⟨q1, q2, _⟩ := Qey hn
  have hlow : lowC ((s ++ [98]).headD 0) = false := by
   cases s with
   | nil => exact absurd rfl q1
   | cons c s => exact (Qed (q2 c (List.mem_cons_self ..))).2
  unfold kindT
  rw [if_neg (by simp), if_neg (by rw [hlow]; decide), if_pos (by simp)]
 ·exact absurd rfl h4
 ·simp [kindT]
 ·have e : (if (6 : Int) = 1 then (if n = 1 then trueS else falseS) else if (6 : Int) = 2 then Lib.itoa n else if (6 : Int) = 3 then s ++ [98] else if (6 : Int) = 5 then [] else s) = s := by simp
  rw [e]
  obtain ⟨q1, q2, q3, _, q5, _⟩ := Qdg hn
  unfold kindT
  rw [if_neg q3, if_pos q5, if_neg (fun h => h.elim q1 q2)]
theorem QgJ : ∀ {a b x y : Str}, (∀ c ∈ a, stopC c = false) → (∀ c ∈ b, stopC c = false) → (x = [] ∨ ∃ c t, x = c :: t ∧ stopC c = true) → (y = [] ∨ ∃ c t, y = c :: t ∧ stopC c = true) → a ++ x = b ++ y → a = b ∧ x = y
 | [], [], x, y, _, _, _, _, e => ⟨rfl, e⟩
 | [], d :: b, x, y, _, hb, hx, _, e => by
  rcases hx with rfl | ⟨c, t, rfl, hc⟩
  ·simp at e
  ·injection e with e1 _
   rw [e1, hb d (List.mem_cons_self ..)] at hc; cases hc
 | d :: a, [], x, y, ha, _, _, hy, e => by
  rcases hy with rfl | ⟨c, t, rfl, hc⟩
  ·simp at e
  ·injection e with e1 _
   rw [← e1, ha d (List.mem_cons_self ..)] at hc; cases hc
 | c :: a, d :: b, x, y, ha, hb, hx, hy, e => by
  injection e with e1 e2
  obtain ⟨q1, q2⟩ := QgJ (fun c hc => ha c (List.mem_cons_of_mem _ hc)) (fun c hc => hb c (List.mem_cons_of_mem _ hc)) hx hy e2
  exact ⟨by rw [e1, q1], q2⟩
theorem Qjn : ∀ k : Fin 16, hexD k.val ≠ 34 ∧ ∀ j : Fin 16, hexD k.val = hexD j.val → k = j := by decide
theorem Qg8 {i j : Nat} (hi : i < 16) (hj : j < 16) (h : hexD i = hexD j) : i = j := by
 have := (Qjn ⟨i, hi⟩).2 ⟨j, hj⟩ h
 exact congrArg Fin.val this
theorem QeU (c : UInt8) : ((c = 34 ∨ c = 92) ∧ qC c = [92, c]) ∨ (c = 10 ∧ qC c = [92, 110]) ∨ (c = 9 ∧ qC c = [92, 116]) ∨ (c ≠ 34 ∧ c ≠ 92 ∧ qC c = [c]) ∨ qC c = [92, 120, hexD (c.toNat / 16), hexD (c.toNat % 16)] := by
 unfold qC
 by_cases h1 : c = 34 ∨ c = 92
 ·rw [if_pos h1]; exact .inl ⟨h1, rfl⟩
 rw [if_neg h1]
 by_cases h2 : c = 10
 ·rw [if_pos h2]; exact .inr (.inl ⟨h2, rfl⟩)
 rw [if_neg h2]
 by_cases h3 : c = 9
 ·rw [if_pos h3]; exact .inr (.inr (.inl ⟨h3, rfl⟩))
 rw [if_neg h3]
 split
 ·exact .inr (.inr (.inr (.inl ⟨fun e => h1 (.inl e), fun e => h1 (.inr e), rfl⟩)))
 ·exact .inr (.inr (.inr (.inr rfl)))
theorem Qir {c d : UInt8} (h : c.toNat = d.toNat) : c = d := UInt8.toNat_inj.1 h
theorem QjH {c d : UInt8} {x y : Str} (h : qC c ++ x = qC d ++ y) : c = d ∧ x = y := by
 rcases QeU c with ⟨hc, e⟩ | ⟨hc, e⟩ | ⟨hc, e⟩ | ⟨hc, hc2, e⟩ | e <;> rcases QeU d with ⟨hd, f⟩ | ⟨hd, f⟩ | ⟨hd, f⟩ | ⟨hd, hd2, f⟩ | f <;> rw [e, f] at h <;> simp only [List.cons_append, List.nil_append, List.cons.injEq] at h
 case inr.inr.inr.inr.inr.inr.inr.inr =>
  obtain ⟨_, _, h1, h2, h3⟩ := h
  have hc := c.toNat_lt; have hd := d.toNat_lt
  have := Qg8 (by omega) (by omega) h1
  have := Qg8 (by omega) (by omega) h2
  exact ⟨Qir (by omega), h3⟩
 case inl.inl => exact ⟨h.2.1, h.2.2⟩
 case inr.inr.inr.inl.inr.inr.inr.inl => exact h
 case inr.inl.inr.inl => exact ⟨by rw [hc, hd], h.2.2⟩
 case inr.inr.inl.inr.inr.inl => exact ⟨by rw [hc, hd], h.2.2⟩
 all_goals exfalso
 all_goals first
  | (obtain ⟨_, h1, _⟩ := h; subst_vars; simp_all; done)
  | (obtain ⟨h1, _⟩ := h; subst_vars; simp_all; done)
  | (obtain ⟨_, h1, _⟩ := h; rcases hc with rfl | rfl <;> simp_all; done)
  | (obtain ⟨_, h1, _⟩ := h; rcases hd with rfl | rfl <;> simp_all; done)
theorem Qif (c : UInt8) : ∃ d t, qC c = d :: t ∧ d ≠ 34 := by
 rcases QeU c with ⟨_, e⟩ | ⟨_, e⟩ | ⟨_, e⟩ | ⟨h, _, e⟩ | e
 ·exact ⟨_, _, e, by decide⟩
 ·exact ⟨_, _, e, by decide⟩
 ·exact ⟨_, _, e, by decide⟩
 ·exact ⟨_, _, e, h⟩
 ·exact ⟨_, _, e, by decide⟩
theorem Qje : ∀ {s t x y : Str}, s.flatMap qC ++ 34 :: x = t.flatMap qC ++ 34 :: y → s = t ∧ x = y
 | [], [], x, y, h => ⟨rfl, by injection h⟩
 | [], d :: t, x, y, h => by
  obtain ⟨e, u, h1, h2⟩ := Qif d
  rw [List.flatMap_cons, h1] at h
  injection h with h _
  exact absurd h.symm h2
 | c :: s, [], x, y, h => by
  obtain ⟨e, u, h1, h2⟩ := Qif c
  rw [List.flatMap_cons, h1] at h
  injection h with h _
  exact absurd h h2
 | c :: s, d :: t, x, y, h => by
  rw [List.flatMap_cons, List.flatMap_cons, List.append_assoc, List.append_assoc] at h
  obtain ⟨h1, h2⟩ := QjH h
  obtain ⟨h3, h4⟩ := Qje h2
  exact ⟨by rw [h1, h3], h4⟩
def EndS (r : Str) : Prop := r = [] ∨ ∃ c t, r = c :: t ∧ (c = 41 ∨ c = 44 ∨ c = 59)
theorem EndS.stop {r : Str} (h : EndS r) : r = [] ∨ ∃ c t, r = c :: t ∧ stopC c = true := h.imp id fun ⟨c, t, e, hc⟩ => ⟨c, t, e, by rcases hc with rfl | rfl | rfl <;> rfl⟩
theorem EndS.ne40 {r t : Str} (h : EndS r) : r ≠ 40 :: t := fun e => by
 rcases h with rfl | ⟨c, t', rfl, hc⟩
 ·cases e
 ·injection e with e _; subst e; revert hc; decide
theorem Qep {v : V} (h : formV v = true) : ∃ c t, showV v = c :: t ∧ c ≠ 41 ∧ (v.k ≠ 4 → c ≠ 34) := by
 by_cases h4 : v.k = 4
 ·obtain ⟨k, n, s, l⟩ := v
  simp only [V.k] at h4
  subst h4
  exact ⟨34, s.flatMap qC ++ [34], by simp [showV, quoteS], by decide, fun h => absurd rfl h⟩
 ·rw [Qgf h h4]
  have hf := Qgh h h4
  cases ht : tok v with
  | cons c t =>
   have := hf c (by rw [ht]; exact List.mem_cons_self ..)
   exact ⟨c, t ++ rst v, rfl, (fun e => by rw [e] at this; cases this), (fun _ e => by rw [e] at this; cases this)⟩
  | nil =>
   have hk := Qf8 h h4
   rw [ht] at hk
   have hk : v.k = 5 := hk.symm
   obtain ⟨k, n, s, l⟩ := v
   simp only [V.k] at hk
   subst hk
   exact ⟨40, showR true l ++ [41], by simp [rst], by decide, fun _ => by decide⟩
theorem Qhi (v : V) (r : Str) (hr : EndS r) : rst v ++ r = [] ∨ ∃ c t, rst v ++ r = c :: t ∧ stopC c = true := by
 obtain ⟨k, n, s, l⟩ := v
 simp only [rst]
 split
 ·exact .inr ⟨40, _, rfl, rfl⟩
 ·exact hr.stop
theorem QgD : ∀ (l : List V), (∀ v ∈ l, ∀ (w : V) (r r' : Str), formV v = true → formV w = true → EndS r → EndS r' → showV v ++ r = showV w ++ r' → v = w ∧ r = r') →
 ∀ (f : Bool) (l' : List V) (r r' : Str), formVs l = true → formVs l' = true → showR f l ++ 41 :: r = showR f l' ++ 41 :: r' → l = l' ∧ r = r'
 | [], _, f, [], r, r', _, _, e => ⟨rfl, by simpa [showR] using e⟩
 | [], _, f, w :: l', r, r', _, h2, e => by
  exfalso
  simp only [formVs, Bool.and_eq_true] at h2
  obtain ⟨c, t, hw, hc, _⟩ := Qep h2.1
  simp only [showR, List.nil_append] at e
  cases f with
  | true =>
   rw [hw] at e
   simp only [if_true, List.nil_append, List.cons_append, List.cons.injEq] at e
   exact hc e.1.symm
  | false => simp at e
 | v :: l, _, f, [], r, r', h1, _, e => by
  exfalso
  simp only [formVs, Bool.and_eq_true] at h1
  obtain ⟨c, t, hw, hc, _⟩ := Qep h1.1
  simp only [showR, List.nil_append] at e
  cases f with
  | true =>
   rw [hw] at e
   simp only [if_true, List.nil_append, List.cons_append, List.cons.injEq] at e
   exact hc e.1
  | false => simp at e
 | v :: l, ih, f, w :: l', r, r', h1, h2, e => by
  simp only [formVs, Bool.and_eq_true] at h1 h2
  simp only [showR, List.append_assoc] at e
  have e := List.append_cancel_left e
  have hend : ∀ (l : List V) (r : Str), EndS (showR false l ++ 41 :: r) := fun l r => by
   cases l with
   | nil => exact .inr ⟨41, r, rfl, .inl rfl⟩
   | cons x l => exact .inr ⟨44, _, rfl, .inr (.inl rfl)⟩
  obtain ⟨q1, q2⟩ := ih v (List.mem_cons_self ..) w _ _ h1.1 h2.1 (hend l r) (hend l' r') e
  obtain ⟨q3, q4⟩ := QgD l (fun v hv => ih v (List.mem_cons_of_mem _ hv)) false l' r r' h1.2 h2.2 q2
  exact ⟨by rw [q1, q3], q4⟩
theorem Qi0 (v : V) : ∀ (w : V) (r r' : Str), formV v = true → formV w = true → EndS r → EndS r' → showV v ++ r = showV w ++ r' → v = w ∧ r = r' := by
 refine V.rec_ (P := fun v => ∀ (w : V) (r r' : Str), formV v = true → formV w = true → EndS r → EndS r' → showV v ++ r = showV w ++ r' → v = w ∧ r = r') (fun v ih w r r' hv hw hr hr' e => ?_) v
 have hcv := Qdy hv
 have hcw := Qdy hw
 by_cases h4 : v.k = 4
 ·by_cases k4 : w.k = 4
  ·obtain ⟨k, n, s, l⟩ := v
   obtain ⟨k', n', s', l'⟩ := w
   simp only [V.k, V.n, V.s, V.l] at *
   subst h4; subst k4
   obtain ⟨_, rfl, rfl⟩ : (4 : Int) = 4 ∧ n = 0 ∧ l = [] := by rcases hcv.2 with ⟨h, _⟩ | ⟨h, _⟩ | ⟨h, _⟩ | h | ⟨h, _⟩ | ⟨h, _⟩ <;> first | exact h | exact absurd h (by decide)
   obtain ⟨_, rfl, rfl⟩ : (4 : Int) = 4 ∧ n' = 0 ∧ l' = [] := by rcases hcw.2 with ⟨h, _⟩ | ⟨h, _⟩ | ⟨h, _⟩ | h | ⟨h, _⟩ | ⟨h, _⟩ <;> first | exact h | exact absurd h (by decide)
   simp only [showV, quoteS] at e
   simp only [show ¬ ((4 : Int) = 1) by decide, show ¬ ((4 : Int) = 2) by decide, show ¬ ((4 : Int) = 3) by decide, if_false, if_true, List.cons_append, List.append_assoc, List.cons.injEq, true_and, List.nil_append] at e
   obtain ⟨q1, q2⟩ := Qje e
   exact ⟨by rw [q1], q2⟩
  ·exfalso
   obtain ⟨c, t, e1, _, e2⟩ := Qep hw
   obtain ⟨k, n, s, l⟩ := v
   simp only [V.k] at h4
   subst h4
   rw [e1] at e
   simp [showV, quoteS] at e
   exact e2 k4 e.1.symm
 ·by_cases k4 : w.k = 4
  ·exfalso
   obtain ⟨c, t, e1, _, e2⟩ := Qep hv
   obtain ⟨k, n, s, l⟩ := w
   simp only [V.k] at k4
   subst k4
   rw [e1] at e
   simp [showV, quoteS] at e
   exact e2 h4 e.1
  ·rw [Qgf hv h4, Qgf hw k4, List.append_assoc, List.append_assoc] at e
   obtain ⟨q1, q2⟩ := QgJ (Qgh hv h4) (Qgh hw k4) (Qhi v r hr) (Qhi w r' hr') e
   have hkk : v.k = w.k := by rw [← Qf8 hv h4, ← Qf8 hw k4, q1]
   obtain ⟨k, n, s, l⟩ := v
   obtain ⟨k', n', s', l'⟩ := w
   simp only [V.k, V.n, V.s, V.l] at *
   subst hkk
   simp only [tok] at q1
   simp only [rst] at q2
   have tails : ∀ (l l' : List V), formVs l = true → formVs l' = true → (∀ v ∈ l, ∀ (w : V) (r r' : Str), formV v = true → formV w = true → EndS r → EndS r' → showV v ++ r = showV w ++ r' → v = w ∧ r = r') →
    40 :: (showR true l ++ [41]) ++ r = 40 :: (showR true l' ++ [41]) ++ r' → l = l' ∧ r = r' := fun l l' f1 f2 ih e => by
    simp only [List.cons_append, List.append_assoc, List.cons.injEq, true_and, List.nil_append] at e
    exact QgD l ih true l' r r' f1 f2 e
   rcases hcv.2 with ⟨rfl, a1, a2, a3⟩ | ⟨rfl, a1, a2⟩ | ⟨rfl, a1, a2, a3⟩ | ⟨rfl, _⟩ | ⟨rfl, a1, a2⟩ | ⟨rfl, a1, a2⟩
   ·obtain ⟨b1, b2, b3⟩ : (n' = 0 ∨ n' = 1) ∧ s' = [] ∧ l' = [] := by rcases hcw.2 with ⟨_, h⟩ | ⟨h, _⟩ | ⟨h, _⟩ | ⟨h, _⟩ | ⟨h, _⟩ | ⟨h, _⟩ <;> first | exact h | exact absurd h (by decide)
    subst a2; subst a3; subst b2; subst b3
    simp at q2
    refine ⟨?_, q2⟩
    rcases a1 with rfl | rfl <;> rcases b1 with rfl | rfl <;> first | rfl | exact absurd q1 (by decide)
   ·obtain ⟨b1, b2⟩ : s' = [] ∧ l' = [] := by rcases hcw.2 with ⟨h, _⟩ | ⟨_, h⟩ | ⟨h, _⟩ | ⟨h, _⟩ | ⟨h, _⟩ | ⟨h, _⟩ <;> first | exact h | exact absurd h (by decide)
    subst a1; subst a2; subst b1; subst b2
    simp at q2 q1
    exact ⟨by rw [QiJ q1], q2⟩
   ·obtain ⟨_, b2, b3⟩ : numS s' = true ∧ n' = 0 ∧ l' = [] := by rcases hcw.2 with ⟨h, _⟩ | ⟨h, _⟩ | ⟨_, h⟩ | ⟨h, _⟩ | ⟨h, _⟩ | ⟨h, _⟩ <;> first | exact h | exact absurd h (by decide)
    subst a2; subst a3; subst b2; subst b3
    simp at q2 q1
    exact ⟨by rw [q1], q2⟩
   ·exact absurd rfl h4
   ·obtain ⟨b1, b2⟩ : n' = 0 ∧ s' = [] := by rcases hcw.2 with ⟨h, _⟩ | ⟨h, _⟩ | ⟨h, _⟩ | ⟨h, _⟩ | ⟨_, h⟩ | ⟨h, _⟩ <;> first | exact h | exact absurd h (by decide)
    subst a1; subst a2; subst b1; subst b2
    rw [if_pos (.inl rfl), if_pos (.inl rfl)] at q2
    obtain ⟨q3, q4⟩ := tails l l' hcv.1 hcw.1 ih q2
    exact ⟨by rw [q3], q4⟩
   ·obtain ⟨b1, _⟩ : n' = 0 ∧ namesS s' = true := by rcases hcw.2 with ⟨h, _⟩ | ⟨h, _⟩ | ⟨h, _⟩ | ⟨h, _⟩ | ⟨h, _⟩ | ⟨_, h⟩ <;> first | exact h | exact absurd h (by decide)
    subst a1; subst b1
    simp only [show ¬ ((6 : Int) = 1) by decide, show ¬ ((6 : Int) = 2) by decide, show ¬ ((6 : Int) = 3) by decide, show ¬ ((6 : Int) = 5) by decide, if_false] at q1
    simp only [show ¬ ((6 : Int) = 5) by decide, false_or, true_and] at q2
    subst q1
    by_cases c1 : l.length = 0 <;> by_cases c2 : l'.length = 0
    ·rw [if_neg (by simpa using c1), if_neg (by simpa using c2)] at q2
     rw [List.length_eq_zero_iff.1 c1, List.length_eq_zero_iff.1 c2]
     exact ⟨rfl, q2⟩
    ·rw [if_neg (by simpa using c1), if_pos c2, List.nil_append] at q2
     exact absurd q2 hr.ne40
    ·rw [if_pos c1, if_neg (by simpa using c2), List.nil_append] at q2
     exact absurd q2.symm hr'.ne40
    ·rw [if_pos c1, if_pos c2] at q2
     obtain ⟨q3, q4⟩ := tails l l' hcv.1 hcw.1 ih q2
     exact ⟨by rw [q3], q4⟩
end
section
open Go Go.Proofs
section
variable {C : Ctx} {H : Heap}
theorem QeG {b : Nat} {p : Option (Nat × Nat)} {s : Sl} {K : Heap → Prop} (hb : H b = some (true, .trow tyB 0 [pv p, slv s])) (hp : p = none ∨ p = some (b, 0)) (k : K (H.put b (.trow tyB 0 [pv (some (b, 0)), slv s]))) : QC C (some (b, 0)) K H := by
 apply QbL
 unfold Qay
 refine ⟨_, rfl, p, by simp [rd, hb, GO.cells?], ?_⟩
 rcases hp with rfl | rfl
 ·exact Qm rfl ⟨(b, 0), rfl, ⟨true, _, 0, _, hb, by simp⟩, ⟨true, 0, _, hb, rfl, rfl⟩, _, rfl, _, 0, _, hb, Nat.le_refl _, by simp, k⟩
 ·refine Qk rfl ⟨_, rfl, some (b, 0), by simp [rd, hb, GO.cells?], (b, 0), rfl, rfl, Qk rfl ?_⟩
  have : H.put b (.trow tyB 0 [pv (some (b, 0)), slv s]) = H := Heap.put_id hb
  rw [this] at k; exact k
theorem Qjf {H : Heap} {b : Nat} {p : Option (Nat × Nat)} {s : Sl} {t : TypeId} (hb : H b = some (true, .trow t 0 [pv p, slv s])) : rd H (b, 0 + 1) = some (slv s) := by simp [rd, hb, GO.cells?]
theorem Qgl {b : Nat} {bs : Str} {c : UInt8} {K : Value → Heap → Prop} (h : IsB tyB tyE H b bs) (hl : bs.length + 1 ≤ 140737488355328) (k : K .nilIface (H.put b (Bd (bs ++ [c])))) : Qf C (some (b, 0)) (c.toNat : Int) K H := by
 apply Qf.gh
 refine h.open_ fun p s H' ho => ?_
 refine QbK _ _ _ _ _ ?_
 unfold Qax
 refine QeG ho.row ho.self ?_
 have ho2 := ho.setP (p2 := some (b, 0)) (.inr rfl)
 refine ⟨_, rfl, s, Qjf ho2.row, ?_⟩
 refine ho2.apd (by obtain ⟨g, hg⟩ := h.some; exact ⟨_, hg⟩) (ys := [c]) (by simpa using hl) fun r H3 h3 hr => ?_
 exact ⟨_, rfl, _, 0, _, hr, Nat.zero_le _, by simp, _, Gh.hideB h3, k⟩
theorem Qfs {b : Nat} {bs c : Str} {K : Int → Value → Heap → Prop} (h : IsB tyB tyE H b bs) (hl : bs.length + c.length ≤ 140737488355328) (k : K (c.length : Int) .nilIface (H.put b (Bd (bs ++ c)))) : Qh C (some (b, 0)) c K H := by
 apply Qh.gh
 refine h.open_ fun p s H' ho => ?_
 refine Qbq _ _ _ _ _ ?_
 unfold Qac
 refine QeG ho.row ho.self ?_
 have ho2 := ho.setP (p2 := some (b, 0)) (.inr rfl)
 refine ⟨_, rfl, s, Qjf ho2.row, ?_⟩
 refine ho2.apd (by obtain ⟨g, hg⟩ := h.some; exact ⟨_, hg⟩) (ys := c) hl fun r H3 h3 hr => ?_
 exact ⟨_, rfl, _, 0, _, hr, Nat.zero_le _, by simp, _, Gh.hideB h3, k⟩
theorem QhJ {b : Nat} {bs : Str} {K : Str → Heap → Prop} (h : IsB tyB tyE H b bs) (hl : bs.length ≤ 9223372036854775807) (k : K bs (H.put b (Bd bs))) : Qp C (some (b, 0)) K H := by
 apply Qp.gh
 refine h.open_ fun p s H' ho => ?_
 refine Qch _ _ _ _ ?_
 unfold QaX
 obtain ⟨e1, e2, e3⟩ := ho.slen
 have hrd : rd (H'.hide s) (b, 0 + 1) = some (slv s) := by
  have : (H'.hide s) b = H' b := by
   unfold Heap.hide
   split
   ·rename_i q hq; rw [if_neg (fun e => ho.ne q hq e.symm)]
   ·rfl
  simp [rd, this, ho.row, GO.cells?]
 refine ⟨H'.hide s, Heap.hide_le _ _, _, rfl, s, hrd, ⟨e3, e2⟩, _, rfl, s, hrd, ?_⟩
 rcases ho.buf with ⟨rfl, rfl⟩ | ⟨g, kk, row, hg, rfl, hgr, hk, hr0, hrl, hcs⟩
 ·exact .inl ⟨rfl, Heap.hide_le _ _, _, Gh.hideB ho, k⟩
 ·by_cases h0 : bs = []
  ·subst h0
   exact .inl ⟨rfl, Heap.hide_le _ _, _, Gh.hideB ho, k⟩
  ·refine .inr ⟨g, kk, row, bs, rfl, hgr, rfl, h0, hl, hcs, fun x v hx => ?_, _, Gh.hideB (b := b) (T := tyB) (e := tyE) (bs := bs) (p := p) (s := ⟨some (g, 0), bs.length, row.length, none⟩) ?_, k⟩
   ·have hxg : x ≠ g := fun e => by subst e; simp [Heap.hide] at hx
    rw [Heap.put_ne _ _ _ hxg]; exact (Heap.hide_le _ _) _ _ hx
   ·refine ⟨ho.self, by rw [Heap.put_ne _ _ _ (Ne.symm hg)]; exact ho.row, .inr ⟨g, max kk bs.length, row, hg, rfl, Heap.put_same .., by omega, hr0, hrl, hcs⟩, ho.gnot, fun x v hx hv => ?_⟩
    have hxg : x ≠ g := fun e => by subst e; have := ho.gnot (x, 0) rfl; dsimp only at this; rw [this] at hv; cases hv
    rw [Heap.put_ne _ _ _ hxg]; exact ho.but x v hx hv
end
end
section
open Go Go.Proofs
section
variable {C : Ctx} {H : Heap}
theorem QfS {b : Bool} {K : Str → Heap → Prop} (k : K (if b then trueS else falseS) H) : QaT C b K H := by
 apply Qc9
 unfold Qbu
 apply Qbp
 unfold Qab
 cases b with
 | true => exact Qm rfl k
 | false => exact Qk rfl k
theorem hexS {k : Nat} (h : k < 16) : ([48, 49, 50, 51, 52, 53, 54, 55, 56, 57, 97, 98, 99, 100, 101, 102] : Str)[k]? = some (hexD k) := by
 have : ∀ k : Fin 16, ([48, 49, 50, 51, 52, 53, 54, 55, 56, 57, 97, 98, 99, 100, 101, 102] : Str)[k.val]? = some (hexD k.val) := by decide
 exact this ⟨k, h⟩
theorem shr4 : ∀ c : UInt8, sShr .u8 (c.toNat : Int) 4 = ((c.toNat / 16 : Nat) : Int) := by
 have : ∀ k : Fin 256, sShr .u8 (k.val : Int) 4 = ((k.val / 16 : Nat) : Int) := by decide +kernel
 exact fun c => this ⟨c.toNat, c.toNat_lt⟩
theorem and15 : ∀ c : UInt8, bAnd .u8 (c.toNat : Int) 15 = ((c.toNat % 16 : Nat) : Int) := by
 have : ∀ k : Fin 256, bAnd .u8 (k.val : Int) 15 = ((k.val % 16 : Nat) : Int) := by decide +kernel
 exact fun c => this ⟨c.toNat, c.toNat_lt⟩
/-- over A, of which b is not, the builder b holds bs -/
structure Wr (A B : Heap) (b : Nat) (bs : Str) : Prop where
 le : A.le B
 nb : A b = none
 bl : IsB tyB tyE B b bs
theorem Wr.byte {A B : Heap} {b : Nat} {bs : Str} {c : UInt8} {i : Int} {K : Value → Heap → Prop} (h : Wr A B b bs) (hi : i = (c.toNat : Int)) (hl : bs.length + 1 ≤ 140737488355328) (k : ∀ D, Wr A D b (bs ++ [c]) → K .nilIface D) : Qf C (some (b, 0)) i K B := by
 subst hi
 exact Qgl h.bl hl (k _ ⟨h.le.put _ _ h.nb, h.nb, IsB.put⟩)
theorem Wr.str {A B : Heap} {b : Nat} {bs s : Str} {K : Int → Value → Heap → Prop} (h : Wr A B b bs) (hl : bs.length + s.length ≤ 140737488355328) (k : ∀ D, Wr A D b (bs ++ s) → K (s.length : Int) .nilIface D) : Qh C (some (b, 0)) s K B :=
 Qfs h.bl hl (k _ ⟨h.le.put _ _ h.nb, h.nb, IsB.put⟩)
theorem Qig (c : UInt8) : 1 ≤ (qC c).length ∧ (qC c).length ≤ 4 := by
 rcases QeU c with ⟨_, e⟩ | ⟨_, e⟩ | ⟨_, e⟩ | ⟨_, _, e⟩ | e <;> rw [e] <;> simp
theorem QiQ {A B : Heap} {b : Nat} {bs s : Str} {K : Heap → Prop} (h : Wr A B b bs) (hl : bs.length + (quoteS s).length ≤ 140737488355328) (k : ∀ D, Wr A D b (bs ++ quoteS s) → K D) : QcN C (some (b, 0)) s K B := by
 apply Qfz
 unfold QdR
 have hql : (quoteS s).length = (s.flatMap qC).length + 2 := by simp [quoteS]
 have hpre : ∀ i, ((s.take i).flatMap qC).length ≤ (s.flatMap qC).length := fun i => by
  have := congrArg List.length (congrArg (List.flatMap qC) (List.take_append_drop i s))
  rw [List.flatMap_append, List.length_append] at this; omega
 have hsl : s.length ≤ (s.flatMap qC).length := by
  clear hl k hql hpre
  induction s with
  | nil => exact Nat.le_refl _
  | cons c s ih =>
   have := (Qig c).1
   rw [List.flatMap_cons, List.length_append, List.length_cons]; omega
 refine h.byte (c := 34) rfl (by omega) fun B1 h1 => ?_
 refine ⟨fun x D => ∃ i : Nat, x = (i : Int) ∧ i ≤ s.length ∧ Wr A D b (bs ++ [34] ++ (s.take i).flatMap qC), fun x _ => s.length - x.toNat, ⟨0, rfl, Nat.zero_le _, by simpa using h1⟩, ?_⟩
 rintro _ D ⟨i, rfl, hi, hw⟩
 refine ift.of (fun hlt => ?_) (fun hlt => ?_)
 ·have hlt : i < s.length := by have := of_decide_eq_true hlt; omega
  have hstep : (s.take (i + 1)).flatMap qC = (s.take i).flatMap qC ++ qC s[i] := by
   rw [List.take_add_one, List.getElem?_eq_getElem hlt, Option.toList_some, List.flatMap_append, List.flatMap_singleton]
  have hnl := hpre (i + 1)
  rw [hstep, List.length_append] at hnl
  have hcur : (bs ++ [34] ++ (s.take i).flatMap qC).length = bs.length + 1 + ((s.take i).flatMap qC).length := by simp only [List.length_append, List.length_singleton]
  refine ⟨fun _ E => Wr A E b (bs ++ [34] ++ (s.take (i + 1)).flatMap qC), ?_, ?_⟩
  ·refine ⟨s[i], by omega, by rw [Int.toNat_natCast]; exact List.getElem?_eq_getElem hlt, ?_⟩
   rw [hstep, ← List.append_assoc]
   generalize s[i] = c at *
   generalize bs ++ [34] ++ (s.take i).flatMap qC = cur at *
   have e34 : ((c.toNat : Int) == 34) = decide (c = 34) := by
    rw [Bool.eq_iff_iff, beq_iff_eq, decide_eq_true_iff]
    exact ⟨fun h => Qir (by show c.toNat = 34; omega), fun h => by rw [h]; rfl⟩
   have e92 : ((c.toNat : Int) == 92) = decide (c = 92) := by
    rw [Bool.eq_iff_iff, beq_iff_eq, decide_eq_true_iff]
    exact ⟨fun h => Qir (by show c.toNat = 92; omega), fun h => by rw [h]; rfl⟩
   have e10 : ((c.toNat : Int) == 10) = decide (c = 10) := by
    rw [Bool.eq_iff_iff, beq_iff_eq, decide_eq_true_iff]
    exact ⟨fun h => Qir (by show c.toNat = 10; omega), fun h => by rw [h]; rfl⟩
   have e9 : ((c.toNat : Int) == 9) = decide (c = 9) := by
    rw [Bool.eq_iff_iff, beq_iff_eq, decide_eq_true_iff]
    exact ⟨fun h => Qir (by show c.toNat = 9; omega), fun h => by rw [h]; rfl⟩
   rw [e34, e92, e10, e9]
   have hq4 := (Qig c).2
   refine ift.of (fun c1 => ?_) (fun c1 => ?_)
   ·simp only [Bool.or_eq_true, decide_eq_true_eq] at c1
    have e : qC c = [92, c] := by unfold qC; rw [if_pos c1]
    rw [e] at hnl ⊢
    simp only [List.length_cons, List.length_nil] at hnl
    refine hw.byte (c := 92) rfl (by omega) fun D1 h2 => h2.byte (c := c) rfl (by simp; omega) fun D2 h3 => ?_
    simpa using h3
   simp only [Bool.or_eq_false_iff, decide_eq_false_iff_not] at c1
   have c1' : ¬ (c = 34 ∨ c = 92) := fun h => h.elim c1.1 c1.2
   refine ift.of (fun c2 => ?_) (fun c2 => ?_)
   ·have c2 := of_decide_eq_true c2
    have e : qC c = [92, 110] := by unfold qC; rw [if_neg c1', if_pos c2]
    rw [e] at hnl ⊢
    simp only [List.length_cons, List.length_nil] at hnl
    exact hw.str (s := [92, 110]) (by simp; omega) fun D1 h2 => h2
   have c2 := of_decide_eq_false c2
   refine ift.of (fun c3 => ?_) (fun c3 => ?_)
   ·have c3 := of_decide_eq_true c3
    have e : qC c = [92, 116] := by unfold qC; rw [if_neg c1', if_neg c2, if_pos c3]
    rw [e] at hnl ⊢
    simp only [List.length_cons, List.length_nil] at hnl
    exact hw.str (s := [92, 116]) (by simp; omega) fun D1 h2 => h2
   have c3 := of_decide_eq_false c3
   refine ift.of (fun c4 => ?_) (fun c4 => ?_)
   ·simp only [Bool.and_eq_true, decide_eq_true_eq] at c4
    have e : qC c = [c] := by unfold qC; rw [if_neg c1', if_neg c2, if_neg c3, if_pos (by omega)]
    rw [e] at hnl ⊢
    simp only [List.length_cons, List.length_nil] at hnl
    exact hw.byte (c := c) rfl (by omega) fun D1 h2 => h2
   ·simp only [Bool.and_eq_false_iff, decide_eq_false_iff_not] at c4
    have e : qC c = [92, 120, hexD (c.toNat / 16), hexD (c.toNat % 16)] := by unfold qC; rw [if_neg c1', if_neg c2, if_neg c3, if_neg (by omega)]
    rw [e] at hnl ⊢
    simp only [List.length_cons, List.length_nil] at hnl
    have hct := c.toNat_lt
    refine hw.str (s := [92, 120]) (by simp; omega) fun D1 h2 => ?_
    rw [shr4, and15]
    refine ⟨hexD (c.toNat / 16), by omega, by rw [Int.toNat_natCast]; exact hexS (by omega), ?_⟩
    refine h2.byte (c := hexD (c.toNat / 16)) rfl (by simp; omega) fun D2 h3 => ?_
    refine ⟨hexD (c.toNat % 16), by omega, by rw [Int.toNat_natCast]; exact hexS (by omega), ?_⟩
    refine h3.byte (c := hexD (c.toNat % 16)) rfl (by simp; omega) fun D3 h4 => ?_
    simpa using h4
  ·rintro _ E hE
   rw [QcG (by omega) (by omega)]
   exact ⟨⟨i + 1, by omega, by omega, hE⟩, by first | omega | (dsimp only; omega)⟩
 ·have hie : i = s.length := by have := of_decide_eq_false hlt; omega
  rw [hie, List.take_length] at hw
  refine hw.byte (c := 34) rfl (by simp only [List.length_append, List.length_singleton]; omega) fun E hE => k E ?_
  simpa [quoteS] using hE
/-- the two closures, each in the other's cell -/
structure Clo (C : Ctx) (A : Heap) (b p q : Nat) : Prop where
 list : ∃ x, rd A (p, 0) = some x ∧ ∀ (t : Sl) (B : Heap) (Φ : Value → Heap → Prop), Qck C t (b, 0) (q, 0) (fun D => Φ (.tuple #[]) D) B → callU Tryz.prog C x [slv t] B Φ
 show_ : ∃ x, rd A (q, 0) = some x ∧ ∀ (v : TV) (B : Heap) (Φ : Value → Heap → Prop), QaV C v (b, 0) (p, 0) (fun D => Φ (.tuple #[]) D) B → callU Tryz.prog C x [.agg (Qa.c v).toArray] B Φ
variable {A B : Heap} {b p q : Nat}
theorem Clo.le {A1 : Heap} (h : Clo C A b p q) (hle : A.le A1) : Clo C A1 b p q := by
 obtain ⟨⟨x, h1, h2⟩, y, h3, h4⟩ := h
 exact ⟨⟨x, QgX hle h1, h2⟩, y, QgX hle h3, h4⟩
theorem Wr.box {bs : Str} {b1 : Nat} {x : TV} (h : Wr A B b bs) (n1 : B b1 = none) :
 Wr (A.put b1 (.row (Qa.c x))) (B.put b1 (.row (Qa.c x))) b bs ∧ A.le (A.put b1 (.row (Qa.c x))) ∧ (A.put b1 (.row (Qa.c x))) b1 = some (true, .row (Qa.c x)) := by
 have hne : b ≠ b1 := fun e => by
  obtain ⟨g, hg⟩ := h.bl.some
  rw [e, n1] at hg; cases hg
 refine ⟨⟨fun z e hz => ?_, by rw [Heap.put_ne _ _ _ hne]; exact h.nb, h.bl.le (Heap.le_put n1)⟩, Heap.le_put (h.le.none n1), Heap.put_same ..⟩
 by_cases hzb : z = b1
 ·subst hzb; rw [Heap.put_same] at hz ⊢; exact hz
 ·rw [Heap.put_ne _ _ _ hzb] at hz ⊢; exact h.le _ _ hz
theorem Wr.base {A1 D : Heap} {bs : Str} (h : Wr A1 D b bs) (hle : A.le A1) : Wr A D b bs := ⟨hle.trans h.le, hle.none h.nb, h.bl⟩
theorem Qhm (v : V) : showV v = if v.k = 1 then (if v.n = 1 then trueS else falseS) else if v.k = 2 then Lib.itoa v.n else if v.k = 3 then v.s ++ [98] else if v.k = 4 then quoteS v.s
 else if v.k = 5 then 40 :: (showR true v.l ++ [41]) else v.s ++ (if v.l.length = 0 then [] else 40 :: (showR true v.l ++ [41])) := by cases v; rfl
theorem Qh0 {l : List V} (ih : ∀ w ∈ l, ∀ {A B : Heap} {x : TV} {bs : Str} {K : Heap → Prop}, Clo C A b p q → VIs A w x → VB w → Wr A B b bs → bs.length + (showV w).length ≤ 140737488355328 → (∀ D, Wr A D b (bs ++ showV w) → K D) → QaV C x (b, 0) (p, 0) K B)
 {A B : Heap} {t : Sl} {bs : Str} {K : Heap → Prop} (hC : Clo C A b p q) (hv : VRow A t l) (hl0 : l.length ≤ 140737488355328) (hB : VBs l) (h : Wr A B b bs) (hl : bs.length + (showR true l).length + 2 ≤ 140737488355328)
 (k : ∀ D, Wr A D b (bs ++ (40 :: (showR true l ++ [41]))) → K D) : Qck C t (b, 0) (q, 0) K B := by
 apply QeY
 unfold Qdq
 refine h.byte (c := 40) rfl (by omega) fun B1 h1 => ?_
 rw [hv.len]
 refine ⟨fun x D => ∃ i : Nat, x = (i : Int) ∧ i ≤ l.length ∧ Wr A D b (bs ++ [40] ++ showR true (l.take i)), fun x _ => l.length - x.toNat, ⟨0, rfl, Nat.zero_le _, by simpa [showR] using h1⟩, ?_⟩
 rintro _ D ⟨i, rfl, hi, hw⟩
 refine ift.of (fun hlt => ?_) (fun hlt => ?_)
 ·have hlt : i < l.length := by have := of_decide_eq_true hlt; omega
  have hm := List.getElem_mem hlt
  have hst := QhC hlt
  have hpl := Qin l (i + 1)
  rw [hst] at hpl
  simp only [List.length_append] at hpl
  refine hv.ld hw.le rfl hlt fun x hx => ?_
  intro b14 n14
  refine ⟨_, Heap.put_same .., by simp [Qa.c], ?_⟩
  rw [Heap.put_put]
  have hc : splice (Qa.c Qa.zero) (b14, 0).2 (Qa.c x) = Qa.c x := rfl
  rw [hc]
  obtain ⟨w1, w2, w3⟩ := hw.box (x := x) n14
  refine ⟨fun _ E => Wr (A.put b14 (.row (Qa.c x))) E b (bs ++ [40] ++ showR true (l.take i) ++ (if i = 0 then [] else [44, 32])), ?_, ?_⟩
  ·refine ift.of (fun h0 => ?_) (fun h0 => ?_)
   ·have h0 : i ≠ 0 := by have := of_decide_eq_true h0; omega
    rw [if_neg h0] at hpl ⊢
    simp only [List.length_cons, List.length_nil] at hpl
    exact w1.str (s := [44, 32]) (by simp only [List.length_append, List.length_cons, List.length_nil]; omega) fun E hE => hE
   ·have h0 : i = 0 := by have := of_decide_eq_false h0; omega
    rw [if_pos h0, List.append_nil]; exact w1
  ·rintro _ E hE
   obtain ⟨y, y1, y2⟩ := (hC.le w2).show_
   refine ⟨y, QgX hE.le y1, bxV (hE.le _ _ w3) (y2 _ _ _ (ih _ hm (hC.le w2) (hx.le w2) (hB.mem hm) hE ?_ fun F hF => ⟨rfl, ?_⟩))⟩
   ·simp only [List.length_append, List.length_cons, List.length_nil]; omega
   ·rw [QcG (by omega) (by omega)]
    refine ⟨⟨i + 1, by omega, by omega, ?_⟩, by first | omega | (dsimp only; omega)⟩
    rw [hst]
    have := hF.base w2
    simpa only [List.append_assoc] using this
 ·have hie : i = l.length := by have := of_decide_eq_false hlt; omega
  rw [hie, List.take_length] at hw
  refine hw.byte (c := 41) rfl (by simp only [List.length_append, List.length_cons, List.length_nil]; omega) fun E hE => k E ?_
  simpa only [List.append_assoc, List.cons_append, List.nil_append] using hE
theorem QiY (hF : FmtC C) (v : V) : ∀ {A B : Heap} {x : TV} {bs : Str} {K : Heap → Prop}, Clo C A b p q → VIs A v x → VB v → Wr A B b bs → bs.length + (showV v).length ≤ 140737488355328 → (∀ D, Wr A D b (bs ++ showV v) → K D) → QaV C x (b, 0) (p, 0) K B := by
 refine V.rec_ (P := fun v => ∀ {A B : Heap} {x : TV} {bs : Str} {K : Heap → Prop}, Clo C A b p q → VIs A v x → VB v → Wr A B b bs → bs.length + (showV v).length ≤ 140737488355328 → (∀ D, Wr A D b (bs ++ showV v) → K D) → QaV C x (b, 0) (p, 0) K B) (fun v ih => ?_) v
 intro A B x bs K hC hv hB h hl k
 apply QeZ
 unfold Qdr
 intro b1 n1
 obtain ⟨w1, w2, w3⟩ := h.box (x := x) n1
 have hv1 := Qc8.1 hv
 have hb1 := w1.le _ _ w3
 have k1 : ∀ D, Wr (A.put b1 (.row (Qa.c x))) D b (bs ++ showV v) → K D := fun D hD => k D (hD.base w2)
 rw [Qhm] at hl k1
 have hC1 := hC.le w2
 have hrow := hv1.2.2.2.le w2
 generalize A.put b1 (.row (Qa.c x)) = A1 at *
 generalize B.put b1 (.row (Qa.c x)) = B1 at *
 refine bxK hb1 ?_
 rw [hv1.1]
 refine ift.of (fun h1 => ?_) (fun h1 => ?_)
 ·have h1 : v.k = 1 := by simpa using h1
  rw [if_pos h1] at hl k1
  refine bxN hb1 (QfS ?_)
  rw [hv1.2.1]
  have e : (if (v.n == 1) = true then trueS else falseS) = (if v.n = 1 then trueS else falseS) := by simp
  rw [e]
  exact w1.str hl k1
 have h1 : v.k ≠ 1 := by simpa using h1
 rw [if_neg h1] at hl k1
 refine ift.of (fun h2 => ?_) (fun h2 => ?_)
 ·have h2 : v.k = 2 := by simpa using h2
  rw [if_pos h2] at hl k1
  refine bxN hb1 ?_
  rw [hv1.2.1]
  exact hF.ok hB.n.1 hB.n.2 (w1.str hl k1)
 have h2 : v.k ≠ 2 := by simpa using h2
 rw [if_neg h2] at hl k1
 refine ift.of (fun h3 => ?_) (fun h3 => ?_)
 ·have h3 : v.k = 3 := by simpa using h3
  rw [if_pos h3] at hl k1
  simp only [List.length_append, List.length_cons, List.length_nil] at hl
  refine bxS hb1 ?_
  rw [hv1.2.2.1]
  refine w1.str (by omega) fun D hD => hD.byte (c := 98) rfl (by rw [List.length_append]; omega) fun E hE => k1 E ?_
  simpa only [List.append_assoc] using hE
 have h3 : v.k ≠ 3 := by simpa using h3
 rw [if_neg h3] at hl k1
 refine ift.of (fun h4 => ?_) (fun h4 => ?_)
 ·have h4 : v.k = 4 := by simpa using h4
  rw [if_pos h4] at hl k1
  refine bxS hb1 ?_
  rw [hv1.2.2.1]
  exact QiQ w1 hl k1
 have h4 : v.k ≠ 4 := by simpa using h4
 rw [if_neg h4] at hl k1
 obtain ⟨y, y1, y2⟩ := hC1.list
 refine ift.of (fun h5 => ?_) (fun h5 => ?_)
 ·have h5 : v.k = 5 := by simpa using h5
  rw [if_pos h5] at hl k1
  simp only [List.length_append, List.length_cons, List.length_nil] at hl
  exact ⟨y, QgX w1.le y1, bxL hb1 (y2 _ _ _ (Qh0 ih hC1 hrow hB.l hB.ls w1 (by omega) fun D hD => ⟨rfl, k1 D hD⟩))⟩
 have h5 : v.k ≠ 5 := by simpa using h5
 rw [if_neg h5] at hl k1
 rw [List.length_append] at hl
 refine bxS hb1 ?_
 rw [hv1.2.2.1]
 refine w1.str (by omega) fun D hD => bxL (hD.le _ _ w3) ?_
 rw [hrow.len]
 refine ift.of (fun h6 => ?_) (fun h6 => ?_)
 ·have h6 : v.l.length ≠ 0 := by have := of_decide_eq_true h6; omega
  rw [if_neg h6] at hl k1
  simp only [List.length_append, List.length_cons, List.length_nil] at hl
  refine ⟨y, QgX hD.le y1, bxL (hD.le _ _ w3) (y2 _ _ _ (Qh0 ih hC1 hrow hB.l hB.ls hD (by rw [List.length_append]; omega) fun E hE => ⟨rfl, k1 E ?_⟩))⟩
  rw [← List.append_assoc]; exact hE
 ·have h6 : v.l.length = 0 := by have := of_decide_eq_false h6; omega
  rw [if_pos h6] at k1
  rw [List.append_nil] at k1
  exact k1 D hD
/-- the text of a value that may be -/
theorem Qjk (hF : FmtC C) {v : V} {x : TV} {K : Str → Heap → Prop} (hv : VIs H v x) (hB : VB v) (hl : mayV v = true → (showV v).length ≤ 140737488355328) (k : ∀ H2, H.le H2 → K (if mayV v then showV v else []) H2) : Qa7 C x K H := by
 apply QfW
 unfold Qel
 intro b1 n1
 have hle1 := Heap.le_put n1 (g := .row (Qa.c x)) (m := true)
 have hb1 : (H.put b1 (.row (Qa.c x))) b1 = some (true, .row (Qa.c x)) := Heap.put_same ..
 have hv1 := hv.le hle1
 generalize H.put b1 (.row (Qa.c x)) = H1 at *
 refine bxV hb1 (Qcr hv1 hB ?_)
 rw [bne, Qhd]
 refine ift.of (fun h => ?_) (fun h => ?_)
 ·have h : mayV v = false := by simpa using h
  have := k H1 hle1
  rw [h] at this; exact this
 have h : mayV v = true := by simpa using h
 intro b8 n8 b10 n10 b12 n12
 have l8 := Heap.le_put n8 (g := .trow tyB 0 [pv none, slv Sl.nil]) (m := true)
 have ne1 : b8 ≠ b10 := fun e => by rw [e, Heap.put_same] at n10; cases n10
 have ne2 : b8 ≠ b12 := fun e => by rw [← e, Heap.put_ne _ _ _ ne1, Heap.put_same] at n12; cases n12
 have ne3 : b10 ≠ b12 := fun e => by rw [e, Heap.put_same] at n12; cases n12
 refine ⟨[.nilFunc], Heap.put_same .., Nat.zero_lt_one, ?_⟩
 refine ⟨[.nilFunc], ?_, Nat.zero_lt_one, ?_⟩
 ·show ((((H1.put b8 _).put b10 _).put b12 _).put b12 _) b10 = _
  rw [Heap.put_ne _ _ _ ne3, Heap.put_ne _ _ _ ne3, Heap.put_same]
 generalize hf24 : Value.func (Fn.func _) (List.toArray []) (List.toArray [pv (some (b8, 0)), pv (some (b10, 0))]) = F24
 generalize hf27 : Value.func (Fn.func _) (List.toArray []) (List.toArray [pv (some (b8, 0)), pv (some (b12, 0))]) = F27
 simp only [List.set_cons_zero]
 have n10' : H1 b10 = none := l8.none n10
 have n12' : H1 b12 = none := (l8.trans (Heap.le_put n10)).none n12
 generalize hD0 : ((((H1.put b8 (.trow tyB 0 [pv none, slv Sl.nil])).put b10 (.row [.nilFunc])).put b12 (.row [.nilFunc])).put b12 (.row [F24])).put b10 (.row [F27]) = D0
 have d8 : D0 b8 = some (true, .trow tyB 0 [pv none, slv Sl.nil]) := by
  rw [← hD0, Heap.put_ne _ _ _ ne1, Heap.put_ne _ _ _ ne2, Heap.put_ne _ _ _ ne2, Heap.put_ne _ _ _ ne1, Heap.put_same]
 have d10 : D0 b10 = some (true, .row [F27]) := by rw [← hD0, Heap.put_same]
 have d12 : D0 b12 = some (true, .row [F24]) := by rw [← hD0, Heap.put_ne _ _ _ (Ne.symm ne3), Heap.put_same]
 have dle : H1.le D0 := fun z e hz => by
  have z8 : z ≠ b8 := fun e' => by rw [e', n8] at hz; cases hz
  have z10 : z ≠ b10 := fun e' => by rw [e', n10'] at hz; cases hz
  have z12 : z ≠ b12 := fun e' => by rw [e', n12'] at hz; cases hz
  rw [← hD0, Heap.put_ne _ _ _ z10, Heap.put_ne _ _ _ z12, Heap.put_ne _ _ _ z12, Heap.put_ne _ _ _ z10, Heap.put_ne _ _ _ z8]; exact hz
 clear hD0
 let A : Heap := D0.del b8
 have hA8 : A b8 = none := Heap.del_same ..
 have hAle : A.le D0 := Heap.del_le D0 b8
 have hHA : H1.le A := fun z e hz => by
  have z8 : z ≠ b8 := fun e' => by rw [e', n8] at hz; cases hz
  show D0.del b8 z = _
  rw [Heap.del_ne _ z8]; exact dle _ _ hz
 have hw : Wr A D0 b8 [] := ⟨hAle, hA8, .inr ⟨rfl, d8⟩⟩
 have a10 : A b10 = some (true, .row [F27]) := by show D0.del b8 b10 = _; rw [Heap.del_ne _ (Ne.symm ne1)]; exact d10
 have a12 : A b12 = some (true, .row [F24]) := by show D0.del b8 b12 = _; rw [Heap.del_ne _ (Ne.symm ne2)]; exact d12
 have hC : Clo C A b8 b12 b10 := by
  refine ⟨⟨F24, by simp [rd, a12, GO.cells?], fun t B Φ hh => ?_⟩, F27, by simp [rd, a10, GO.cells?], fun w B Φ hh => ?_⟩
  ·exact ⟨_, [], _, hf24.symm, Qfb, Spec.mono hh fun u B2 ⟨e, h2⟩ => by rw [e]; exact h2⟩
  ·exact ⟨_, [], _, hf27.symm, Qfc, Spec.mono hh fun u B2 ⟨e, h2⟩ => by rw [e]; exact h2⟩
 obtain ⟨y, y1, y2⟩ := hC.show_
 refine ⟨y, QgX hAle y1, bxV (dle _ _ hb1) (y2 _ _ _ (QiY hF v (bs := []) hC (hv1.le hHA) hB hw (by simpa using hl h) fun D hD => ⟨rfl, ?_⟩))⟩
 refine QhJ hD.bl (by rw [List.nil_append]; have := hl h; omega) ?_
 have := k (D.put b8 (Bd ([] ++ showV v))) ((hle1.trans hHA).trans (hD.le.put _ _ hA8))
 rw [h] at this
 exact this
end
theorem Qhv (s : Str) : (quoteS s).length ≤ 4 * s.length + 2 := by
 have : (s.flatMap qC).length ≤ 4 * s.length := by
  induction s with
  | nil => exact Nat.le_refl _
  | cons c s ih =>
   have := (Qig c).2
   rw [List.flatMap_cons, List.length_append, List.length_cons]; omega
 simp only [quoteS, List.length_cons, List.length_append, List.length_nil]; omega
theorem QgE : ∀ (l : List V) (f : Bool), (∀ v ∈ l, (showV v).length + 2 ≤ 17000 * vsize v) → (showR f l).length ≤ 17000 * vsizes l
 | [], f, _ => by simp [showR]
 | v :: l, f, h => by
  have h1 := h v (List.mem_cons_self ..)
  have h2 := QgE l false fun w hw => h w (List.mem_cons_of_mem _ hw)
  simp only [showR, vsizes, List.length_append]
  have h3 : (if f = true then ([] : Str) else [44, 32]).length ≤ 2 := by cases f <;> simp
  omega
theorem Qio (v : V) : VB v → formV v = true → fitsV v = true → (showV v).length + 2 ≤ 17000 * vsize v := by
 refine V.rec_ (P := fun v => VB v → formV v = true → fitsV v = true → (showV v).length + 2 ≤ 17000 * vsize v) (fun v ih => ?_) v
 intro hB hf hfit
 have hsz : vsize v = vsizes v.l + 1 := by cases v; rfl
 obtain ⟨hfs, hc⟩ := Qdy hf
 rw [Qg7, Bool.and_eq_true] at hfit
 have fm : ∀ {l : List V} {w : V}, w ∈ l → fitsVs l = true → fitsV w = true := by
  intro l
  induction l with
  | nil => intro w hw; cases hw
  | cons x l ihl =>
   intro w hw hl
   simp only [fitsVs, Bool.and_eq_true] at hl
   rcases List.mem_cons.1 hw with rfl | hw
   ·exact hl.1
   ·exact ihl hw hl.2
 have hR := QgE v.l true fun w hw => ih w hw (hB.ls.mem hw) (Qex hw hfs) (fm hw hfit.2)
 have hfN := hfit.1
 rw [Qhm, hsz]
 unfold fitN at hfN
 rcases hc with ⟨h, _⟩ | ⟨h, _⟩ | ⟨h, hn, _⟩ | ⟨h, _⟩ | ⟨h, _⟩ | ⟨h, _, hn⟩
 ·rw [if_pos h]
  have : (if v.n = 1 then trueS else falseS).length ≤ 5 := by split <;> decide
  omega
 ·rw [if_neg (by omega), if_pos h]
  have := Lib.itoa_length_le v.n hB.n.1 hB.n.2
  omega
 ·rw [if_neg (by omega), if_neg (by omega), if_pos h]
  rw [if_pos h] at hfN
  have hd := of_decide_eq_true hfN
  have := (Qey hn).2.2
  rw [List.length_append, List.length_singleton]; omega
 ·rw [if_neg (by omega), if_neg (by omega), if_neg (by omega), if_pos h]
  rw [if_neg (by omega), if_pos h] at hfN
  have hd := of_decide_eq_true hfN
  have := Qhv v.s
  omega
 ·rw [if_neg (by omega), if_neg (by omega), if_neg (by omega), if_neg (by omega), if_pos h]
  simp only [List.length_cons, List.length_append, List.length_nil]; omega
 ·rw [if_neg (by omega), if_neg (by omega), if_neg (by omega), if_neg (by omega), if_neg (by omega)]
  have := (Qdg hn).2.2.2.1
  have h2 : (if v.l.length = 0 then ([] : Str) else 40 :: (showR true v.l ++ [41])).length ≤ (showR true v.l).length + 2 := by
   split
   ·exact Nat.zero_le _
   ·simp
  rw [List.length_append]; omega
end
section
open Go Go.Proofs
section
variable {C : Ctx} {H : Heap}
end
end
section
open Go Go.Proofs
section
variable {C : Ctx} {H : Heap}
end
end
section
open Go Go.Proofs
/-- a row and its relation's name -/
abbrev NR := Str × List V
def cmpN (a b : NR) : Int := if vcmpS a.1 b.1 ≠ 0 then vcmpS a.1 b.1 else cmpR a.2 b.2
theorem Lin.nr : Lin cmpN fun _ => True := (Lin.txt.comp (fun p : NR => p.1)).or (Lin.row.comp fun p : NR => p.2)
theorem QhL {a b : NR} (ha : mayR a.2 = true) (hb : mayR b.2 = true) : cmpN a b = 0 ↔ a = b := by
 refine ⟨fun h => ?_, fun h => by rw [h]; exact Lin.nr.refl trivial⟩
 unfold cmpN at h
 split at h
 ·rename_i h1; exact absurd h h1
 ·rename_i h1
  have h1 : vcmpS a.1 b.1 = 0 := by omega
  exact Prod.ext ((vslt _ _).2.1.1 h1) ((Qgp ha hb).1 h)
/-- what is there -/
abbrev Sta := NR → Prop
def noS : Sta := fun _ => False
def putS (S : Sta) (x : NR) : Sta := fun y => S y ∨ y = x
def Qew (S : Sta) (x : NR) : Sta := fun y => S y ∧ y ≠ x
theorem QiP {S : Sta} {x : NR} (h : ¬ S x) : Qew (putS S x) x = S := by
 funext y
 refine propext ⟨fun ⟨h1, h2⟩ => h1.resolve_right h2, fun h1 => ⟨.inl h1, fun e => h (e ▸ h1)⟩⟩
theorem QiH {S : Sta} {x : NR} (h : S x) : putS (Qew S x) x = S := by
 funext y
 refine propext ⟨fun h1 => h1.elim (fun h2 => h2.1) fun e => e ▸ h, fun h1 => ?_⟩
 by_cases e : y = x
 ·exact .inr e
 ·exact .inl ⟨h1, e⟩
/-- a thing done: put there (true) or taken away -/
abbrev Th := Bool × NR
def stepS (t : Th) (S S2 : Sta) : Prop := if t.1 then ¬ S t.2 ∧ S2 = putS S t.2 else S t.2 ∧ S2 = Qew S t.2
theorem Qg1 {x : NR} {S S2 : Sta} : stepS (true, x) S S2 ↔ ¬ S x ∧ S2 = putS S x := Iff.rfl
theorem Qg0 {x : NR} {S S2 : Sta} : stepS (false, x) S S2 ↔ S x ∧ S2 = Qew S x := Iff.rfl
/-- a step turns that row alone -/
theorem stepS.turn {t : Th} {S S2 : Sta} (h : stepS t S S2) : (S2 t.2 ↔ ¬ S t.2) ∧ ∀ y, y ≠ t.2 → (S2 y ↔ S y) := by
 obtain ⟨b, x⟩ := t
 cases b with
 | true =>
  obtain ⟨h1, rfl⟩ := Qg1.1 h
  exact ⟨⟨fun _ => h1, fun _ => .inr rfl⟩, fun y hy => ⟨fun h => h.resolve_right hy, .inl⟩⟩
 | false =>
  obtain ⟨h1, rfl⟩ := Qg0.1 h
  exact ⟨⟨fun h => absurd rfl h.2, fun h => absurd h1 h⟩, fun y hy => ⟨fun h => h.1, fun h => ⟨h, hy⟩⟩⟩
def RiseN (W : List NR) : Prop := W.Pairwise fun a b => cmpN a b < 0
def RiseT (N : List Str) : Prop := N.Pairwise fun a b => vcmpS a b < 0
def Rise (T : List (List V)) : Prop := T.Pairwise fun a b => cmpR a b < 0
/-- a list of all that is there -/
structure IsW (S : Sta) (W : List NR) : Prop where
 rise : RiseN W
 mem : ∀ x, x ∈ W ↔ S x
abbrev Cg := NR × Int
structure IsD (S0 S : Sta) (D : List Cg) : Prop where
 rise : RiseN (D.map fun d => d.1)
 mem : ∀ x n, (x, n) ∈ D ↔ (n = 1 ∧ S x ∧ ¬ S0 x) ∨ (n = -1 ∧ S0 x ∧ ¬ S x)
theorem IsD.key {S0 S : Sta} {D : List Cg} (h : IsD S0 S D) (x : NR) : x ∈ (D.map fun d => d.1) ↔ ¬ (S x ↔ S0 x) := by
 rw [List.mem_map]
 constructor
 ·rintro ⟨⟨y, n⟩, hd, rfl⟩
  rcases (h.mem _ _).1 hd with ⟨_, h1, h2⟩ | ⟨_, h1, h2⟩
  ·exact fun h3 => h2 (h3.1 h1)
  ·exact fun h3 => h2 (h3.2 h1)
 ·intro hx
  by_cases h1 : S x
  ·exact ⟨(x, 1), (h.mem _ _).2 (.inl ⟨rfl, h1, fun h2 => hx ⟨fun _ => h2, fun _ => h1⟩⟩), rfl⟩
  ·by_cases h2 : S0 x
   ·exact ⟨(x, -1), (h.mem _ _).2 (.inr ⟨rfl, h2, h1⟩), rfl⟩
   ·exact absurd ⟨fun h => absurd h h1, fun h => absurd h h2⟩ hx
theorem IsD.fst {S0 S : Sta} {D : List Cg} (h : IsD S0 S D) {x : NR} {n m : Int} (h1 : (x, n) ∈ D) (h2 : (x, m) ∈ D) : n = m := by
 rcases (h.mem _ _).1 h1 with ⟨e1, a1, b1⟩ | ⟨e1, a1, b1⟩ <;> rcases (h.mem _ _).1 h2 with ⟨e2, a2, b2⟩ | ⟨e2, a2, b2⟩
 ·rw [e1, e2]
 ·exact absurd a2 b1
 ·exact absurd a1 b2
 ·rw [e1, e2]
theorem IsD.uniq {S0 S : Sta} {D D2 : List Cg} (h : IsD S0 S D) (h2 : IsD S0 S D2) : D = D2 := by
 have hk : (D.map fun d => d.1) = D2.map fun d => d.1 := Qf1 (P := fun _ => True) Lin.nr h.rise h2.rise (fun _ _ => trivial) fun x => (h.key x).trans (h2.key x).symm
 refine List.ext_getElem? fun i => ?_
 have hi := congrArg (fun l => l[i]?) hk
 simp only [List.getElem?_map] at hi
 cases e1 : D[i]? with
 | none =>
  rw [e1] at hi
  cases e2 : D2[i]? with
  | none => rfl
  | some b => rw [e2] at hi; cases hi
 | some a =>
  rw [e1] at hi
  cases e2 : D2[i]? with
  | none => rw [e2] at hi; cases hi
  | some b =>
   rw [e2] at hi
   simp only [Option.map_some, Option.some.injEq] at hi
   obtain ⟨x, n⟩ := a
   obtain ⟨y, m⟩ := b
   dsimp only at hi; subst hi
   have m1 := (h.mem _ _).1 (List.mem_of_getElem? e1)
   have m2 := (h2.mem x m).1 (List.mem_of_getElem? e2)
   have := h.fst ((h.mem _ _).2 m1) ((h.mem x m).2 m2)
   rw [this]
end
section
open Go Go.Proofs
theorem Qgj {C : Ctx} {A : Heap} {l : List V} {t : Sl} {H : Heap} {K : Sl → Heap → Prop} (hv : VRow A t l) (hle : A.le H) (hz : vsizes l ≤ 1000000) (k : ∀ t2 H2, Made H H2 l t2 → K t2 H2) : Qar C t K H := by
 have main : ∀ v : V, ∀ (A : Heap) (t : Sl) (H : Heap) (K : Sl → Heap → Prop), VRow A t v.l → A.le H → vsizes v.l ≤ 1000000 → (∀ t2 H2, Made H H2 v.l t2 → K t2 H2) → Qar C t K H := by
  refine fun v => V.rec_ (P := fun v => ∀ (A : Heap) (t : Sl) (H : Heap) (K : Sl → Heap → Prop), VRow A t v.l → A.le H → vsizes v.l ≤ 1000000 → (∀ t2 H2, Made H H2 v.l t2 → K t2 H2) → Qar C t K H) (fun v ih => ?_) v
  intro A t H K hv hle hz k
  apply QgR
  unfold Qfm
  have hl := hv.len
  have hll := QeF v.l
  refine ift.of (fun h => ?_) (fun h => ?_)
  ·simp only [beq_iff_eq] at h
   have : v.l = [] := List.length_eq_zero_iff.1 (by omega)
   refine k _ _ ?_
   rw [this]; exact Made.nil rfl
  ·simp only [beq_eq_false_iff_ne] at h
   obtain ⟨xs, r1, r2, r3⟩ := hv
   refine QiF (Qdl hle r1) r2 (by omega) (by omega) fun b sp cap B hB nb hcap => ?_
   rw [hl] at hcap ⊢
   refine ⟨fun x D => ∃ (i : Nat) (ys : List TV) (E : Heap), x = (i : Int) ∧ i ≤ v.l.length ∧ D = E.put b (.row (ys.flatMap Qa.c ++ sp)) ∧ Ow A H E b i v.l xs ys, fun x _ => v.l.length - x.toNat,
    ⟨0, xs, B, rfl, Nat.zero_le _, rfl, hB, hle.trans hB, nb, by omega, by omega, r3, fun _ _ => rfl, fun j v x hj => by omega⟩, ?_⟩
   rintro _ D ⟨i, ys, E, rfl, hi, rfl, ho⟩
   have hlen : (Sl.of (some (b, 0)) v.l.length cap).len = v.l.length := rfl
   refine ift.of (fun h => ?_) (fun h => ?_)
   ·have hlt : i < v.l.length := by have := of_decide_eq_true h; omega
    have hi2 : i < ys.length := by rw [ho.len]; exact hlt
    have hyx := ho.rest i (Nat.le_refl _)
    rw [List.getElem?_eq_getElem hi2] at hyx
    have hold := Qc8.1 (ho.old.get i _ _ (List.getElem?_eq_getElem hlt) hyx.symm)
    have hmem := List.getElem_mem hlt
    have hsz := Qer hmem
    have hszl : vsize v.l[i] = vsizes v.l[i].l + 1 := by cases v.l[i]; rfl
    have e0 : 0 + ((i : Int).toNat) * 4 + 3 = i * 4 + 3 := by omega
    have hf := flat4 ys
    refine ⟨(b, 0), rfl, rfl, by omega, by rw [hlen]; omega, ?_⟩
    refine ⟨ys[i].L, ?_, ?_⟩
    ·show rd _ (b, 0 + ((i : Int).toNat) * 4 + 3) = _
     rw [e0, Qjt, List.getElem?_append_left (by omega)]
     exact Qdw Qa.c 4 TV.c_len ys i _ (List.getElem?_eq_getElem hi2) 3 _ rfl
    ·refine ih _ hmem A _ _ _ hold.2.2.2 (ho.ale.trans (Heap.le_put ho.nb)) (by omega) fun t2 H2 hm => ?_
     obtain ⟨s1, s2⟩ := ho.step hlt hi2 hm
     refine ⟨(b, 0), rfl, rfl, by omega, by rw [hlen]; omega, ?_⟩
     refine ⟨_, hm.le _ _ (Heap.put_same ..), ?_, ?_⟩
     ·show 0 + ((i : Int).toNat) * 4 + 3 < _
      rw [e0, List.length_append, hf]; omega
     ·show _ ∧ _
      have e1 : (b, 0 + ((i : Int).toNat) * 4 + 3).2 = i * 4 + 3 := e0
      rw [QcG (by omega) (by omega)]
      refine ⟨⟨i + 1, _, _, by omega, by omega, ?_, s1⟩, by first | omega | (dsimp only; omega)⟩
      rw [← s2, ← QjI ys i hi2]
      show H2.put b (.row ((List.flatMap Qa.c ys ++ sp).set (0 + ((i : Int).toNat) * 4 + 3) (slv t2))) = _
      rw [e0]
   ·have hie : i = v.l.length := by have := of_decide_eq_false h; omega
    refine k _ _ ?_
    have := ho.fin (sp := sp) (cap := cap) hie (ho.le.none ho.nb) (by omega) (by omega)
    rw [hie] at this
    exact this
 exact main (.mk 0 0 [] l) A t H K hv hle hz k
end
section
open Go Go.Proofs
def showK (vs : List V) : Str := vs.flatMap fun v => showV v ++ [59]
theorem QhB (vs : List V) (v : V) : showK (vs ++ [v]) = showK vs ++ (showV v ++ [59]) := by simp [showK]
theorem Qhl {v : V} {vs : List V} : showK (v :: vs) ≠ [] := fun e => by
 have := congrArg List.length e
 simp [showK] at this
theorem QgC : ∀ {vs ws : List V}, (∀ v ∈ vs, mayV v = true) → (∀ v ∈ ws, mayV v = true) → showK vs = showK ws → vs = ws
 | [], [], _, _, _ => rfl
 | [], w :: ws, _, _, h => absurd h.symm Qhl
 | v :: vs, [], _, _, h => absurd h Qhl
 | v :: vs, w :: ws, h1, h2, h => by
  have e : ∀ (v : V) (vs : List V), showK (v :: vs) = showV v ++ (59 :: showK vs) := fun v vs => by simp [showK]
  rw [e, e] at h
  have m1 := h1 v (List.mem_cons_self ..)
  have m2 := h2 w (List.mem_cons_self ..)
  obtain ⟨e1, e2⟩ := Qi0 v w _ _ (Qcx m1) (Qcx m2) (.inr ⟨59, _, rfl, by simp⟩) (.inr ⟨59, _, rfl, by simp⟩) h
  injection e2 with _ e2
  rw [e1, QgC (fun x hx => h1 x (List.mem_cons_of_mem _ hx)) (fun x hx => h2 x (List.mem_cons_of_mem _ hx)) e2]
theorem Qh3 {r : List V} (h : mayR r = true) : ∀ v ∈ r, mayV v = true := fun v hv => List.all_eq_true.1 h v hv
/-- a row that is handed in -/
structure okR (r : List V) : Prop where
 b : VBs r
 z : vsizes r ≤ 1000
theorem okR.len {r : List V} (h : okR r) : r.length ≤ 1000 := by have := QeF r; have := h.z; omega
/-- a row that is there -/
structure inR (r : List V) : Prop extends okR r where
 m : mayR r = true
theorem inR.inj {r q : List V} (h : inR r) (h2 : inR q) (e : showK r = showK q) : r = q := QgC (Qh3 h.m) (Qh3 h2.m) e
theorem QiZ {v : V} {row : List V} (hv : v ∈ row) (hB : VB v) (hm : mayV v = true) (hs : vsizes row ≤ 1000) : (showV v).length ≤ 17000000 := by
 have hsz := Qer hv
 obtain ⟨_, q2, q3⟩ := (Qhe v).1 hm
 have := Qio v hB q2 q3
 have h2 : 17000 * vsize v ≤ 17000 * 1000 := Nat.mul_le_mul_left _ (by omega)
 omega
section
variable {C : Ctx} {H A : Heap}
theorem QhZ (hF : FmtC C) {row : List V} {s : Sl} {K : Str → Bool → Heap → Prop} (hr : VRow A s row) (hA : A.le H) (hk : okR row)
 (k1 : mayR row = true → ∀ H2, H.le H2 → K (showK row) true H2) (k0 : mayR row = false → ∀ H2, H.le H2 → K [] false H2) : Qcw C s K H := by
 have hB := hk.b
 have hs := hk.z
 have hlen := hk.len
 apply QgQ
 unfold Qfl
 refine ⟨fun y D => H.le D ∧ ∃ i : Nat, y = (showK (row.take i), (i : Int)) ∧ i ≤ row.length ∧ (row.take i).all mayV = true ∧ (showK (row.take i)).length ≤ i * 17000001, fun y _ => row.length - y.2.toNat, ⟨Heap.le.refl _, 0, rfl, Nat.zero_le _, rfl, by simp [showK]⟩, ?_⟩
 rintro _ D ⟨hD, i, rfl, hi, hmay, hll⟩
 have hAD := hA.trans hD
 rw [hr.len]
 refine ift.of (fun h => ?_) (fun h => ?_)
 ·have hlt : i < row.length := by have := of_decide_eq_true h; dsimp only at this; omega
  have hmem := List.getElem_mem hlt
  have hBi := hB.mem hmem
  refine hr.ld hAD rfl hlt fun z hz => ?_
  intro b6 n6
  refine nwT rfl ?_
  have hle6 := Heap.le_put n6 (g := .row (Qa.c z)) (m := true)
  have hb6 : (D.put b6 (.row (Qa.c z))) b6 = some (true, .row (Qa.c z)) := Heap.put_same ..
  have hz6 := hz.le (hAD.trans hle6)
  have hD6 := hD.trans hle6
  generalize D.put b6 (.row (Qa.c z)) = H3 at *
  refine bxV hb6 (Qcr hz6 hBi ?_)
  have hck : ((checkV row[i] : Int) != 0) = !(mayV row[i]) := by unfold mayV; rfl
  rw [hck]
  refine ift.of (fun h2 => ?_) (fun h2 => ?_)
  ·have h2 : mayV row[i] = false := by simpa using h2
   refine k0 ?_ H3 hD6
   unfold mayR
   rw [List.all_eq_false]
   exact ⟨row[i], hmem, by simp [h2]⟩
  ·have hmv : mayV row[i] = true := by simpa using h2
   have hb := QiZ hmem hBi hmv hs
   have hi2 : i * 17000001 ≤ 1000 * 17000001 := Nat.mul_le_mul_right _ (by omega)
   refine bxV hb6 (Qjk hF hz6 hBi (fun _ => by omega) fun H2 l2 => ?_)
   rw [if_pos hmv]
   refine ⟨by unfold catOk; simp; omega, by unfold catOk; rw [List.length_append]; simp; omega, ?_⟩
   rw [QcG (by dsimp only; omega) (by dsimp only; omega)]
   have ht : showK (row.take (i + 1)) = showK (row.take i) ++ (showV row[i] ++ [59]) := by
    rw [List.take_add_one, List.getElem?_eq_getElem hlt, Option.toList_some, QhB]
   refine ⟨⟨hD6.trans l2, i + 1, by rw [ht]; rfl, by omega, ?_, ?_⟩, by first | omega | (dsimp only; omega)⟩
   ·rw [List.take_add_one, List.getElem?_eq_getElem hlt, List.all_append, hmay]
    simp [hmv]
   ·rw [ht, List.length_append, List.length_append]
    simp only [List.length_singleton]
    omega
 ·have hie : i = row.length := by have := of_decide_eq_false h; dsimp only at this; omega
  subst hie
  rw [List.take_length] at hmay ⊢
  exact k1 hmay D hD
end
end
section
open Go Go.Proofs
/-- whose a block is -/
inductive Uw where
 | log : Uw
 | done : Uw
 | rels : Uw
 | leaf : Str → Uw
abbrev Own_ := Nat → Option Uw
def mapP : Uw → Prop
 | .rels => True
 | .leaf _ => True
 | _ => False
theorem Qh1 {α : Type} {l : List (Str × α)} (h : l.Pairwise fun p q => p.1 ≠ q.1) {p : Str × α} : p ∈ l ↔ lkL p.1 l = some p.2 :=
 ⟨fun hp => QaS h hp, fun hp => QaI hp⟩
def FineS (S : Sta) : Prop := ∀ x, S x → inR x.2
/-- what has changed: blocks of some owners, and new ones -/
structure Chg (P : Uw → Prop) (o : Own_) (H : Heap) (o2 : Own_) (H2 : Heap) : Prop where
 kp : ∀ c e, H c = some e → (∀ w, o c = some w → ¬ P w) → H2 c = some e
 up : ∀ c w, o c = some w → o2 c = some w
 dn : ∀ c w, o2 c = some w → o c = some w ∨ (H c = none ∧ P w ∧ H2 c ≠ none)
 li : ∀ c, H c ≠ none → H2 c ≠ none
section
variable {P : Uw → Prop} {o o2 o3 : Own_} {A H H2 H3 : Heap}
theorem Chg.of_le (h : H.le H2) : Chg P o H o H2 := ⟨fun c e hc _ => h c e hc, fun _ _ h => h, fun _ _ h => .inl h, fun c hc => by
 cases he : H c with
 | none => exact absurd he hc
 | some e => rw [h c e he]; simp⟩
theorem Chg.trans (h : Chg P o H o2 H2) (h' : Chg P o2 H2 o3 H3) : Chg P o H o3 H3 := by
 refine ⟨fun c e hc hn => h'.kp c e (h.kp c e hc hn) fun w hw => ?_, fun c w hw => h'.up c w (h.up c w hw), fun c w hw => ?_, fun c hc => h'.li c (h.li c hc)⟩
 ·rcases h.dn c w hw with h1 | ⟨h1, h2⟩
  ·exact hn w h1
  ·rw [h1] at hc; cases hc
 ·rcases h'.dn c w hw with h1 | ⟨h1, h2⟩
  ·exact (h.dn c w h1).imp id fun ⟨a, b, d⟩ => ⟨a, b, h'.li c d⟩
  ·refine .inr ⟨?_, h2⟩
   cases he : H c with
   | none => rfl
   | some e => exact absurd h1 (h.li c (by rw [he]; simp))
theorem Chg.imp {Q : Uw → Prop} (h : Chg P o H o2 H2) (hi : ∀ w, P w → Q w) : Chg Q o H o2 H2 :=
 ⟨fun c e hc hn => h.kp c e hc fun w hw hp => hn w hw (hi w hp), h.up, fun c w hw => (h.dn c w hw).imp id fun ⟨a, b, d⟩ => ⟨a, hi w b, d⟩, h.li⟩
/-- a block of an owner written -/
theorem Chg.put {c : Nat} {w : Uw} {g : GO} (ho : o c = some w) (hP : P w) : Chg P o H o (H.put c g) := by
 refine ⟨fun x e hx hn => ?_, fun _ _ h => h, fun _ _ h => .inl h, fun x hx => ?_⟩
 ·have : x ≠ c := fun e' => by subst e'; exact hn w ho hP
  rw [Heap.put_ne _ _ _ this]; exact hx
 ·by_cases hxc : x = c
  ·subst hxc; rw [Heap.put_same]; simp
  ·rw [Heap.put_ne _ _ _ hxc]; exact hx
def Own_.set (o : Own_) (b : Nat) (w : Uw) : Own_ := fun c => if c = b then some w else o c
theorem Own_.set_same {b : Nat} {w : Uw} : o.set b w b = some w := by simp [Own_.set]
theorem Own_.set_ne {b c : Nat} {w : Uw} (h : c ≠ b) : o.set b w c = o c := by simp [Own_.set, h]
/-- a new block of an owner -/
theorem Chg.new {b : Nat} {w : Uw} {g : GO} {m : Bool} (hb : H b = none) (ho : ∀ w, o b = some w → False) (hP : P w) : Chg P o H (o.set b w) (H.put b g m) := by
 refine ⟨fun x e hx hn => Heap.le_put hb x e hx, fun c w' hc => ?_, fun c w' hc => ?_, fun x hx => ?_⟩
 ·have : c ≠ b := fun e => by subst e; exact ho w' hc
  rw [Own_.set_ne this]; exact hc
 ·by_cases hcb : c = b
  ·subst hcb; rw [Own_.set_same] at hc; injection hc with hc; subst hc
   exact .inr ⟨hb, hP, by rw [Heap.put_same]; simp⟩
  ·rw [Own_.set_ne hcb] at hc; exact .inl hc
 ·have : x ≠ b := fun e => by subst e; exact hx hb
  rw [Heap.put_ne _ _ _ this]; exact hx
/-- owners and rows' memory -/
structure OH (o : Own_) (A H : Heap) : Prop where
 le : A.le H
 ap : ∀ c w, o c = some w → A c = none
 oh : ∀ c w, o c = some w → H c ≠ none
theorem OH.no (h : OH o A H) {b : Nat} (hb : H b = none) : ∀ w, o b = some w → False := fun w hw => h.oh b w hw hb
theorem OH.chg (h : OH o A H) (hc : Chg P o H o2 H2) : OH o2 A H2 := by
 refine ⟨fun c e hc2 => hc.kp c e (h.le c e hc2) (fun w hw _ => by rw [h.ap c w hw] at hc2; cases hc2), fun c w hw => ?_, fun c w hw => ?_⟩
 ·rcases hc.dn c w hw with h1 | ⟨h1, _⟩
  ·exact h.ap c w h1
  ·exact h.le.none h1
 ·rcases hc.dn c w hw with h1 | ⟨_, _, h1⟩
  ·exact hc.li c (h.oh c w h1)
  ·exact h1
end
/-- a map of rows by their texts -/
def RM (A H : Heap) (m : Nat) (R : List V → Prop) (N : Nat) : Prop := ∃ l : List (Str × Sl), MapS sv slv H m l ∧ (∀ p ∈ l, ∃ r, R r ∧ p.1 = showK r ∧ VRow A p.2 r) ∧ (∀ r, R r → ∃ s, (showK r, s) ∈ l) ∧ l.length ≤ N
section
variable {A B H H2 : Heap} {m N M : Nat} {R R2 : List V → Prop}
theorem RM.same (h : RM A H m R N) (hb : H2 m = H m) : RM A H2 m R N := by
 obtain ⟨l, h1, h2, h3⟩ := h
 exact ⟨l, h1.same hb, h2, h3⟩
theorem RM.up (h : RM A H m R N) (hle : A.le B) : RM B H m R N := by
 obtain ⟨l, h1, h2, h3⟩ := h
 exact ⟨l, h1, fun p hp => (h2 p hp).imp fun r ⟨q1, q2, q3⟩ => ⟨q1, q2, q3.le hle⟩, h3⟩
theorem RM.more (h : RM A H m R N) (hle : N ≤ M) : RM A H m R M := by
 obtain ⟨l, h1, h2, h3, h4⟩ := h
 exact ⟨l, h1, h2, h3, by omega⟩
theorem RM.congr (h : RM A H m R N) (he : ∀ r, R r ↔ R2 r) : RM A H m R2 N := by
 have : R = R2 := funext fun r => propext (he r)
 rw [← this]; exact h
theorem RM.isS (h : RM A H m R N) : ∃ g, H m = some (true, g) := by
 obtain ⟨l, ⟨es, ck, h1⟩, _⟩ := h
 exact ⟨_, h1.at_⟩
theorem RM.new {b : Nat} (h : ∀ r, ¬ R r) : RM A (H.put b (.obj (.map #[] 0))) b R N := ⟨[], MapS.new, (fun p hp => by cases hp), (fun r hr => absurd hr (h r)), Nat.zero_le _⟩
theorem RM.put {r : List V} {s : Sl} {K : Heap → Prop} (h : RM A H m R N) (hs : VRow A s r) (k : ∀ g, RM A (H.put m g) m (fun r' => R r' ∨ r' = r) (N + 1) → K (H.put m g)) : upS sv slv (some m) (showK r) s K H := by
 obtain ⟨l, h1, h2, h3, h4⟩ := h
 refine ⟨m, l, rfl, h1, fun g l2 q1 q2 q3 => k g ⟨l2, q1, fun p hp => ?_, fun r' hr' => ?_, ?_⟩⟩
 ·have hl := (Qh1 q1.is.nd).1 hp
  rw [q2] at hl
  split at hl
  ·rename_i he
   injection hl with hl
   exact ⟨r, .inr rfl, he, hl ▸ hs⟩
  ·obtain ⟨r', a, b⟩ := h2 p (QaI hl)
   exact ⟨r', .inl a, b⟩
 ·by_cases he : showK r' = showK r
  ·exact ⟨s, QaI (by rw [q2, if_pos he])⟩
  ·have hr : R r' := hr'.resolve_right fun e => he (by rw [e])
   obtain ⟨s', hs'⟩ := h3 r' hr
   exact ⟨s', QaI (by rw [q2, if_neg he]; exact QaS h1.is.nd hs')⟩
 ·rw [q3]; split <;> omega
theorem RM.del {r : List V} {K : Heap → Prop} (h : RM A H m R N) (hF : ∀ r, R r → inR r) (hr : inR r) (k : ∀ g, RM A (H.put m g) m (fun r' => R r' ∧ r' ≠ r) N → K (H.put m g)) : delS sv slv (some m) (showK r) K H := by
 obtain ⟨l, h1, h2, h3, h4⟩ := h
 refine .inr ⟨m, l, rfl, h1, fun g l2 q1 q2 => k g ⟨l2, q1, fun p hp => ?_, fun r' hr' => ?_, ?_⟩⟩
 ·obtain ⟨a, b⟩ := (q2 p).1 hp
  obtain ⟨r', c, d, e⟩ := h2 p a
  exact ⟨r', ⟨c, fun e' => b (by rw [d, e'])⟩, d, e⟩
 ·obtain ⟨s, hs⟩ := h3 r' hr'.1
  exact ⟨s, (q2 _).2 ⟨hs, fun e => hr'.2 ((hF r' hr'.1).inj hr e)⟩⟩
 ·have := Qgs (f := fun p : Str × Sl => p.1) q1.is.nd fun p hp => ((q2 p).1 hp).1
  omega
theorem RM.ln {K : Nat → Prop} (h : RM A H m R N) (k0 : (∀ r, ¬ R r) → K 0) (k1 : ∀ n, n ≠ 0 → n ≤ N → (∃ r, R r) → K n) : lnM (some m) K H := by
 obtain ⟨l, h1, h2, h3, h4⟩ := h
 refine h1.is.ln ?_
 cases l with
 | nil => exact k0 fun r hr => by obtain ⟨s, hs⟩ := h3 r hr; cases hs
 | cons p l =>
  obtain ⟨r, hr, _⟩ := h2 p (List.mem_cons_self ..)
  exact k1 _ (by simp) h4 ⟨r, hr⟩
/-- a leaf that was looked up -/
def LfIs (A H : Heap) (x : Option Nat) (R : List V → Prop) : Prop := (x = none ∧ ∀ r, ¬ R r) ∨ ∃ e N, x = some e ∧ RM A H e R N
theorem LfIs.look {x : Option Nat} {r : List V} {K : Sl → Bool → Prop} (h : LfIs A H x R) (hF : ∀ r, R r → inR r) (hr : inR r) (k1 : R r → ∀ s, VRow A s r → K s true) (k0 : ¬ R r → K Sl.nil false) : lkM sv slv Sl.nil x (showK r) K H := by
 rcases h with ⟨rfl, hn⟩ | ⟨e, N, rfl, l, h1, h2, h3, h4⟩
 ·exact ⟨Sl.nil, false, .inl ⟨rfl, rfl, rfl⟩, k0 (hn r)⟩
 ·refine h1.is.lk (fun x hx => ?_) (fun hx => k0 fun hr' => ?_)
  ·obtain ⟨r', a, b, c⟩ := h2 _ (QaI hx)
   have := (hF r' a).inj hr b.symm
   subst this
   exact k1 a x c
  ·obtain ⟨s, hs⟩ := h3 r hr'
   rw [QaS h1.is.nd hs] at hx; cases hx
theorem LfIs.any {x : Option Nat} {k : Str} {K : Sl → Bool → Prop} (h : LfIs A H x R) (kk : ∀ s b, K s b) : lkM sv slv Sl.nil x k K H := by
 rcases h with ⟨rfl, hn⟩ | ⟨e, N, rfl, l, h1, h2, h3, h4⟩
 ·exact ⟨Sl.nil, false, .inl ⟨rfl, rfl, rfl⟩, kk _ _⟩
 ·exact h1.is.lk (fun x hx => kk _ _) fun hx => kk _ _
end
/-- the map of all leaves; X: these may be empty -/
structure RelsL (o : Own_) (A H : Heap) (m : Nat) (S : Sta) (N : Nat) (L : List (Str × Option Nat)) (X : Str → Prop) : Prop where
 om : o m = some .rels
 ms : MapS sv mv H m L
 lf : ∀ p ∈ L, ∃ e, p.2 = some e ∧ o e = some (.leaf p.1) ∧ RM A H e (fun r => S (p.1, r)) N ∧ (¬ X p.1 → ∃ r, S (p.1, r))
 al : ∀ n r, S (n, r) → ∃ e, (n, e) ∈ L
 ln : L.length ≤ N
section
variable {o o2 : Own_} {A B H H2 : Heap} {m N M b : Nat} {S : Sta} {L : List (Str × Option Nat)} {X Y : Str → Prop} {n : Str} {r : List V}
theorem RelsL.keep (h : RelsL o A H m S N L X) (hk : ∀ c w, o c = some w → mapP w → o2 c = some w ∧ H2 c = H c) : RelsL o2 A H2 m S N L X := by
 obtain ⟨k1, k2⟩ := hk m _ h.om trivial
 refine ⟨k1, h.ms.same k2, fun p hp => ?_, h.al, h.ln⟩
 obtain ⟨e, q1, q2, q3, q4⟩ := h.lf p hp
 obtain ⟨k1, k2⟩ := hk e _ q2 trivial
 exact ⟨e, q1, k1, q3.same k2, q4⟩
theorem RelsL.up (h : RelsL o A H m S N L X) (hle : A.le B) : RelsL o B H m S N L X := by
 refine ⟨h.om, h.ms, fun p hp => ?_, h.al, h.ln⟩
 obtain ⟨e, q1, q2, q3, q4⟩ := h.lf p hp
 exact ⟨e, q1, q2, q3.up hle, q4⟩
theorem RelsL.more (h : RelsL o A H m S N L X) (hle : N ≤ M) : RelsL o A H m S M L X := by
 refine ⟨h.om, h.ms, fun p hp => ?_, h.al, by have := h.ln; omega⟩
 obtain ⟨e, q1, q2, q3, q4⟩ := h.lf p hp
 exact ⟨e, q1, q2, q3.more hle, q4⟩
theorem RelsL.ne (h : RelsL o A H m S N L X) {p : Str × Option Nat} {e : Nat} (hp : p ∈ L) (he : p.2 = some e) : e ≠ m ∧ (∃ g, H e = some (true, g)) ∧ o e = some (.leaf p.1) := by
 obtain ⟨e', q1, q2, q3, _⟩ := h.lf p hp
 rw [he] at q1; injection q1 with q1; subst q1
 exact ⟨(fun e' => by subst e'; rw [h.om] at q2; cases q2), q3.isS, q2⟩
theorem RelsL.mine (h : RelsL o A H m S N L X) : ∃ g, H m = some (true, g) := by
 obtain ⟨es, ck, h1⟩ := h.ms
 exact ⟨_, h1.at_⟩
theorem RelsL.look {K : Option Nat → Bool → Prop} (h : RelsL o A H m S N L X) (k : ∀ x is, LfIs A H x (fun r => S (n, r)) → K x is) : lkM sv mv none (some m) n K H := by
 refine h.ms.is.lk (fun x hx => ?_) fun hx => ?_
 ·obtain ⟨e, q1, _, q3, _⟩ := h.lf _ (QaI hx)
  dsimp only at q1 q3
  exact k _ _ (.inr ⟨e, N, q1, q3⟩)
 ·refine k _ _ (.inl ⟨rfl, fun r hr => ?_⟩)
  obtain ⟨e, he⟩ := h.al n r hr
  rw [QaS h.ms.is.nd he] at hx; cases hx
/-- a new leaf -/
theorem RelsL.leaf {K : Heap → Prop} (h : RelsL o A H m S N L X) (hO : OH o A H) (hl : lkL n L = none)
 (kk : ∀ b2 o2 H2 L2, Chg mapP o H o2 H2 → RelsL o2 A H2 m S (N + 1) L2 (fun n' => n' = n ∨ X n') → (n, some b2) ∈ L2 → K H2) : mkM (fun b2 H3 => upS sv mv (some m) n (some b2) K H3) H := by
 intro b2 n2
 obtain ⟨gq, hq⟩ := h.mine
 have hle := Heap.le_put n2 (g := .obj (.map #[] 0)) (m := true)
 have hqb : m ≠ b2 := fun e => by subst e; rw [n2] at hq; cases hq
 refine ⟨m, L, rfl, h.ms.le hle, fun g l2 q1 q2 q3 => kk b2 (o.set b2 (.leaf n)) _ l2 ((Chg.new (P := mapP) (w := .leaf n) n2 (hO.no n2) trivial).trans (Chg.put (P := mapP) (w := .rels) (by rw [Own_.set_ne hqb]; exact h.om) trivial)) ⟨by rw [Own_.set_ne hqb]; exact h.om, q1, fun p hp => ?_, fun n' r hr => ?_, ?_⟩ (QaI (by rw [q2, if_pos rfl]))⟩
 ·have hl2 := (Qh1 q1.is.nd).1 hp
  rw [q2] at hl2
  split at hl2
  ·rename_i he
   injection hl2 with hl2
   refine ⟨b2, hl2.symm, by rw [Own_.set_same, he], ?_, fun hx => absurd (.inl he) hx⟩
   refine (RM.new (A := A) (H := H) (b := b2) (N := N + 1) fun r hr => ?_).same (by rw [Heap.put_ne _ _ _ hqb.symm])
   obtain ⟨e, hm⟩ := h.al _ _ hr
   rw [he] at hm
   rw [QaS h.ms.is.nd hm] at hl; cases hl
  ·have hpL := QaI hl2
   obtain ⟨e, r1, r2, r3, r4⟩ := h.lf _ hpL
   obtain ⟨s1, ⟨g', s2⟩, s3⟩ := h.ne hpL r1
   have hb2 : e ≠ b2 := fun e' => by subst e'; rw [n2] at s2; cases s2
   exact ⟨e, r1, by rw [Own_.set_ne hb2]; exact r2, (r3.same (by rw [Heap.put_ne _ _ _ s1, Heap.put_ne _ _ _ hb2])).more (Nat.le_succ _), fun hx => r4 fun hx2 => hx (.inr hx2)⟩
 ·obtain ⟨e, he⟩ := h.al n' r hr
  by_cases hk : n' = n
  ·exact ⟨some b2, QaI (by rw [q2, if_pos hk])⟩
  ·exact ⟨e, QaI (by rw [q2, if_neg hk]; exact QaS h.ms.is.nd he)⟩
 ·have := h.ln
  rw [q3]; split <;> omega
/-- the leaf of a name -/
theorem RelsL.one (h : RelsL o A H m S N L X) {e e2 : Nat} {p : Str × Option Nat} (hm : (n, some e) ∈ L) (hp : p ∈ L) (he : p.2 = some e2) : (p.1 = n → e2 = e) ∧ (p.1 ≠ n → e2 ≠ e) := by
 refine ⟨fun e1 => ?_, fun e1 e3 => ?_⟩
 ·have : p = (n, some e2) := by rw [← e1, ← he]
  rw [this] at hp
  have h5 := QaS h.ms.is.nd hp
  rw [QaS h.ms.is.nd hm] at h5
  injection h5 with h5; injection h5 with h5; exact h5.symm
 ·subst e3
  have q1 := (h.ne hm rfl).2.2
  have q2 := (h.ne hp he).2.2
  rw [q1] at q2; injection q2 with q2; injection q2 with q2
  exact e1 q2.symm
/-- a row put to a leaf -/
theorem RelsL.put {e : Nat} {s : Sl} {K : Heap → Prop} (h : RelsL o A H m S N L (fun n' => n' = n)) (hm : (n, some e) ∈ L) (hs : VRow A s r)
 (kk : ∀ g, Chg mapP o H o (H.put e g) → RelsL o A (H.put e g) m (putS S (n, r)) (N + 1) L (fun _ => False) → K (H.put e g)) : upS sv slv (some e) (showK r) s K H := by
 obtain ⟨e', r1, r2, r3, _⟩ := h.lf _ hm
 injection r1 with r1; subst r1
 obtain ⟨s1, _, _⟩ := h.ne hm rfl
 refine r3.put hs fun g hR => kk g (Chg.put r2 trivial) ⟨h.om, h.ms.same (by rw [Heap.put_ne _ _ _ s1.symm]), fun p hp => ?_, fun n' r' hr' => ?_, by have := h.ln; omega⟩
 ·obtain ⟨e2, t1, t2, t3, t4⟩ := h.lf p hp
  obtain ⟨o1, o2⟩ := h.one hm hp t1
  refine ⟨e2, t1, t2, ?_, fun _ => ?_⟩
  ·by_cases hpk : p.1 = n
   ·rw [o1 hpk]
    refine hR.congr fun r' => ?_
    unfold putS
    rw [hpk]
    exact ⟨fun h => h.imp id fun e => by rw [e], fun h => h.imp id fun e => (Prod.ext_iff.1 e).2⟩
   ·refine ((t3.same (Heap.put_ne _ _ _ (o2 hpk))).more (Nat.le_succ _)).congr fun r' => ?_
    exact ⟨.inl, fun h => h.resolve_right fun e => hpk (Prod.ext_iff.1 e).1⟩
  ·by_cases hpk : p.1 = n
   ·exact ⟨r, .inr (by rw [hpk])⟩
   ·obtain ⟨r', hr'⟩ := t4 hpk
    exact ⟨r', .inl hr'⟩
 ·rcases hr' with hr' | hr'
  ·exact h.al n' r' hr'
  ·rw [show n' = n from (Prod.ext_iff.1 hr').1]; exact ⟨_, hm⟩
/-- a row taken from a leaf -/
theorem RelsL.del {e : Nat} {K : Heap → Prop} (h : RelsL o A H m S N L (fun _ => False)) (hF : FineS S) (hr : inR r) (hm : (n, some e) ∈ L)
 (kk : ∀ g, Chg mapP o H o (H.put e g) → RelsL o A (H.put e g) m (Qew S (n, r)) N L (fun n' => n' = n) → RM A (H.put e g) e (fun r' => Qew S (n, r) (n, r')) N → K (H.put e g)) : delS sv slv (some e) (showK r) K H := by
 obtain ⟨e', r1, r2, r3, _⟩ := h.lf _ hm
 injection r1 with r1; subst r1
 obtain ⟨s1, _, _⟩ := h.ne hm rfl
 have key : ∀ (n' : Str) r', (S (n', r') ∧ (n' = n → r' ≠ r)) ↔ Qew S (n, r) (n', r') := fun n' r' => by
  unfold Qew
  exact ⟨fun h => ⟨h.1, fun e => h.2 (Prod.ext_iff.1 e).1 (Prod.ext_iff.1 e).2⟩, fun h => ⟨h.1, fun e1 e2 => h.2 (by rw [e1, e2])⟩⟩
 refine r3.del (fun r' h' => hF _ h') hr fun g hR => ?_
 have hR2 : RM A (H.put e g) e (fun r' => Qew S (n, r) (n, r')) N := hR.congr fun r' => by
  rw [← key]
  exact ⟨fun h => ⟨h.1, fun _ => h.2⟩, fun h => ⟨h.1, h.2 rfl⟩⟩
 refine kk g (Chg.put r2 trivial) ⟨h.om, h.ms.same (by rw [Heap.put_ne _ _ _ s1.symm]), fun p hp => ?_, fun n' r' hr' => h.al n' r' hr'.1, h.ln⟩ hR2
 obtain ⟨e2, t1, t2, t3, t4⟩ := h.lf p hp
 obtain ⟨o1, o2⟩ := h.one hm hp t1
 refine ⟨e2, t1, t2, ?_, fun hpk => ?_⟩
 ·by_cases hpk : p.1 = n
  ·rw [o1 hpk, hpk]; exact hR2
  ·refine (t3.same (Heap.put_ne _ _ _ (o2 hpk))).congr fun r' => ?_
   rw [← key]
   exact ⟨fun h => ⟨h, fun e => absurd e hpk⟩, fun h => h.1⟩
 ·obtain ⟨r', hr'⟩ := t4 id
  exact ⟨r', (key _ _).1 ⟨hr', fun e => absurd e hpk⟩⟩
/-- an empty leaf goes -/
theorem RelsL.rem {K : Heap → Prop} (h : RelsL o A H m S N L (fun n' => n' = n)) (h0 : ∀ r, ¬ S (n, r))
 (kk : ∀ g L2, Chg mapP o H o (H.put m g) → RelsL o A (H.put m g) m S N L2 (fun _ => False) → K (H.put m g)) : delS sv mv (some m) n K H := by
 refine .inr ⟨m, L, rfl, h.ms, fun g l2 q1 q2 => kk g l2 (Chg.put h.om trivial) ⟨h.om, q1, fun p hp => ?_, fun n' r' hr' => ?_, ?_⟩⟩
 ·obtain ⟨a, b⟩ := (q2 p).1 hp
  obtain ⟨e2, t1, t2, t3, t4⟩ := h.lf p a
  obtain ⟨s1, _, _⟩ := h.ne a t1
  exact ⟨e2, t1, t2, t3.same (by rw [Heap.put_ne _ _ _ s1]), fun _ => t4 b⟩
 ·obtain ⟨e, he⟩ := h.al n' r' hr'
  exact ⟨e, (q2 _).2 ⟨he, fun e' => h0 r' (by rw [← e']; exact hr')⟩⟩
 ·have := Qgs (f := fun p : Str × Option Nat => p.1) q1.is.nd fun p hp => ((q2 p).1 hp).1
  have := h.ln
  omega
theorem RelsL.fine (h : RelsL o A H m S N L fun _ => False) (n : Str) : RelsL o A H m S N L fun n' => n' = n := ⟨h.om, h.ms, fun p hp => by
 obtain ⟨e, q1, q2, q3, q4⟩ := h.lf p hp
 exact ⟨e, q1, q2, q3, fun _ => q4 id⟩, h.al, h.ln⟩
end
end
section
open Go Go.Proofs
/-- a log's object and its maps -/
structure Lc (o : Own_) (A H : Heap) (x m : Nat) (s : Sl) (S : Sta) (N : Nat) : Prop where
 oh : OH o A H
 hx : H x = some (true, .row [mv (some m), slv s])
 ox : o x = some .log
 rl : ∃ L, RelsL o A H m S N L fun _ => False
section
variable {C : Ctx} {o o2 : Own_} {A B H H2 : Heap} {x m N M : Nat} {s : Sl} {S : Sta} {L : List (Str × Option Nat)} {X Y : Str → Prop} {n : Str} {r : List V}
theorem RelsL.imp (h : RelsL o A H m S N L X) (hi : ∀ n, X n → Y n) : RelsL o A H m S N L Y := ⟨h.om, h.ms, fun p hp => by
 obtain ⟨e, q1, q2, q3, q4⟩ := h.lf p hp
 exact ⟨e, q1, q2, q3, fun hy => q4 fun hx => hy (hi _ hx)⟩, h.al, h.ln⟩
theorem RelsL.full (h : RelsL o A H m S N L fun n' => n' = n) (hr : ∃ r, S (n, r)) : RelsL o A H m S N L fun _ => False := ⟨h.om, h.ms, fun p hp => by
 obtain ⟨e, q1, q2, q3, q4⟩ := h.lf p hp
 refine ⟨e, q1, q2, q3, fun _ => ?_⟩
 by_cases e : p.1 = n
 ·rw [e]; exact hr
 ·exact q4 e, h.al, h.ln⟩
theorem Lc.ld0 (h : Lc o A H x m s S N) {K : Option Nat → Prop} (k : K (some m)) : ldM H ((x, 0).1, (x, 0).2 + 0) K := ⟨some m, by rw [Qn h.hx]; rfl, k⟩
theorem Lc.ld1 (h : Lc o A H x m s S N) {K : Sl → Prop} (k : K s) : ldL H ((x, 0).1, (x, 0).2 + 1) K := ⟨s, by rw [Qn h.hx]; rfl, k⟩
theorem Lc.hxc (h : Lc o A H x m s S N) (hc : Chg mapP o H o2 H2) : H2 x = some (true, .row [mv (some m), slv s]) :=
 hc.kp _ _ h.hx fun w hw hp => by rw [h.ox] at hw; injection hw with hw; subst hw; exact hp
theorem Lc.chg (h : Lc o A H x m s S N) (hc : Chg mapP o H o2 H2) {S2 : Sta} (hr : ∃ L, RelsL o2 A H2 m S2 M L fun _ => False) : Lc o2 A H2 x m s S2 M :=
 ⟨h.oh.chg hc, h.hxc hc, hc.up _ _ h.ox, hr⟩
theorem Lc.keep (h : Lc o A H x m s S N) (hA : A.le H2) (hk : ∀ c w, o c = some w → H2 c = H c) : Lc o A H2 x m s S N := by
 obtain ⟨L, hr⟩ := h.rl
 exact ⟨⟨hA, h.oh.ap, fun c w hw => by rw [hk c w hw]; exact h.oh.oh c w hw⟩, by rw [hk _ _ h.ox]; exact h.hx, h.ox, L, hr.keep fun c w hw _ => ⟨hw, hk c w hw⟩⟩
theorem OH.eq_le (h : OH o A H) (hle : H.le H2) {c : Nat} {w : Uw} (hw : o c = some w) : H2 c = H c := by
 cases he : H c with
 | none => exact absurd he (h.oh c w hw)
 | some e => exact hle c e he
theorem Lc.up (h : Lc o A H x m s S N) (hle : H.le H2) : Lc o A H2 x m s S N := h.keep (h.oh.le.trans hle) fun c w hw => h.oh.eq_le hle hw
theorem Lc.grow (h : Lc o A H x m s S N) (hle : A.le B) (hB : B.le H) (hap : ∀ c w, o c = some w → B c = none) : Lc o B H x m s S N := by
 obtain ⟨L, hr⟩ := h.rl
 exact ⟨⟨hB, hap, h.oh.oh⟩, h.hx, h.ox, L, hr.up hle⟩
theorem Lc.more (h : Lc o A H x m s S N) (hle : N ≤ M) : Lc o A H x m s S M := by
 obtain ⟨L, hr⟩ := h.rl
 exact ⟨h.oh, h.hx, h.ox, L, hr.more hle⟩
theorem QjD {t : Sl} {K : Heap → Prop} (h : Lc o A H x m s S N) (hv : VRow A t r) (k : ∀ o2 H2, Chg mapP o H o2 H2 → Lc o2 A H2 x m s (putS S (n, r)) (N + 2) → K H2) : QbN C (some (x, 0)) n (showK r) t K H := by
 apply Qfv
 unfold QdN
 obtain ⟨L, hr⟩ := h.rl
 refine ⟨fun _ D => ∃ o2 L2 e, Chg mapP o H o2 D ∧ RelsL o2 A D m S (N + 1) L2 (fun n' => n' = n) ∧ (n, some e) ∈ L2, ?_, ?_⟩
 ·refine ⟨_, rfl, h.ld0 ?_⟩
  refine hr.ms.is.lk (fun y hy => ?_) fun hy => ?_
  ·have hm := QaI hy
   obtain ⟨e, q1, _, _⟩ := hr.lf _ hm
   dsimp only at q1; subst q1
   exact Qk rfl ⟨o, L, e, Chg.of_le (Heap.le.refl _), (hr.fine n).more (Nat.le_succ _), hm⟩
  ·refine Qm rfl ⟨_, rfl, h.ld0 ?_⟩
   exact hr.leaf h.oh hy fun b2 o2 H2 L2 q1 q2 q3 => ⟨o2, L2, b2, q1, q2.imp fun n' hn => hn.resolve_right id, q3⟩
 ·rintro _ D ⟨o2, L2, e, c4, R4, hm⟩
  refine ⟨_, rfl, ⟨some m, by rw [Qn (h.hxc c4)]; rfl, ?_⟩⟩
  refine R4.ms.is.lk (fun y hy => ?_) fun hy => ?_
  ·rw [QaS R4.ms.is.nd hm] at hy
   injection hy with hy; subst hy
   exact R4.put hm hv fun g q1 q2 => k o2 _ (c4.trans q1) (h.chg (c4.trans q1) ⟨L2, q2⟩)
  ·rw [QaS R4.ms.is.nd hm] at hy; cases hy
theorem Qjb {K : Heap → Prop} (h : Lc o A H x m s S N) (hF : FineS S) (hS : S (n, r)) (k : ∀ H2, Chg mapP o H o H2 → Lc o A H2 x m s (Qew S (n, r)) N → K H2) : Qbn C (some (x, 0)) n (showK r) K H := by
 apply QeX
 unfold Qdp
 obtain ⟨L, hr⟩ := h.rl
 have hin := hF _ hS
 obtain ⟨e', hm⟩ := hr.al n r hS
 obtain ⟨e, q1, _, _⟩ := hr.lf _ hm
 dsimp only at q1; subst q1
 refine ⟨_, rfl, h.ld0 ?_⟩
 refine hr.ms.is.lk (fun y hy => ?_) fun hy => ?_
 ·rw [QaS hr.ms.is.nd hm] at hy
  injection hy with hy; subst hy
  refine hr.del hF hin hm fun g c1 R1 M1 => ?_
  refine ⟨_, rfl, ⟨some m, by rw [Qn (h.hxc c1)]; rfl, ?_⟩⟩
  refine R1.ms.is.lk (fun y hy => ?_) fun hy => ?_
  ·rw [QaS R1.ms.is.nd hm] at hy
   injection hy with hy; subst hy
   refine M1.ln (fun h0 => ?_) fun j hj _ hex => ?_
   ·refine Qm rfl ⟨_, rfl, ⟨some m, by rw [Qn (h.hxc c1)]; rfl, ?_⟩⟩
    exact R1.rem h0 fun g2 L2 c2 R2 => k _ (c1.trans c2) (h.chg (c1.trans c2) ⟨L2, R2⟩)
   ·exact Qk (by simp; omega) (k _ c1 (h.chg c1 ⟨L, R1.full hex⟩))
  ·rw [QaS R1.ms.is.nd hm] at hy; cases hy
 ·rw [QaS hr.ms.is.nd hm] at hy; cases hy
end
/-- the function that undoes a thing, and what it holds -/
def UndoIs (A : Heap) (x : Nat) (t : Th) (f : Value) : Prop :=
 ∃ (b1 b3 b13 : Nat) (m1 m2 m3 : Bool) (y : Qd), A b1 = some (m1, .row [pv (some (x, 0))]) ∧ A b3 = some (m2, .row (Qd.c y)) ∧ y.Rel = t.2.1 ∧ A b13 = some (m3, .row [sv (showK t.2.2)]) ∧
  ((t.1 = true ∧ f = .func (.func 40) (List.toArray []) (List.toArray [pv (some (b1, 0)), pv (some (b3, 0)), pv (some (b13, 0))])) ∨
   (t.1 = false ∧ ∃ (b36 : Nat) (m4 : Bool) (u : Sl), A b36 = some (m4, .row [slv u]) ∧ VRow A u t.2.2 ∧ f = .func (.func 42) (List.toArray []) (List.toArray [pv (some (b1, 0)), pv (some (b3, 0)), pv (some (b13, 0)), pv (some (b36, 0))])))
/-- a thing in memory -/
structure ThIs (A : Heap) (x : Nat) (t : Th) (v : Qc) : Prop where
 rel : v.rel_ = t.2.1
 key : v.key_ = showK t.2.2
 row : VRow A v.row_ t.2.2
 inn : inR t.2.2
 und : UndoIs A x t v.undo_
section
variable {C : Ctx} {o o2 : Own_} {A B H H2 : Heap} {x m N : Nat} {s : Sl} {S S2 : Sta} {t : Th} {f : Value} {v : Qc}
theorem UndoIs.le (h : UndoIs A x t f) (hle : A.le B) : UndoIs B x t f := by
 obtain ⟨b1, b3, b13, m1, m2, m3, y, h1, h2, h3, h4, h5⟩ := h
 refine ⟨b1, b3, b13, m1, m2, m3, y, hle _ _ h1, hle _ _ h2, h3, hle _ _ h4, h5.imp id fun ⟨q1, b36, m4, u, q2, q3, q4⟩ => ⟨q1, b36, m4, u, hle _ _ q2, q3.le hle, q4⟩⟩
theorem ThIs.le (h : ThIs A x t v) (hle : A.le B) : ThIs B x t v := ⟨h.rel, h.key, h.row.le hle, h.inn, h.und.le hle⟩
theorem ThIs.cell (h : ThIs A x t v) : List.all (Qc.c v) Value.oneCell' = true := by
 obtain ⟨b1, b3, b13, m1, m2, m3, y, h1, h2, h3, h4, h5⟩ := h.und
 rcases h5 with ⟨_, hf⟩ | ⟨_, _, _, _, _, _, hf⟩ <;> simp [Qc.c, hf] <;> exact ⟨rfl, rfl, rfl, rfl⟩
/-- a thing is undone -/
theorem Qis {Φ : Value → Heap → Prop} (h : Lc o A H x m s S2 N) (hF : FineS S2) (ht : UndoIs A x t f) (hst : stepS t S S2) (k : ∀ o2 H2, Chg mapP o H o2 H2 → Lc o2 A H2 x m s S (N + 2) → Φ (.tuple #[]) H2) : callU Tryz.prog C f [] H Φ := by
 obtain ⟨b1, b3, b13, m1, m2, m3, y, h1, h2, h3, h4, h5⟩ := ht
 obtain ⟨b, n, r⟩ := t
 have g1 := h.oh.le _ _ h1
 have g2 := h.oh.le _ _ h2
 have g4 := h.oh.le _ _ h4
 rcases h5 with ⟨rfl, rfl⟩ | ⟨rfl, b36, m4, u, q2, q3, rfl⟩
 ·obtain ⟨hn, hS⟩ := Qg1.1 hst
  refine ⟨40, [], _, rfl, QeA, ?_⟩
  have : Qby C (b1, 0) (b3, 0) (b13, 0) (fun H2 => Φ (.tuple #[]) H2) H := by
   apply Qet
   unfold QcE
   refine ⟨_, by rw [Qn g1]; rfl, ⟨y.Rel, by rw [Qn g2]; rfl, ⟨_, by rw [Qn g4]; rfl, ?_⟩⟩⟩
   rw [h3]
   refine Qjb h hF (by rw [hS]; exact .inr rfl) fun H2 c1 l1 => ?_
   rw [hS, QiP hn] at l1
   exact k o H2 c1 (l1.more (by omega))
  unfold Qby at this
  exact this.mono fun v H' hv => by obtain ⟨hv, hk⟩ := hv; subst hv; exact hk
 ·obtain ⟨hn, hS⟩ := Qg0.1 hst
  refine ⟨42, [], _, rfl, Qez, ?_⟩
  have g36 := h.oh.le _ _ q2
  have : Qbx C (b1, 0) (b3, 0) (b13, 0) (b36, 0) (fun H2 => Φ (.tuple #[]) H2) H := by
   apply Qes
   unfold QcD
   refine ⟨_, by rw [Qn g1]; rfl, ⟨y.Rel, by rw [Qn g2]; rfl, ⟨_, by rw [Qn g4]; rfl, ⟨u, by rw [Qn g36]; rfl, ?_⟩⟩⟩⟩
   rw [h3]
   refine QjD h q3 fun o2 H2 c1 l1 => ?_
   rw [hS] at l1
   have := QiH hn
   rw [this] at l1
   exact k o2 H2 c1 l1
  unfold Qbx at this
  exact this.mono fun v H' hv => by obtain ⟨hv, hk⟩ := hv; subst hv; exact hk
end
end
section
open Go Go.Proofs
def Heap.or (A N : Heap) : Heap := fun c => match A c with | some e => some e | none => N c
section
variable {A N H : Heap}
theorem Heap.le_or : A.le (A.or N) := fun c e h => by unfold Heap.or; rw [h]
theorem Heap.or_le (h1 : A.le H) (h2 : N.le H) : (A.or N).le H := fun c e h => by
 unfold Heap.or at h
 cases ha : A c with
 | some e' => rw [ha] at h; injection h with h; subst h; exact h1 c _ ha
 | none => rw [ha] at h; exact h2 c e h
theorem Heap.or_some {c : Nat} (h : A.or N c ≠ none) : A c ≠ none ∨ N c ≠ none := by
 unfold Heap.or at h
 cases ha : A c with
 | some e' => exact .inl (by simp)
 | none => rw [ha] at h; exact .inr h
theorem Heap.or_none {c : Nat} (h1 : A c = none) (h2 : N c = none) : A.or N c = none := by unfold Heap.or; rw [h1]; exact h2
theorem Heap.le_or2 (h : ∀ c e, N c = some e → A c = none) : N.le (A.or N) := fun c e hc => by unfold Heap.or; rw [h c e hc]; exact hc
end
/-- what a log's method changes -/
structure Mv (o : Own_) (A H : Heap) (o2 : Own_) (A2 H2 : Heap) : Prop where
 c : Chg (fun _ => True) o H o2 H2
 a : A.le A2
 n : ∀ c, A2 c ≠ none → A c ≠ none ∨ H c = none
/-- a part of memory that the log's methods keep -/
structure Bs (o : Own_) (B H : Heap) : Prop where
 le : B.le H
 ap : ∀ c w, o c = some w → B c = none
/-- two logs apart -/
structure Dj (o : Own_) (A : Heap) (o' : Own_) (A' : Heap) : Prop where
 a : ∀ c w, o c = some w → o' c = none ∧ A' c = none
 b : ∀ c w, o' c = some w → A c = none
section
variable {o o2 o3 o' : Own_} {A A2 A3 A' B B2 H H2 H3 : Heap}
theorem Mv.of_le (h : H.le H2) : Mv o A H o A H2 := ⟨Chg.of_le h, Heap.le.refl _, fun c hc => .inl hc⟩
theorem Mv.trans (h : Mv o A H o2 A2 H2) (h' : Mv o2 A2 H2 o3 A3 H3) : Mv o A H o3 A3 H3 := ⟨h.c.trans h'.c, h.a.trans h'.a, fun c hc => by
 rcases h'.n c hc with h1 | h1
 ·exact h.n c h1
 ·refine .inr ?_
  cases he : H c with
  | none => rfl
  | some e => exact absurd h1 (h.c.li c (by rw [he]; simp))⟩
theorem Bs.mv (h : Bs o B H) (hm : Mv o A H o2 A2 H2) : Bs o2 B H2 := by
 refine ⟨fun c e hc => hm.c.kp c e (h.le c e hc) (fun w hw _ => by rw [h.ap c w hw] at hc; cases hc), fun c w hw => ?_⟩
 rcases hm.c.dn c w hw with h1 | ⟨h1, _⟩
 ·exact h.ap c w h1
 ·exact h.le.none h1
theorem Bs.up (h : Bs o B H) (hle : H.le H2) : Bs o B H2 := ⟨h.le.trans hle, h.ap⟩
/-- all that is not the log's -/
def Heap.wo_ (o : Own_) (H : Heap) : Heap := fun c => match o c with | none => H c | some _ => none
theorem Heap.wo_none {c : Nat} (h : o c = none) : Heap.wo_ o H c = H c := by unfold Heap.wo_; rw [h]
theorem Heap.wo_own {c : Nat} {w : Uw} (h : o c = some w) : Heap.wo_ o H c = none := by unfold Heap.wo_; rw [h]
theorem Heap.wo_le : (Heap.wo_ o H).le H := fun c e hc => by
 cases ho : o c with
 | none => rwa [Heap.wo_none ho] at hc
 | some w => rw [Heap.wo_own ho] at hc; cases hc
theorem Bs.wo : Bs o (Heap.wo_ o H) H := ⟨Heap.wo_le, fun c w hw => Heap.wo_own hw⟩
theorem Dj.symm (h : Dj o A o' A') : Dj o' A' o A := by
 refine ⟨fun c w hw => ⟨?_, h.b c w hw⟩, fun c w hw => (h.a c w hw).2⟩
 cases he : o c with
 | none => rfl
 | some w' => rw [(h.a c w' he).1] at hw; cases hw
end
theorem QiD {H : Heap} {zc : List Value} {bytes : Nat} {s : Sl} {cs ys : List Value} {m : Nat} {K : Sl → Heap → Prop} (ho : Own H zc.length s cs) (hy : ys.length = m * zc.length)
 (hb : (s.len + m) * bytes ≤ 140737488355328) (h63 : s.len + m ≤ 9223372036854775807) (k : ∀ r H2, Own H2 zc.length r (cs ++ ys) → r.len = s.len + m → (r.p = s.p ∨ ∀ q, r.p = some q → H q.1 = none) → (∀ c, (∀ q, r.p = some q → c ≠ q.1) → H2 c = H c) → K r H2) : apd zc bytes s ys m K H := by
 have ho' := ho
 obtain ⟨hl, hx, hc, hcase⟩ := ho
 refine ⟨cs, ho'.rdsl, hl, hy, hb, h63, fun hfit => ?_, fun hgrow b cap hnone hcap => ?_⟩
 ·rcases hcase with ⟨hp, h0⟩ | ⟨b, sp, hp, hbk, hcl⟩
  ·left
   have hm : m = 0 := by omega
   subst hm
   have hy0 : ys = [] := List.length_eq_zero_iff.1 (by simpa using hy)
   subst hy0
   refine ⟨rfl, k _ _ ⟨?_, hx, hfit, .inl ⟨hp, h0⟩⟩ rfl (.inl rfl) fun _ _ => rfl⟩
   simpa using hl
  ·right
   have hle2 : (s.len + m) * zc.length ≤ s.cap * zc.length := Nat.mul_le_mul_right _ hfit
   rw [Nat.add_mul] at hle2
   refine ⟨_, _, hp, hx, hbk, ?_, k _ _ ⟨?_, hx, hfit, .inr ⟨b, sp.drop ys.length, hp, ?_, ?_⟩⟩ rfl (.inl rfl) fun c hc => Heap.put_ne _ _ _ (hc _ hp)⟩
   ·simp only [Nat.zero_add]; rw [hy]; omega
   ·simp only [List.length_append, hl, hy, Nat.add_mul]
   ·rw [Heap.put_same]
    simp only [Nat.zero_add, splice, ← hl]
    rw [List.take_append_of_le_length (Nat.le_refl _), List.take_length, List.drop_append, List.drop_eq_nil_of_le (by omega)]
    simp
   ·simp only [List.length_append, List.length_drop] at hcl ⊢
    omega
 ·refine k _ _ ⟨by simp only [List.length_append, hl, hy, Nat.add_mul], rfl, hcap, .inr ⟨b, zeros zc (cap - (s.len + m)), rfl, by rw [Heap.put_same], ?_⟩⟩ rfl (.inr fun q hq => by injection hq with hq; subst hq; exact hnone) fun c hc => Heap.put_ne _ _ _ (hc _ rfl)
  simp only [List.length_append, QaM, hl, hy]
  rw [← Nat.add_mul, ← Nat.add_mul]
  exact Nat.mul_le_mul_right _ (by omega)
/-- things done, in memory -/
structure Dn (o : Own_) (A H : Heap) (x : Nat) (s : Sl) (T : List Th) : Prop where
 ex : ∃ xs : List Qc, Own H 4 s (xs.flatMap Qc.c) ∧ xs.length = T.length ∧ ∀ (i : Nat) (t : Th) (v : Qc), T[i]? = some t → xs[i]? = some v → ThIs A x t v
 ow : ∀ q, s.p = some q → o q.1 = some .done
/-- a log in memory: what was there at each mark -/
structure LG (o : Own_) (A H : Heap) (x : Nat) (a : Nat → Sta) (n N : Nat) : Prop where
 ex : ∃ m s T, Lc o A H x m s (a n) N ∧ Dn o A H x s T ∧ T.length = n ∧ ∀ (i : Nat) (t : Th), T[i]? = some t → stepS t (a i) (a (i + 1))
 f : ∀ i, i ≤ n → FineS (a i)
 nm : ∀ i, i ≤ n → ∀ y, a i y → y.1.length ≤ 1000000
/-- one mark more -/
def ext (a : Nat → Sta) (n : Nat) (S : Sta) : Nat → Sta := fun i => if i ≤ n then a i else S
theorem Qd9 {a : Nat → Sta} {n i : Nat} {S : Sta} (h : i ≤ n) : ext a n S i = a i := by unfold ext; rw [if_pos h]
theorem Qd8 {a : Nat → Sta} {n : Nat} {S : Sta} : ext a n S (n + 1) = S := by unfold ext; rw [if_neg (by omega)]
theorem Qiq (v : Qc) : (Qc.c v).length = 4 := rfl
theorem QcW (l : List Qc) : (l.flatMap Qc.c).length = l.length * 4 := by
 induction l with
 | nil => rfl
 | cons a l ih => rw [List.flatMap_cons, List.length_append, ih, Qiq, List.length_cons, Nat.add_mul]; omega
section
variable {C : Ctx} {o o2 : Own_} {A B H H2 : Heap} {x m n N M : Nat} {s : Sl} {S S2 : Sta} {T : List Th} {t : Th} {v : Qc} {a : Nat → Sta}
theorem Dn.keep (h : Dn o A H x s T) (hk : ∀ c, o c = some .done → o2 c = some .done ∧ H2 c = H c) : Dn o2 A H2 x s T := by
 obtain ⟨⟨xs, ⟨q1, q2, q3, q4⟩, h2, h3⟩, ho⟩ := h
 refine ⟨⟨xs, ⟨q1, q2, q3, q4.imp id fun ⟨b, sp, p1, p2, p3⟩ => ⟨b, sp, p1, ?_, p3⟩⟩, h2, h3⟩, fun q hq => (hk _ (ho q hq)).1⟩
 rw [(hk b (ho _ p1)).2]; exact p2
theorem Dn.grow (h : Dn o A H x s T) (hle : A.le B) : Dn o B H x s T := by
 obtain ⟨⟨xs, h1, h2, h3⟩, ho⟩ := h
 exact ⟨⟨xs, h1, h2, fun i t v ht hv => (h3 i t v ht hv).le hle⟩, ho⟩
theorem Dn.chg (h : Dn o A H x s T) (hO : OH o A H) (hc : Chg mapP o H o2 H2) : Dn o2 A H2 x s T := h.keep fun c hw => ⟨hc.up _ _ hw, by
 cases he : H c with
 | none => exact absurd he (hO.oh c _ hw)
 | some e => exact hc.kp c e he fun w hw' hp => by rw [hw] at hw'; injection hw' with hw'; subst hw'; exact hp⟩
theorem LG.oh (h : LG o A H x a n N) : OH o A H := by obtain ⟨⟨m, s, T, h1, _⟩, _⟩ := h; exact h1.oh
theorem LG.up (h : LG o A H x a n N) (hle : H.le H2) : LG o A H2 x a n N := by
 obtain ⟨⟨m, s, T, h1, h2, h3⟩, h4, h5⟩ := h
 exact ⟨⟨m, s, T, h1.up hle, h2.keep fun c hw => ⟨hw, h1.oh.eq_le hle hw⟩, h3⟩, h4, h5⟩
theorem LG.more (h : LG o A H x a n N) (hle : N ≤ M) : LG o A H x a n M := by
 obtain ⟨⟨m, s, T, h1, h2, h3⟩, h4, h5⟩ := h
 exact ⟨⟨m, s, T, h1.more hle, h2, h3⟩, h4, h5⟩
/-- the owner of a slice's block -/
def Own_.dn (o : Own_) (r : Sl) : Own_ := match r.p with
 | some q => o.set q.1 .done
 | none => o
theorem Own_.dn_eq {r : Sl} {q : Nat × Nat} (h : r.p = some q) : o.dn r = o.set q.1 .done := by unfold Own_.dn; rw [h]
theorem Own_.dn_none {r : Sl} (h : r.p = none) : o.dn r = o := by unfold Own_.dn; rw [h]
/-- a thing is put behind those that were done -/
theorem Qic {K : Heap → Prop} (h : Lc o A H x m s S N) (hD : Dn o A H x s T) (hn : T.length ≤ 1000000) (ht : ThIs A x t v)
 (k : ∀ o3 H3 r, Mv o A H o3 A H3 → Lc o3 A H3 x m r S N → Dn o3 A H3 x r (T ++ [t]) → K H3) :
 nw (Qc.c v ++ []) (fun b60 H61 => Heap.le (H.off s) H61 ∧ apS (Qc.c Qc.zero) 64 s (Sl.of (some (b60, 0)) 1 1) (fun r63 H64 => Heap.le (H.off s) H64 ∧ nck (some (x, 0)) fun p65 => st (p65.1, p65.2 + 1) (slv r63) (fun H67 => K H67) H64) H61) H := by
 intro b nb
 have hle := Heap.le_put nb (g := .row (Qc.c v ++ [])) (m := true)
 refine ⟨(Heap.off_le _ _).trans hle, Qc.c v, ?_, fun u hu => List.all_eq_true.1 ht.cell u hu, ?_⟩
 ·refine .inr ⟨rfl, (b, 0), rfl, Qcq (Heap.put_same ..) fun j w hj => ?_⟩
  rw [Nat.zero_add, List.append_nil]; exact hj
 have hOH := h.oh
 have hL := h.up hle
 have hD2 := hD.keep (o2 := o) (H2 := H.put b (.row (Qc.c v ++ []))) fun c hw => ⟨hw, hOH.eq_le hle hw⟩
 generalize H.put b (.row (Qc.c v ++ [])) = H1 at *
 obtain ⟨⟨xs, hO, hxl, hall⟩, how⟩ := hD2
 have hsl : s.len = xs.length := by have h1 := hO.1; rw [QcW] at h1; omega
 refine QiD (zc := Qc.c Qc.zero) hO rfl (by simp only [Sl.of]; omega) (by simp only [Sl.of]; omega) fun r H4 q1 q2 q3 q4 => ?_
 -- the slice's block
 have hrp : ∀ q, r.p = some q → o q.1 = some .done ∨ H1 q.1 = none := fun q hq => by
  rcases q3 with e | e
  ·exact .inl (how q (by rw [← e]; exact hq))
  ·exact .inr (e q hq)
 have hrx : ∀ q, r.p = some q → x ≠ q.1 := fun q hq e => by
  rcases hrp q hq with h1 | h1
  ·rw [← e, h.ox] at h1; cases h1
  ·rw [← e, hL.hx] at h1; cases h1
 have hx4 : H4 x = some (true, .row [mv (some m), slv s]) := (q4 x hrx).trans hL.hx
 refine ⟨fun c e hc => ?_, _, rfl, _, hx4, by simp, ?_⟩
 ·have hc2 := hle _ _ (Heap.off_le _ _ _ _ hc)
  refine (q4 c fun q hq e' => ?_).trans hc2
  rcases q3 with e1 | e1
  ·unfold Heap.off at hc
   rw [if_pos (by rw [← e1, hq, e']; rfl)] at hc; cases hc
  ·rw [e', e1 q hq] at hc2; cases hc2
 show K (H4.put x (.row [mv (some m), slv r]))
 have hkeep : ∀ c, (∀ q, r.p = some q → c ≠ q.1) → c ≠ x → (H4.put x (.row [mv (some m), slv r])) c = H1 c := fun c hc hcx => by
  rw [Heap.put_ne _ _ _ hcx]; exact q4 c hc
 have hli : ∀ c, H1 c ≠ none → (H4.put x (.row [mv (some m), slv r])) c ≠ none := fun c hc => by
  by_cases hcx : c = x
  ·rw [hcx, Heap.put_same]; simp
  ·rw [Heap.put_ne _ _ _ hcx]
   by_cases hr : ∃ q, r.p = some q ∧ c = q.1
   ·obtain ⟨q, hq, e⟩ := hr
    obtain ⟨g, hg⟩ := q1.mine hq
    rw [e, hg]; simp
   ·rw [q4 c fun q hq e => hr ⟨q, hq, e⟩]; exact hc
 have hdn : ∀ c w, o c = some w → (o.dn r) c = some w := fun c w hw => by
  cases hr : r.p with
  | none => rw [Own_.dn_none hr]; exact hw
  | some q =>
   rw [Own_.dn_eq hr]
   by_cases e : c = q.1
   ·rw [e, Own_.set_same]
    rcases hrp q hr with h1 | h1
    ·rw [e, h1] at hw; exact hw
    ·rw [e] at hw; exact absurd h1 (hL.oh.oh _ _ hw)
   ·rw [Own_.set_ne e]; exact hw
 have hup : ∀ c w, (o.dn r) c = some w → o c = some w ∨ (H1 c = none ∧ ∃ q, r.p = some q ∧ q.1 = c) := fun c w hw => by
  cases hr : r.p with
  | none => rw [Own_.dn_none hr] at hw; exact .inl hw
  | some q =>
   rw [Own_.dn_eq hr] at hw
   by_cases e : c = q.1
   ·rw [e, Own_.set_same] at hw
    rcases hrp q hr with h1 | h1
    ·rw [e]; exact .inl (h1.trans hw)
    ·exact .inr ⟨by rw [e]; exact h1, q, rfl, e.symm⟩
   ·rw [Own_.set_ne e] at hw; exact .inl hw
 have hlive : ∀ q, r.p = some q → (H4.put x (.row [mv (some m), slv r])) q.1 ≠ none := fun q hq => by
  obtain ⟨g, hg⟩ := q1.mine hq
  rw [Heap.put_ne _ _ _ (hrx q hq).symm, hg]; simp
 -- a block that is neither the slice's nor the log's
 have hne : ∀ c e, H1 c = some e → o c ≠ some .done → ∀ q, r.p = some q → c ≠ q.1 := fun c e hc ho q hq e' => by
  rcases hrp q hq with h1 | h1
  ·exact ho (by rw [e']; exact h1)
  ·rw [← e', hc] at h1; cases h1
 have hmap : ∀ c w, o c = some w → mapP w → (H4.put x (.row [mv (some m), slv r])) c = H1 c := fun c w hw hp => by
  cases hc : H1 c with
  | none => exact absurd hc (hL.oh.oh c w hw)
  | some e =>
   rw [hkeep c (hne c e hc fun e' => by rw [hw] at e'; injection e' with e'; subst e'; exact hp) (fun e' => by rw [e', h.ox] at hw; injection hw with hw; subst hw; exact hp), hc]
 have hA : A.le (H4.put x (.row [mv (some m), slv r])) := fun c e hc => by
  have ho : o c = none := by
   cases ho : o c with
   | none => rfl
   | some w => rw [hOH.ap c w ho] at hc; cases hc
  have hc1 := hL.oh.le _ _ hc
  rw [hkeep c (hne c e hc1 (by rw [ho]; simp)) (fun e' => by rw [e', h.ox] at ho; cases ho), hc1]
 have hmv : Mv o A H1 (o.dn r) A (H4.put x (.row [mv (some m), slv r])) := by
  refine ⟨⟨fun c e hc hn => ?_, hdn, fun c w hw => ?_, hli⟩, Heap.le.refl _, fun c hc => .inl hc⟩
  ·have ho : o c = none := by
    cases ho : o c with
    | none => rfl
    | some w => exact absurd trivial (hn w ho)
   rw [hkeep c (hne c e hc (by rw [ho]; simp)) (fun e' => by rw [e', h.ox] at ho; cases ho), hc]
  ·rcases hup c w hw with h1 | ⟨h1, q, hq, rfl⟩
   ·exact .inl h1
   ·exact .inr ⟨h1, trivial, hlive q hq⟩
 obtain ⟨L, hr⟩ := hL.rl
 refine k _ _ r ((Mv.of_le hle).trans hmv) ⟨hL.oh.chg hmv.c, Heap.put_same .., hdn _ _ h.ox, L, hr.keep fun c w hw hp => ⟨hdn c w hw, hmap c w hw hp⟩⟩ ⟨⟨xs ++ [v], ?_, by simp [hxl], fun i t' v' hi hv' => ?_⟩, fun q hq => by rw [Own_.dn_eq hq, Own_.set_same]⟩
 ·rw [List.flatMap_append, List.flatMap_singleton]
  obtain ⟨w1, w2, w3, w4⟩ := q1
  refine ⟨w1, w2, w3, w4.imp id fun ⟨b', sp, p1, p2, p3⟩ => ⟨b', sp, p1, ?_, p3⟩⟩
  rw [Heap.put_ne _ _ _ (hrx _ p1).symm]; exact p2
 ·by_cases hlt : i < T.length
  ·rw [List.getElem?_append_left hlt] at hi
   rw [List.getElem?_append_left (by omega)] at hv'
   exact hall i t' v' hi hv'
  ·have hi2 : i = T.length := by
    have := (List.getElem?_eq_some_iff.1 hi).1
    simp at this; omega
   subst hi2
   rw [List.getElem?_append_right (by omega)] at hi
   rw [← hxl, List.getElem?_append_right (by omega)] at hv'
   simp at hi hv'
   subst hi; subst hv'
   exact ht
end
end
section
open Go Go.Proofs
section
variable {C : Ctx} {o o2 : Own_} {A B H H2 : Heap} {x m n N M : Nat} {s t : Sl} {S S2 : Sta} {T : List Th} {a : Nat → Sta} {r : List V} {nm : Str}
theorem nwS {b : Nat} {v v0 : Value} {K : Heap → Prop} (k : K (H.put b (.row [v]))) : st (b, 0) v K (H.put b (.row [v0])) :=
 ⟨_, Heap.put_same .., by simp, by rw [Heap.put_put]; exact k⟩
theorem Qgu (hO : OH o A H) (hle : H.le H2) : (A.or (Heap.new H H2)).le H2 ∧ (∀ c w, o c = some w → (A.or (Heap.new H H2)) c = none) ∧ (Heap.new H H2).le (A.or (Heap.new H H2)) ∧ ∀ c, (A.or (Heap.new H H2)) c ≠ none → A c ≠ none ∨ H c = none :=
 ⟨Heap.or_le (hO.le.trans hle) (Heap.new_le _ _), fun c w hw => Heap.or_none (hO.ap c w hw) (by
  cases hn : Heap.new H H2 c with
  | none => rfl
  | some e => exact absurd (Heap.new_inv hn).1 (hO.oh c w hw)), Heap.le_or2 fun c e hc => hO.le.none (Heap.new_inv hc).1, fun c hc => (Heap.or_some hc).imp id fun h => by
  cases hn : Heap.new H H2 c with
  | none => exact absurd hn h
  | some e => exact (Heap.new_inv hn).1⟩
theorem QgG {T : List Th} {t : Th} (hT : ∀ (i : Nat) (t : Th), T[i]? = some t → stepS t (a i) (a (i + 1))) (hn : T.length = n) (ht : stepS t (a n) S) : ∀ (i : Nat) (t' : Th), (T ++ [t])[i]? = some t' → stepS t' (ext a n S i) (ext a n S (i + 1)) := fun i t' hi => by
 by_cases hlt : i < T.length
 ·rw [List.getElem?_append_left hlt] at hi
  rw [Qd9 (by omega), Qd9 (by omega)]; exact hT i t' hi
 ·have hi2 : i = T.length := by
   have := (List.getElem?_eq_some_iff.1 hi).1
   simp at this; omega
  subst hi2
  rw [List.getElem?_append_right (by omega)] at hi
  simp at hi
  subst hi
  rw [hn, Qd9 (Nat.le_refl _), Qd8]; exact ht
theorem QhG {K : Int → Heap → Prop} (h : LG o A H x a n N) (k : K n H) : QE C (some (x, 0)) K H := by
 apply QcY
 unfold QbC
 obtain ⟨⟨m, s, T, h1, ⟨⟨xs, q1, q2, _⟩, _⟩, h3, _⟩, _⟩ := h
 refine Qk rfl ⟨_, rfl, h1.ld1 ?_⟩
 have hl := q1.1
 rw [QcW] at hl
 rw [show (s.len : Int) = n by omega]; exact k
theorem Qho {j : Int} {K : Int → Heap → Prop} (h : LG o A H x a n N) (k : K (if 0 ≤ j ∧ j ≤ n then 0 else 1) H) : Qam C (some (x, 0)) j K H := by
 apply Qcv
 unfold Qbm
 obtain ⟨⟨m, s, T, h1, ⟨⟨xs, q1, q2, _⟩, _⟩, h3, _⟩, _⟩ := h
 have hl := q1.1
 rw [QcW] at hl
 have hs : s.len = n := by omega
 refine Qk rfl (jn.inl ?_)
 refine ift.of (fun h => ?_) (fun h => ?_)
 ·have h := of_decide_eq_true h
  rw [if_neg (by omega)] at k
  exact Qm rfl k
 ·have h := of_decide_eq_false h
  refine ⟨_, rfl, h1.ld1 ?_⟩
  refine ift.of (fun h2 => ?_) (fun h2 => ?_)
  ·have h2 := of_decide_eq_true h2
   rw [if_neg (by omega)] at k; exact k
  ·have h2 := of_decide_eq_false h2
   rw [if_pos (by omega)] at k; exact k
theorem Qjz (hFm : FmtC C) {K : Bool → Heap → Prop} (h : LG o A H x a n N) (hb : Bs o B H) (hv : VRow B t r) (hr : okR r) (k : ∀ b H2, H.le H2 → (b = true ↔ a n (nm, r)) → K b H2) : Q6 C (some (x, 0)) ⟨nm, t⟩ K H := by
 apply Qdc
 unfold Qb1
 intro b1 n1
 have l1 := Heap.le_put n1 (g := .row (Qd.c (⟨nm, t⟩ : Qd))) (m := true)
 have c1 : (H.put b1 (.row (Qd.c (⟨nm, t⟩ : Qd)))) b1 = some (true, .row (Qd.c (⟨nm, t⟩ : Qd))) := Heap.put_same ..
 generalize H.put b1 (.row (Qd.c (⟨nm, t⟩ : Qd))) = E1 at *
 refine Qk rfl (fL c1 (t := t) rfl ?_)
 have hF := h.f n (Nat.le_refl _)
 refine QhZ hFm hv (hb.le.trans l1) hr (fun hm H8 h8 => ?_) fun hm H8 h8 => ?_
 ·have hL := h.up (l1.trans h8)
  obtain ⟨⟨m, s, T, p1, _⟩, _⟩ := hL
  obtain ⟨L, hR⟩ := p1.rl
  refine ⟨_, rfl, p1.ld0 ⟨nm, by rw [Qn (h8 _ _ c1)]; rfl, hR.look fun y is hl => ?_⟩⟩
  exact hl.look (fun r' hr' => hF _ hr') ⟨hr, hm⟩ (fun hS _ _ => k _ _ (l1.trans h8) ⟨fun _ => hS, fun _ => rfl⟩) fun hS => k _ _ (l1.trans h8) ⟨fun e => (by cases e), fun e => absurd e hS⟩
 ·have hL := h.up (l1.trans h8)
  obtain ⟨⟨m, s, T, p1, _⟩, _⟩ := hL
  obtain ⟨L, hR⟩ := p1.rl
  refine ⟨_, rfl, p1.ld0 ⟨nm, by rw [Qn (h8 _ _ c1)]; rfl, hR.look fun y is hl => hl.any fun s' b => ?_⟩⟩
  rw [Bool.false_and]
  exact k _ _ (l1.trans h8) ⟨fun e => (by cases e), fun e => by have := (hF _ e).m; dsimp only at this; rw [hm] at this; cases this⟩
theorem QhH (hFm : FmtC C) {K : Bool → Int → Heap → Prop} (h : LG o A H x a n N) (hn : n ≤ 1000000) (hb : Bs o B H) (hv : VRow B t r) (hr : okR r) (hnm : nm.length ≤ 1000000)
 (k0 : mayR r = false → ∀ H2, H.le H2 → K false 4 H2)
 (k1 : mayR r = true → a n (nm, r) → ∀ H2, H.le H2 → K false 0 H2)
 (k2 : mayR r = true → ¬ a n (nm, r) → ∀ o2 A2 H2, Mv o A H o2 A2 H2 → LG o2 A2 H2 x (ext a n (putS (a n) (nm, r))) (n + 1) (N + 2) → K true 0 H2) : Qx C (some (x, 0)) ⟨nm, t⟩ K H := by
 apply Qdd
 unfold Qb2
 intro b1 n1 b3 n3
 have l1 := Heap.le_put n1 (g := .row [pv (some (x, 0))]) (m := true)
 have l3 := Heap.le_put n3 (g := .row (Qd.c (⟨nm, t⟩ : Qd))) (m := true)
 have c1 := l3 _ _ (show (H.put b1 (.row [pv (some (x, 0))])) b1 = some (true, .row [pv (some (x, 0))]) from Heap.put_same ..)
 have c3 : ((H.put b1 (.row [pv (some (x, 0))])).put b3 (.row (Qd.c (⟨nm, t⟩ : Qd)))) b3 = some (true, .row (Qd.c (⟨nm, t⟩ : Qd))) := Heap.put_same ..
 have h3n : H b3 = none := l1.none n3
 have lE := l1.trans l3
 generalize (H.put b1 (.row [pv (some (x, 0))])).put b3 (.row (Qd.c (⟨nm, t⟩ : Qd))) = E at *
 refine ⟨_, by rw [Qn c1]; rfl, Qk rfl (fL c3 (t := t) rfl ?_)⟩
 have hF := h.f n (Nat.le_refl _)
 refine QhZ hFm hv (hb.le.trans lE) hr (fun hm E2 l4 => ?_) fun hm E2 l4 => ?_
 rotate_left
 ·intro b13 n13
  refine nwS (Qm rfl (k0 hm _ (lE.trans (l4.trans (Heap.le_put n13)))))
 intro b13 n13
 refine nwS (Qk rfl ?_)
 have l13 := Heap.le_put n13 (g := .row [sv (showK r)]) (m := true)
 have c13 : (E2.put b13 (.row [sv (showK r)])) b13 = some (true, .row [sv (showK r)]) := Heap.put_same ..
 have h13n : H b13 = none := lE.none (l4.none n13)
 have l5 := l4.trans l13
 generalize E2.put b13 (.row [sv (showK r)]) = E3 at *
 have d1 := l5 _ _ c1
 have d3 := l5 _ _ c3
 have lH := lE.trans l5
 have hL := h.up lH
 have hmt := h.f
 have hnms := h.nm
 obtain ⟨⟨m, s, T, p1, p2, p3, p4⟩, _, _⟩ := hL
 obtain ⟨L, hR⟩ := p1.rl
 refine ⟨_, by rw [Qn d1]; rfl, _, rfl, p1.ld0 ⟨nm, by rw [Qn d3]; rfl, hR.look fun y is hl => ⟨_, by rw [Qn c13]; rfl, ?_⟩⟩⟩
 refine hl.look (fun r' hr' => hF _ hr') ⟨hr, hm⟩ (fun hS s2 hs => Qm rfl (k1 hm hS _ lH)) fun hS => Qk rfl ?_
 refine fL d3 (t := t) rfl ?_
 refine Qgj hv (hb.le.trans lH) (by have := hr.z; omega) fun t2 E4 hM => ?_
 have l6 := lH.trans hM.le
 have hO := h.oh
 obtain ⟨w1, w2, w3, w4⟩ := Qgu hO l6
 have e1 := hM.le _ _ d1
 have e3 := hM.le _ _ d3
 have e13 := hM.le _ _ c13
 have n1' : H b1 = none := n1
 have a1 := w3 _ _ (Heap.new_some e1 n1)
 have a3 := w3 _ _ (Heap.new_some e3 h3n)
 have a13 := w3 _ _ (Heap.new_some e13 h13n)
 have hrow : VRow (A.or (Heap.new H E4)) t2 r := hM.row.le fun c e hc => by
  obtain ⟨q1, q2⟩ := Heap.new_inv hc
  exact w3 _ _ (Heap.new_some q2 (lH.none q1))
 have g1 := (p1.up hM.le).grow Heap.le_or w1 w2
 have g2 := (p2.keep (o2 := o) fun c hw => ⟨hw, p1.oh.eq_le hM.le hw⟩).grow (B := A.or (Heap.new H E4)) Heap.le_or
 have hAle : A.le (A.or (Heap.new H E4)) := Heap.le_or
 have hmv0 : Mv o A H o (A.or (Heap.new H E4)) E4 := ⟨Chg.of_le l6, hAle, w4⟩
 generalize A.or (Heap.new H E4) = A2 at *
 refine ⟨_, by rw [Qn e1]; rfl, ⟨nm, by rw [Qn e3]; rfl, ⟨_, by rw [Qn e13]; rfl, ?_⟩⟩⟩
 refine QjD (n := nm) g1 hrow fun o2 E5 c5 L5 => ?_
 have D5 := g2.chg g1.oh c5
 have hoff : ∀ {c : Nat} {e : Bool × GO}, A2 c = some e → (E5.off s) c = some e := fun {c e} hc => Heap.off_some (L5.oh.le _ _ hc) fun q hq e' => by
  have := L5.oh.ap _ _ (D5.ow q hq)
  rw [e', hc] at this; cases this
 have hx5 : (E5.off s) x = some (true, .row [mv (some m), slv s]) := Heap.off_some L5.hx fun q hq e' => by
  have := D5.ow q hq
  rw [e', L5.ox] at this; cases this
 refine ⟨E5.off s, Heap.off_le _ _, ⟨_, by rw [Qn (hoff a1)]; rfl, ⟨_, by rw [Qn (hoff a1)]; rfl, _, rfl, ⟨s, by rw [Qn hx5]; rfl, ⟨nm, by rw [Qn (hoff a3)]; rfl, ⟨_, by rw [Qn (hoff a13)]; rfl, ?_⟩⟩⟩⟩⟩⟩
 refine Qic (t := (true, nm, r)) L5 D5 (by omega) ⟨rfl, rfl, hrow, ⟨hr, hm⟩, b1, b3, b13, true, true, true, ⟨nm, t⟩, a1, a3, rfl, a13, .inl ⟨rfl, rfl⟩⟩ fun o3 E6 s3 m6 L6 D6 => ?_
 have hmv5 : Mv o A2 E4 o2 A2 E5 := ⟨c5.imp fun _ _ => trivial, Heap.le.refl _, fun c hc => .inl hc⟩
 refine k2 hm hS o3 A2 E6 (hmv0.trans (hmv5.trans m6)) ⟨⟨m, s3, T ++ [(true, nm, r)], by rw [Qd8]; exact L6, D6, by simp [p3], QgG p4 p3 (Qg1.2 ⟨hS, rfl⟩)⟩, fun i hi => ?_, fun i hi y hy => ?_⟩
 ·by_cases hin : i ≤ n
  ·rw [Qd9 hin]; exact hmt i hin
  ·have : i = n + 1 := by omega
   subst this
   rw [Qd8]
   intro y hy
   rcases hy with hy | hy
   ·exact hF y hy
   ·rw [hy]; exact ⟨hr, hm⟩
 ·by_cases hin : i ≤ n
  ·rw [Qd9 hin] at hy; exact hnms i hin y hy
  ·have : i = n + 1 := by omega
   subst this
   rw [Qd8] at hy
   rcases hy with hy | hy
   ·exact hnms n (Nat.le_refl _) y hy
   ·rw [hy]; exact hnm
theorem Qjy (hFm : FmtC C) {K : Bool → Int → Heap → Prop} (h : LG o A H x a n N) (hn : n ≤ 1000000) (hb : Bs o B H) (hv : VRow B t r) (hr : okR r)
 (k0 : mayR r = false → ∀ H2, H.le H2 → K false 4 H2)
 (k1 : mayR r = true → ¬ a n (nm, r) → ∀ H2, H.le H2 → K false 0 H2)
 (k2 : mayR r = true → a n (nm, r) → ∀ o2 A2 H2, Mv o A H o2 A2 H2 → LG o2 A2 H2 x (ext a n (Qew (a n) (nm, r))) (n + 1) (N + 2) → K true 0 H2) : Qaq C (some (x, 0)) ⟨nm, t⟩ K H := by
 apply Qdb
 unfold Qb0
 intro b1 n1 b3 n3
 have l1 := Heap.le_put n1 (g := .row [pv (some (x, 0))]) (m := true)
 have l3 := Heap.le_put n3 (g := .row (Qd.c (⟨nm, t⟩ : Qd))) (m := true)
 have c1 := l3 _ _ (show (H.put b1 (.row [pv (some (x, 0))])) b1 = some (true, .row [pv (some (x, 0))]) from Heap.put_same ..)
 have c3 : ((H.put b1 (.row [pv (some (x, 0))])).put b3 (.row (Qd.c (⟨nm, t⟩ : Qd)))) b3 = some (true, .row (Qd.c (⟨nm, t⟩ : Qd))) := Heap.put_same ..
 have h3n : H b3 = none := l1.none n3
 have lE := l1.trans l3
 generalize (H.put b1 (.row [pv (some (x, 0))])).put b3 (.row (Qd.c (⟨nm, t⟩ : Qd))) = E at *
 refine ⟨_, by rw [Qn c1]; rfl, Qk rfl (fL c3 (t := t) rfl ?_)⟩
 have hF := h.f n (Nat.le_refl _)
 refine QhZ hFm hv (hb.le.trans lE) hr (fun hm E2 l4 => ?_) fun hm E2 l4 => ?_
 rotate_left
 ·intro b13 n13
  refine nwS (Qm rfl (k0 hm _ (lE.trans (l4.trans (Heap.le_put n13)))))
 intro b13 n13
 refine nwS (Qk rfl ?_)
 have l13 := Heap.le_put n13 (g := .row [sv (showK r)]) (m := true)
 have c13 : (E2.put b13 (.row [sv (showK r)])) b13 = some (true, .row [sv (showK r)]) := Heap.put_same ..
 have h13n : H b13 = none := lE.none (l4.none n13)
 have l5 := l4.trans l13
 generalize E2.put b13 (.row [sv (showK r)]) = E3 at *
 have d1 := l5 _ _ c1
 have d3 := l5 _ _ c3
 have lH := lE.trans l5
 have hL := h.up lH
 have hmt := h.f
 have hnms := h.nm
 obtain ⟨⟨m, s, T, p1, p2, p3, p4⟩, _, _⟩ := hL
 obtain ⟨L, hR⟩ := p1.rl
 refine ⟨E3, Heap.le.refl _, _, by rw [Qn d1]; rfl, _, rfl, p1.ld0 ⟨nm, by rw [Qn d3]; rfl, hR.look fun y is hl => ⟨_, by rw [Qn c13]; rfl, ?_⟩⟩⟩
 refine hl.look (fun r' hr' => hF _ hr') ⟨hr, hm⟩ (fun hS s2 hs => ?_) fun hS => ?_
 rotate_left
 ·intro b36 n36
  have l36 := Heap.le_put n36 (g := .row [slv Sl.nil]) (m := true)
  exact ⟨l36, nwS ⟨Heap.le_put n36, Qm rfl (k1 hm hS _ (lH.trans (Heap.le_put n36)))⟩⟩
 intro b36 n36
 have l36 := Heap.le_put n36 (g := .row [slv Sl.nil]) (m := true)
 refine ⟨l36, nwS ⟨Heap.le_put n36, Qk rfl ?_⟩⟩
 have l37 := Heap.le_put n36 (g := .row [slv s2]) (m := true)
 have c36 : (E3.put b36 (.row [slv s2])) b36 = some (true, .row [slv s2]) := Heap.put_same ..
 have h36n : H b36 = none := lH.none n36
 generalize E3.put b36 (.row [slv s2]) = E4 at *
 have l6 := lH.trans l37
 have hO := h.oh
 obtain ⟨w1, w2, w3, w4⟩ := Qgu hO l6
 have e1 := l37 _ _ d1
 have e3 := l37 _ _ d3
 have e13 := l37 _ _ c13
 have a1 := w3 _ _ (Heap.new_some e1 n1)
 have a3 := w3 _ _ (Heap.new_some e3 h3n)
 have a13 := w3 _ _ (Heap.new_some e13 h13n)
 have a36 := w3 _ _ (Heap.new_some c36 h36n)
 have hrow : VRow (A.or (Heap.new H E4)) s2 r := hs.le Heap.le_or
 have g1 := (p1.up l37).grow Heap.le_or w1 w2
 have g2 := (p2.keep (o2 := o) fun c hw => ⟨hw, p1.oh.eq_le l37 hw⟩).grow (B := A.or (Heap.new H E4)) Heap.le_or
 have hAle : A.le (A.or (Heap.new H E4)) := Heap.le_or
 have hmv0 : Mv o A H o (A.or (Heap.new H E4)) E4 := ⟨Chg.of_le l6, hAle, w4⟩
 generalize A.or (Heap.new H E4) = A2 at *
 refine ⟨_, by rw [Qn e1]; rfl, ⟨nm, by rw [Qn e3]; rfl, ⟨_, by rw [Qn e13]; rfl, ?_⟩⟩⟩
 refine Qjb (n := nm) g1 hF hS fun E5 c5 L5 => ?_
 have D5 := g2.chg g1.oh c5
 have hoff : ∀ {c : Nat} {e : Bool × GO}, A2 c = some e → (E5.off s) c = some e := fun {c e} hc => Heap.off_some (L5.oh.le _ _ hc) fun q hq e' => by
  have := L5.oh.ap _ _ (D5.ow q hq)
  rw [e', hc] at this; cases this
 have hx5 : (E5.off s) x = some (true, .row [mv (some m), slv s]) := Heap.off_some L5.hx fun q hq e' => by
  have := D5.ow q hq
  rw [e', L5.ox] at this; cases this
 refine ⟨E5.off s, Heap.off_le _ _, ⟨_, by rw [Qn (hoff a1)]; rfl, ⟨_, by rw [Qn (hoff a1)]; rfl, _, rfl, ⟨s, by rw [Qn hx5]; rfl, ⟨nm, by rw [Qn (hoff a3)]; rfl, ⟨_, by rw [Qn (hoff a13)]; rfl, ⟨s2, by rw [Qn (hoff a36)]; rfl, ?_⟩⟩⟩⟩⟩⟩⟩
 refine Qic (t := (false, nm, r)) L5 D5 (by omega) ⟨rfl, rfl, hrow, ⟨hr, hm⟩, b1, b3, b13, true, true, true, ⟨nm, t⟩, a1, a3, rfl, a13, .inr ⟨rfl, b36, true, s2, a36, hrow, rfl⟩⟩ fun o3 E6 s3 m6 L6 D6 => ?_
 have hmv5 : Mv o A2 E4 o A2 E5 := ⟨c5.imp fun _ _ => trivial, Heap.le.refl _, fun c hc => .inl hc⟩
 refine k2 hm hS o3 A2 E6 (hmv0.trans (hmv5.trans m6)) ⟨⟨m, s3, T ++ [(false, nm, r)], by rw [Qd8]; exact L6.more (by omega), D6, by simp [p3], QgG p4 p3 (Qg0.2 ⟨hS, rfl⟩)⟩, fun i hi => ?_, fun i hi y hy => ?_⟩
 ·by_cases hin : i ≤ n
  ·rw [Qd9 hin]; exact hmt i hin
  ·have : i = n + 1 := by omega
   subst this
   rw [Qd8]
   exact fun y hy => hF y hy.1
 ·by_cases hin : i ≤ n
  ·rw [Qd9 hin] at hy; exact hnms i hin y hy
  ·have : i = n + 1 := by omega
   subst this
   rw [Qd8] at hy
   exact hnms n (Nat.le_refl _) y hy.1
theorem Qi5 {K : Option (Nat × Nat) → Heap → Prop} (k : ∀ x o H2, H.le H2 → (∀ c w, o c = some w → H c = none) → LG o (fun _ => none) H2 x (fun _ => noS) 0 0 → K (some (x, 0)) H2) : Qdv C K H := by
 apply QgP
 unfold Qfk
 intro m nm x nx
 have l1 := Heap.le_put nm (g := .obj (.map #[] 0)) (m := true)
 have l2 := Heap.le_put nx (g := .row (QV.c (⟨some m, Sl.nil⟩ : QV))) (m := true)
 have hxm : x ≠ m := fun e => by subst e; rw [Heap.put_same] at nx; cases nx
 refine k x (fun c => if c = m then some .rels else if c = x then some .log else none) _ (l1.trans l2) (fun c w hw => ?_) ⟨⟨m, Sl.nil, [], ⟨⟨fun c e hc => (by cases hc), fun c w hw => rfl, fun c w hw => ?_⟩, Heap.put_same .., by rw [if_neg hxm, if_pos rfl], [], ⟨by rw [if_pos rfl], ?_, fun p hp => (by cases hp), fun n r hr => hr.elim, Nat.le_refl _⟩⟩, ⟨⟨[], Own.nil _ 4, rfl, fun i t v hi => by simp at hi⟩, fun q hq => by cases hq⟩, rfl, fun i t hi => by simp at hi⟩, fun i hi y hy => hy.elim, fun i hi y hy => hy.elim⟩
 ·split at hw
  ·rename_i e; rw [e]; exact nm
  ·split at hw
   ·rename_i e; rw [e]; exact l1.none nx
   ·cases hw
 ·split at hw
  ·rename_i e; rw [e, Heap.put_ne _ _ _ hxm.symm, Heap.put_same]; simp
  ·split at hw
   ·rename_i e; rw [e, Heap.put_same]; simp
   ·cases hw
 ·exact (MapS.new (H := H) (b := m)).same (by rw [Heap.put_ne _ _ _ hxm.symm])
end
end
section
open Go Go.Proofs
/-- what is called behind keeps the world's blocks: it has grown -/
theorem QhS {w1 w' : World} {H' : Heap} (h : St (ctxOf w1) w' H') : ∃ q os', w' = Go.Sort.grow (w1.drewN q) os' := by
 have h1 : w'.os = w1.os := congrArg (fun q : Os × (Nat → Question → Nat) => q.1) h.os.1
 have h2 : w'.tape = w1.tape := congrArg (fun q : Os × (Nat → Question → Nat) => q.2) h.os.1
 have h3 : w1.drawn ≤ w'.drawn := h.os.2
 have h4 : w'.output = w1.output := h.out
 have h5 : w1.heap.size ≤ w'.heap.size := h.old_le
 have h6 : ∀ i, i < w1.heap.size → w'.heap[i]? = w1.heap[i]? := fun i hi => h.old i hi
 refine ⟨w'.drawn - w1.drawn, w'.heap.extract w1.heap.size w'.heap.size, ?_⟩
 have hh : w'.heap = w1.heap ++ w'.heap.extract w1.heap.size w'.heap.size := by
  apply Array.ext_getElem?
  intro i
  rw [Array.getElem?_append]
  split
  ·exact h6 i ‹_›
  ·rw [Array.getElem?_extract]
   have e : w1.heap.size + (i - w1.heap.size) = i := by omega
   rw [e]
   split
   ·rfl
   ·rw [Array.getElem?_eq_none (by omega)]
 have hd : w'.drawn = w1.drawn + (w'.drawn - w1.drawn) := by omega
 unfold Go.Sort.grow World.drewN
 generalize w'.drawn - w1.drawn = q at *
 generalize w'.heap.extract w1.heap.size w'.heap.size = es at *
 obtain ⟨a1, a2, a3, a4, a5⟩ := w'
 obtain ⟨b1, b2, b3, b4, b5⟩ := w1
 simp only at *
 subst h1; subst h2; subst h4; subst hd; subst hh
 rfl
theorem Qjg {A B : Heap} (h : ∀ p v, rd A p = some v → rd B p = some v) : ∀ {cs : List Value} {p : Nat × Nat}, rds A p cs → rds B p cs
 | [], _, _ => trivial
 | v :: r, p, ⟨h1, h2⟩ => ⟨h _ _ h1, Qjg h h2⟩
theorem Qii {A B : Heap} (h : ∀ p v, rd A p = some v → rd B p = some v) {s : Sl} {cs : List Value} (hr : rdsl A s cs) : rdsl B s cs := by
 rcases hr with hr | ⟨a, p, b, c⟩
 ·exact .inl hr
 ·exact .inr ⟨a, p, b, Qjg h c⟩
mutual
theorem VIs.to {A B : Heap} (h : ∀ p v, rd A p = some v → rd B p = some v) : ∀ {v : V} {x : TV}, VIs A v x → VIs B v x
 | .mk k n s l, x, ⟨h1, h2, h3, xs, h4, h5, h6⟩ => ⟨h1, h2, h3, xs, Qii h h4, h5, VsAre.to h h6⟩
theorem VsAre.to {A B : Heap} (h : ∀ p v, rd A p = some v → rd B p = some v) : ∀ {l : List V} {xs : List TV}, VsAre A l xs → VsAre B l xs
 | [], [], _ => trivial
 | v :: l, x :: xs, ⟨h1, h2⟩ => ⟨VIs.to h h1, VsAre.to h h2⟩
end
theorem VRow.to {A B : Heap} (h : ∀ p v, rd A p = some v → rd B p = some v) {t : Sl} {l : List V} (hr : VRow A t l) : VRow B t l := by
 obtain ⟨xs, h1, h2, h3⟩ := hr
 exact ⟨xs, Qii h h1, h2, h3.to h⟩
/-- what is read in a part of the heap is read in a world that keeps its blocks -/
theorem Qhh {C : Ctx} {w w1 : World} {A H : Heap} (hs : St C w H) (hA : A.le H) (hb : ∀ c, A c ≠ none → w1.heap[c]? = w.heap[c]?) (p : Nat × Nat) (v : Value) (h : rd A p = some v) : rd (heapOf w1) p = some v := by
 unfold rd at h
 split at h
 ·rename_i m g hg
  obtain ⟨ob, ho, hr⟩ := hs.blk _ _ _ (hA _ _ hg)
  have hw1 := (hb p.1 (by rw [hg]; simp)).trans ho
  cases hc : g.cells? with
  | none => rw [hc] at h; cases h
  | some c =>
   rw [hc] at h
   have : ∃ t fr, ob = .cells c.toArray t fr := by
    cases g <;> simp only [GO.cells?, Option.some.injEq, reduceCtorEq] at hc <;> cases ob <;> simp only [GO.rel] at hr
    ·subst hc; exact ⟨_, _, by rw [hr.1]⟩
    ·subst hc; exact ⟨_, _, by rw [hr.1]⟩
   obtain ⟨t, fr, e⟩ := this
   subst e
   unfold rd heapOf
   rw [hw1]
   exact h
 ·cases h
end
section
open Go Go.Proofs
/-- a row that can be compared, in a part of memory -/
def ZR (A : Heap) : Type := {z : Sl × List V // VRow A z.1 z.2 ∧ VBs z.2 ∧ z.2.length ≤ 140737488355328}
instance (A : Heap) : Inhabited (ZR A) := ⟨⟨(Sl.nil, []), ⟨[], .inl rfl, rfl, trivial⟩, trivial, Nat.zero_le _⟩⟩
def ZR.cf {A : Heap} (a b : ZR A) : Int := cmpR a.1.2 b.1.2
theorem Qjv (A : Heap) : Go.Sort.SWO (ltOf (ZR.cf (A := A))) := by
 have hL := Lin.row
 refine ⟨fun x => ?_, fun x y z h1 h2 => ?_, fun x y z h1 h2 => ?_⟩
 ·have := hL.refl (a := x.1.2) trivial
  unfold ltOf ZR.cf; rw [this]; rfl
 ·have h1 := of_decide_eq_true h1
  have h2 := of_decide_eq_true h2
  have := (hL.tr x.1.2 y.1.2 z.1.2 trivial trivial trivial (by unfold ZR.cf at h1; omega) (by unfold ZR.cf at h2; omega)).2 (.inl h1)
  exact decide_eq_true this
 ·have h1 := of_decide_eq_false h1
  have h2 := of_decide_eq_false h2
  refine decide_eq_false ?_
  unfold ZR.cf at *
  have a1 := hL.anti x.1.2 y.1.2 trivial trivial
  have a2 := hL.anti y.1.2 z.1.2 trivial trivial
  have a3 := hL.anti x.1.2 z.1.2 trivial trivial
  have := (hL.tr z.1.2 y.1.2 x.1.2 trivial trivial trivial (by omega) (by omega)).1
  omega
theorem QgF {α : Type} [Inhabited α] {enc : α → Value} {w : World} {blk m c : Nat} {dk : Array α} {os : Array Obj} (hc : c ≠ blk) (hl : c < w.heap.size) : (sortWorld enc w blk 0 m dk os).heap[c]? = w.heap[c]? := by
 unfold sortWorld Go.Sort.grow Go.Sort.putRow Go.Sort.mapBlock Go.Sort.ahead
 simp only
 rw [Array.getElem?_append_left (by simpa using hl), Array.getElem?_modify, if_neg hc.symm]
theorem QiG {C : Ctx} {w : World} {H A : Heap} {blk size : Nat} (hs : St C w H) (hA : A.le H) (hb : A blk = none) : CmpLays1 Tryz.prog 37 #[] (fun z : ZR A => slv z.1.1) ZR.cf blk 0 size w := by
 intro m os dk hd x y
 have hrd : ∀ p v, rd A p = some v → rd (heapOf (sortWorld (fun z : ZR A => slv z.1.1) w blk 0 m dk os)) p = some v := fun p v h =>
  Qhh hs hA (fun c hc => QgF (fun e => hc (by rw [e]; exact hb)) (by
   cases hac : A c with
   | none => exact absurd hac hc
   | some e => exact hs.lt (hA _ _ hac))) p v h
 have hspec : Qbg (ctxOf (sortWorld (fun z : ZR A => slv z.1.1) w blk 0 m dk os)) x.1.1 y.1.1 (fun r _ => r = cmpR x.1.2 y.1.2) (heapOf (sortWorld (fun z : ZR A => slv z.1.1) w blk 0 m dk os)) :=
  Qff (x.2.1.to hrd) (y.2.1.to hrd) x.2.2.2 y.2.2.2 x.2.2.1 y.2.2.1 rfl
 have hcall := hspec _ (Qfn _)
 refine hcall.mono ?_
 rintro e w' ⟨v, H', rfl, hst, r, rfl, hr⟩
 subst hr
 exact ⟨rfl, QhS hst⟩
theorem QhU {C : Ctx} {w : World} {H A : Heap} {blk : Nat} {d : Array (ZR A)} {sp : List Value} (hs : St C w H) (hb : H blk = some (true, .row ((d.toList.map fun z => slv z.1.1) ++ sp))) : Go.Sort.Holds (fun z : ZR A => slv z.1.1) w blk 0 d := by
 intro j hj
 obtain ⟨ob, ho, hr⟩ := hs.blk _ _ _ hb
 cases ob <;> simp only [GO.rel] at hr
 rename_i c t fr
 obtain ⟨rfl, hfr⟩ := hr
 have hfr := hfr trivial
 have hl : 0 + j < ((d.toList.map fun z : ZR A => slv z.1.1) ++ sp).length := by simp; omega
 constructor
 ·unfold World.cell?
  simp only [ho]
  rw [if_neg (by simp), List.getElem?_toArray, Nat.zero_add, List.getElem?_append_left (by simpa using hj), List.getElem?_map, Array.getElem?_toList, Array.getElem?_eq_getElem hj]
  simp [hj]
 ·unfold World.frozen?
  simp only [ho]
  obtain ⟨lo, hi⟩ := fr
  simp only at hfr ⊢
  rcases hfr with h | h
  ·subst h; simp; try omega
  ·simp; try omega
theorem St.putR {α : Type} [Inhabited α] {enc : α → Value} {C : Ctx} {w : World} {H : Heap} {b : Nat} {cs sp : List Value} {d : Array α} (hs : St C w H) (hb : H b = some (true, .row (cs ++ sp))) (hl : cs.length = d.size) : St C (Go.Sort.putRow enc w b 0 d) (H.put b (.row ((d.toList.map enc) ++ sp))) := by
 obtain ⟨ob, ho, hr⟩ := hs.blk _ _ _ hb
 cases ob <;> simp only [GO.rel] at hr
 rename_i c t fr
 obtain ⟨rfl, hfr⟩ := hr
 have hfr := hfr trivial
 refine hs.set hb (o' := .cells (Go.Sort.putCells enc 0 d (cs ++ sp).toArray) t fr) ⟨rfl, rfl, ?_, fun x hx => ?_⟩ ⟨?_, fun _ => ?_⟩
 ·unfold Go.Sort.putRow Go.Sort.mapBlock
  simp only
  rw [Array.getElem?_modify, if_pos rfl, ho]
  rfl
 ·unfold Go.Sort.putRow Go.Sort.mapBlock
  simp only
  rw [Array.getElem?_modify, if_neg hx.symm]
 ·apply Array.ext_getElem?
  intro k
  unfold Go.Sort.putCells
  rw [Array.getElem?_mapIdx, List.getElem?_toArray, List.getElem?_toArray, Nat.zero_add]
  by_cases hk : k < d.size
  ·have hk1 : k < cs.length := by omega
   have hk2 : k < (d.toList.map enc).length := by simpa using hk
   have e1 : (cs ++ sp)[k]? = some cs[k] := by rw [List.getElem?_append_left hk1, List.getElem?_eq_getElem hk1]
   have e2 : (d.toList.map enc ++ sp)[k]? = some (enc d[k]) := by rw [List.getElem?_append_left hk2, List.getElem?_map, Array.getElem?_toList, Array.getElem?_eq_getElem hk]; rfl
   rw [e1, e2]
   simp [hk]
  ·have e1 : (cs ++ sp)[k]? = sp[k - d.size]? := by rw [List.getElem?_append_right (by omega), hl]
   have e2 : (d.toList.map enc ++ sp)[k]? = sp[k - d.size]? := by rw [List.getElem?_append_right (by simp; omega)]; simp
   rw [e1, e2]
   cases hsp : sp[k - d.size]? with
   | none => rfl
   | some v => simp [hk]
 ·simp only [List.length_append, List.length_map, Array.length_toList] at hfr ⊢
  omega
theorem St.sortW {α : Type} [Inhabited α] {enc : α → Value} {C : Ctx} {w : World} {H : Heap} {b n : Nat} {cs sp : List Value} {d : Array α} {os : Array Obj} (hs : St C w H) (hb : H b = some (true, .row (cs ++ sp))) (hl : cs.length = d.size) : St C (sortWorld enc w b 0 n d os) (H.put b (.row ((d.toList.map enc) ++ sp))) := by
 have h1 := St.putR (enc := enc) (hs.drewN n) hb hl
 have h2 := St.growL os.toList h1
 rw [Array.toArray_toList] at h2
 exact h2
theorem Qix {A : Heap} : ∀ (zs : List (Sl × List V)), (∀ z ∈ zs, VRow A z.1 z.2 ∧ VBs z.2 ∧ z.2.length ≤ 140737488355328) → ∃ dl : List (ZR A), dl.map (fun z => z.1) = zs
 | [], _ => ⟨[], rfl⟩
 | z :: zs, h => by
  obtain ⟨dl, e⟩ := Qix zs fun z hz => h z (List.mem_cons_of_mem _ hz)
  exact ⟨⟨z, h z (List.mem_cons_self ..)⟩ :: dl, congrArg (fun l => z :: l) e⟩
theorem Qhn {C : Ctx} {H0 H : Heap} {s : Sl} {zs : List (Sl × List V)} {K : Heap → Prop} (ho : OwnF H0 H 1 s (zs.map fun z => slv z.1)) (hz : ∀ z ∈ zs, VRow (H.off s) z.1 z.2 ∧ VBs z.2 ∧ z.2.length ≤ 140737488355328) (hn : zs.length ≤ 1000000000)
 (k : ∀ (ws : List (Sl × List V)) H2, ws.Perm zs → ws.Pairwise (fun a b => cmpR a.2 b.2 ≤ 0) → OwnF H0 H2 1 s (ws.map fun z => slv z.1) → H2.off s = H.off s → K H2) : Qw C s (.func (.func 37) (List.toArray []) (List.toArray [])) K H := by
 intro w hw
 obtain ⟨hle, ⟨hlen, hx, hcap, hcase⟩, hfr⟩ := ho
 have hlen : s.len = zs.length := by simpa using hlen.symm
 by_cases h0 : zs = []
 ·have hl0 : s.len = 0 := by rw [hlen, h0]; rfl
  have hall := AnyF.slices_SortFunc_none (P := Tryz.prog) (ρ := Tryz.laysSrt_ren) (by have L := Tryz.laysSrt; exact { L with }) s.ad s.cap (.func (.func 37) #[] #[]) w
  have harg : (#[.slice s.ad 0 s.cap, .func (.func 37) #[] #[]] : Array Value) = [slv s, .func (.func 37) (List.toArray []) (List.toArray [])].toArray := by
   unfold slv; rw [hl0]
  rw [← harg]
  refine hall.mono ?_
  rintro e w' ⟨rfl, rfl⟩
  exact ⟨.tuple #[], H, rfl, hw, rfl, k zs H (List.Perm.refl _) (by rw [h0]; exact .nil) ⟨hle, ⟨by simpa using hlen.symm, hx, hcap, hcase⟩, hfr⟩ rfl⟩
 ·rcases hcase with ⟨_, hc0⟩ | ⟨b, sp, hp, hb, hsz⟩
  ·have : zs.length = 0 := by omega
   exact absurd (List.length_eq_zero_iff.1 this) h0
  ·have hoff : (H.off s) b = none := Heap.off_fresh s H _ hp
   have had : s.ad = some ⟨b, 0, none⟩ := by unfold Sl.ad; rw [hp, hx]; rfl
   obtain ⟨dl, hdl⟩ := Qix zs hz
   have hdv : dl.toArray.toList.map (fun z : ZR (H.off s) => z.1) = zs := hdl
   have hdm : (dl.toArray.toList.map fun z : ZR (H.off s) => slv z.1.1) = zs.map fun z => slv z.1 := by
    rw [← hdv, List.map_map]; rfl
   have hds : dl.toArray.size = zs.length := by rw [← hdv]; simp
   generalize dl.toArray = d at *
   have hall := Any.slices_SortFunc Tryz.laysSrt (fun z : ZR (H.off s) => slv z.1.1) (fun z => rfl) ZR.cf (Qjv _) 37 #[] b 0 s.cap d w (Qbt Qc3) (QiG hw (Heap.off_le s H) hoff) (QhU (sp := sp) hw (by rw [hdm]; exact hb)) (hw.lt hb) (by omega)
   have harg : (#[.slice (some ⟨b, 0, none⟩) d.size s.cap, .func (.func 37) #[] #[]] : Array Value) = [slv s, .func (.func 37) (List.toArray []) (List.toArray [])].toArray := by
    unfold slv; rw [had, hds, hlen]
   rw [← harg]
   refine hall.mono ?_
   rintro e w' ⟨rfl, d', n, os, hperm, hsort, rfl⟩
   obtain ⟨p1, _, p3⟩ := hperm
   have hP : d'.toList.Perm d.toList := by
    have e1 : d'.extract 0 d.size = d' := by rw [← p1]; simp
    have e2 : d.extract 0 d.size = d := by simp
    rw [e1, e2] at p3; exact p3
   have hwp : (d'.toList.map fun z : ZR (H.off s) => z.1).Perm zs := by
    have := hP.map (fun z : ZR (H.off s) => z.1)
    rw [hdv] at this; exact this
   have hst := St.sortW (enc := fun z : ZR (H.off s) => slv z.1.1) (n := n) (os := os) (d := d') hw hb (by rw [List.length_map, p1, hds])
   refine ⟨.tuple #[], _, rfl, hst, rfl, k (d'.toList.map fun z => z.1) _ hwp ?_ ⟨?_, ⟨?_, hx, hcap, .inr ⟨b, sp, hp, ?_, ?_⟩⟩, hfr⟩ ?_⟩
   ·rw [List.pairwise_map, List.pairwise_iff_getElem]
    intro i j hi hj hij
    have hj2 : j < d'.size := by simpa using hj
    have hi2 : i < d'.size := by omega
    have h1 := of_decide_eq_false (hsort i j (Nat.zero_le _) hij (by omega))
    have e1 : d'[i]! = d'[i] := by simp [hi2]
    have e2 : d'[j]! = d'[j] := by simp [hj2]
    rw [e1, e2] at h1
    unfold ZR.cf at h1
    have := Lin.row.anti d'[i].1.2 d'[j].1.2 trivial trivial
    simp only [Array.getElem_toList]
    omega
   ·intro c e hc
    have : c ≠ b := fun e' => by rw [e'] at hc; have := hfr _ hp; rw [this] at hc; cases hc
    rw [Heap.put_ne _ _ _ this]; exact hle _ _ hc
   ·rw [List.length_map, hwp.length_eq]; omega
   ·rw [Heap.put_same, List.map_map]; rfl
   ·rw [List.map_map] at *
    simp only [List.length_append, List.length_map, Array.length_toList] at hsz ⊢
    omega
   ·funext c
    unfold Heap.off
    split
    ·rfl
    ·rename_i hc
     have : c ≠ b := fun e => hc (by rw [hp, e]; rfl)
     rw [Heap.put_ne _ _ _ this]
end
section
open Go Go.Proofs
theorem Qi9 : ∀ x y : Str, x < y ↔ vcmpS x y < 0
 | [], [] => by simp [vcmpS]
 | [], b :: y => by simp [vcmpS]
 | a :: x, [] => by simp [vcmpS]
 | a :: x, b :: y => by
  rw [List.cons_lt_cons_iff, Qi9 x y]
  simp only [vcmpS]
  by_cases he : a = b
  ·subst he
   rw [if_pos rfl]
   exact ⟨fun h => h.elim (fun h => absurd h (fun h => Nat.lt_irrefl _ h)) fun h => h.2, fun h => .inr ⟨rfl, h⟩⟩
  ·rw [if_neg he, QeD]
   refine ⟨fun h => h.elim (fun h => ?_) fun h => absurd h.1 he, fun h => .inl ?_⟩
   ·have := UInt8.lt_iff_toNat_lt.1 h; omega
   ·exact UInt8.lt_iff_toNat_lt.2 (by omega)
theorem Qha (x y : Str) : x ≤ y ↔ vcmpS x y ≤ 0 := by
 have h1 : x ≤ y ↔ ¬ y < x := Iff.rfl
 rw [h1, Qi9]
 have := Lin.txt.anti y x trivial trivial
 omega
theorem QhV {C : Ctx} {w : World} {H : Heap} {blk : Nat} {d : Array Str} {sp : List Value} (hs : St C w H) (hb : H blk = some (true, .row ((d.toList.map sv) ++ sp))) : Go.Sort.Holds Go.Proofs.encStr w blk 0 d := by
 intro j hj
 obtain ⟨ob, ho, hr⟩ := hs.blk _ _ _ hb
 cases ob <;> simp only [GO.rel] at hr
 rename_i c t fr
 obtain ⟨rfl, hfr⟩ := hr
 have hfr := hfr trivial
 have hl : 0 + j < ((d.toList.map sv) ++ sp).length := by simp; omega
 constructor
 ·unfold World.cell?
  simp only [ho]
  rw [if_neg (by simp), List.getElem?_toArray, Nat.zero_add, List.getElem?_append_left (by simpa using hj), List.getElem?_map, Array.getElem?_toList, Array.getElem?_eq_getElem hj]
  simp [hj, sv]
 ·unfold World.frozen?
  simp only [ho]
  obtain ⟨lo, hi⟩ := fr
  simp only at hfr ⊢
  rcases hfr with h | h
  ·subst h; simp; try omega
  ·simp; try omega
theorem Qi2 {C : Ctx} {H0 H : Heap} {s : Sl} {zs : List Str} {K : Heap → Prop} (ho : OwnF H0 H 1 s (zs.map sv)) (hn : zs.length ≤ 1000000000)
 (k : ∀ (ws : List Str) H2, ws.Perm zs → ws.Pairwise (fun a b => vcmpS a b ≤ 0) → OwnF H0 H2 1 s (ws.map sv) → K H2) : QaG C s K H := by
 intro w hw
 obtain ⟨hle, ⟨hlen, hx, hcap, hcase⟩, hfr⟩ := ho
 have hlen : s.len = zs.length := by simpa using hlen.symm
 by_cases h0 : zs = []
 ·have hl0 : s.len = 0 := by rw [hlen, h0]; rfl
  have hall := Any.slices_Sort_string_none (P := Tryz.prog) (ρ := Tryz.lays190_ren) Tryz.lays190 s.ad s.cap w
  have harg : (#[.slice s.ad 0 s.cap] : Array Value) = [slv s].toArray := by
   unfold slv; rw [hl0]
  rw [← harg]
  refine hall.mono ?_
  rintro e w' ⟨rfl, rfl⟩
  exact ⟨.tuple #[], H, rfl, hw, rfl, k zs H (List.Perm.refl _) (by rw [h0]; exact .nil) ⟨hle, ⟨by simpa using hlen.symm, hx, hcap, hcase⟩, hfr⟩⟩
 ·rcases hcase with ⟨_, hc0⟩ | ⟨b, sp, hp, hb, hsz⟩
  ·have : zs.length = 0 := by omega
   exact absurd (List.length_eq_zero_iff.1 this) h0
  ·have had : s.ad = some ⟨b, 0, none⟩ := by unfold Sl.ad; rw [hp, hx]; rfl
   have hall := Any.slices_Sort_string Tryz.lays190 b 0 s.cap zs w (QhV (d := zs.toArray) (sp := sp) hw hb) (hw.lt hb) (by omega)
   have harg : (#[.slice (some ⟨b, 0, none⟩) zs.length s.cap] : Array Value) = [slv s].toArray := by
    unfold slv; rw [had, hlen]
   rw [← harg]
   refine hall.mono ?_
   rintro e w' ⟨rfl, n, os, rfl⟩
   have hP : (zs.mergeSort fun x y => decide (x ≤ y)).Perm zs := List.mergeSort_perm _ _
   have hS : (zs.mergeSort fun x y => decide (x ≤ y)).Pairwise fun a b => vcmpS a b ≤ 0 := by
    have := List.pairwise_mergeSort (le := fun x y : Str => decide (x ≤ y)) (fun a b c h1 h2 => by
     rw [decide_eq_true_iff, Qha] at *
     exact (Lin.txt.tr a b c trivial trivial trivial h1 h2).1) (fun a b => by
     rw [Bool.or_eq_true, decide_eq_true_iff, decide_eq_true_iff, Qha, Qha]
     have := Lin.txt.anti a b trivial trivial
     omega) zs
    exact this.imp fun {a b} h => (Qha a b).1 (of_decide_eq_true h)
   generalize (zs.mergeSort fun x y => decide (x ≤ y)) = ws at *
   have hst := St.sortW (enc := Go.Proofs.encStr) (n := n) (os := os) (d := ws.toArray) hw hb (by rw [List.length_map, List.size_toArray, hP.length_eq])
   refine ⟨.tuple #[], _, rfl, hst, rfl, k ws _ hP hS ⟨?_, ⟨?_, hx, hcap, .inr ⟨b, sp, hp, Heap.put_same .., ?_⟩⟩, hfr⟩⟩
   ·intro c e hc
    have : c ≠ b := fun e' => by rw [e'] at hc; have := hfr _ hp; rw [this] at hc; cases hc
    rw [Heap.put_ne _ _ _ this]; exact hle _ _ hc
   ·rw [List.length_map, hP.length_eq]; omega
   ·simp only [List.length_append, List.length_map] at hsz ⊢
    rw [hP.length_eq]; omega
end
end Sx
end
