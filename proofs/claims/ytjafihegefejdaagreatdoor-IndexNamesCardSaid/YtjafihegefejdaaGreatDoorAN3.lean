/-
  Texts of this family, one behind the other: ValQ, ValU, ValP1, ValP2, ValP3, ValP4, ValP5, ValR, ValW, ValX, ValC1, ValO1, SortP, SortQ, ValM, ValN1, ShowQ, BldJ, CodeP1, CodeP2, CodeP3, CodeP4, CodeP5, CodeP6, CodeV1, CodeV2, CodeV3, CodeV4, Ix2, Ix1, Ix3, Ix4, Ix5, Ix6, Ix7, Ix8, Ix9, IxS1, IxS2, IxT.
-/
import Derived.Test.YtjafihegefejdaaGreatDoorAN2
import Derived.Lib.ItoaNum
import Derived.Shelf.SlSortCmp.Kit1
noncomputable section
set_option linter.unusedVariables false
set_option linter.unusedSimpArgs false
namespace Sx
open Go
inductive V where
 | mk (k n : Int) (s : Str) (l : List V)
namespace V
def k : V → Int | .mk k _ _ _ => k
def n : V → Int | .mk _ n _ _ => n
def s : V → Str | .mk _ _ s _ => s
def l : V → List V | .mk _ _ _ l => l
end V
mutual
def vsize : V → Nat
 | .mk _ _ _ l => vsizes l + 1
def vsizes : List V → Nat
 | [] => 0
 | v :: l => vsize v + vsizes l
end
theorem Qf8 : ∀ {l : List V} {v : V}, v ∈ l → vsize v ≤ vsizes l
 | w :: l, v, h => by
  simp only [vsizes]
  rcases List.mem_cons.1 h with rfl | h
  ·omega
  ·have := Qf8 h; omega
theorem QhY {v w : V} (h : w ∈ v.l) : vsize w < vsize v := by
 obtain ⟨k, n, s, l⟩ := v
 have := Qf8 (show w ∈ l from h)
 simp only [vsize]; omega
/-- by how great a value is -/
theorem V.rec_ {P : V → Prop} (h : ∀ v, (∀ w ∈ v.l, P w) → P v) (v : V) : P v := by
 have : ∀ n v, vsize v ≤ n → P v := by
  intro n
  induction n with
  | zero => intro v hv; obtain ⟨k, n, s, l⟩ := v; simp [vsize] at hv
  | succ n ih => intro v hv; exact h v fun w hw => ih w (by have := QhY hw; omega)
 exact this _ v (Nat.le_refl _)
mutual
def dep : V → Nat
 | .mk _ _ _ l => deps l + 1
def deps : List V → Nat
 | [] => 0
 | v :: l => max (dep v) (deps l)
end
theorem QkX (v : V) : dep v = deps v.l + 1 := by obtain ⟨k, n, s, l⟩ := v; rfl
theorem Qem : ∀ (a b : List V), deps (a ++ b) = max (deps a) (deps b)
 | [], b => by simp [deps]
 | v :: a, b => by simp only [List.cons_append, deps, Qem a b]; omega
theorem QiL {l : List V} {i : Nat} (h : i < l.length) : deps (l.take (i + 1)) = max (deps (l.take i)) (dep l[i]) := by
 rw [List.take_add_one, List.getElem?_eq_getElem h, Option.toList_some, Qem]; simp [deps]
theorem QiK : ∀ {l : List V} {v : V}, v ∈ l → dep v ≤ deps l
 | w :: l, v, h => by
  simp only [deps]
  rcases List.mem_cons.1 h with rfl | h
  ·omega
  ·have := QiK h; omega
def lowC (c : UInt8) : Bool := decide (97 ≤ c.toNat) && decide (c.toNat ≤ 122)
def nameC (c : UInt8) : Bool := lowC c || (decide (65 ≤ c.toNat) && decide (c.toNat ≤ 90)) || (decide (48 ≤ c.toNat) && decide (c.toNat ≤ 57)) || decide (c.toNat = 95)
def nameS (s : Str) : Bool := !s.isEmpty && decide (s.length ≤ 32) && lowC (s.headD 0) && s.all nameC
def digC (c : UInt8) : Bool := decide (48 ≤ c.toNat) && decide (c.toNat ≤ 57)
def cutD : Str → Option (Str × Str)
 | [] => none
 | c :: t => if c = 46 then some ([], t) else (cutD t).map fun p => (c :: p.1, p.2)
theorem QhN : ∀ (a b : Str), (46 : UInt8) ∉ a → cutD (a ++ 46 :: b) = some (a, b)
 | [], b, _ => by simp [cutD]
 | c :: a, b, h => by
  have h1 : c ≠ 46 := fun e => h (by rw [e]; exact List.mem_cons_self ..)
  simp only [List.cons_append, cutD, if_neg h1, QhN a b fun hh => h (List.mem_cons_of_mem _ hh)]; rfl
theorem QhO : ∀ (a : Str), (46 : UInt8) ∉ a → cutD a = none
 | [], _ => rfl
 | c :: a, h => by
  have h1 : c ≠ 46 := fun e => h (by rw [e]; exact List.mem_cons_self ..)
  simp only [cutD, if_neg h1, QhO a fun hh => h (List.mem_cons_of_mem _ hh)]; rfl
theorem Qh2 : ∀ (s : Str), (46 : UInt8) ∈ s → ∃ a b, s = a ++ 46 :: b ∧ 46 ∉ a
 | c :: s, h => by
  by_cases hc : c = 46
  ·exact ⟨[], s, by rw [hc]; rfl, by simp⟩
  ·obtain ⟨a, b, h1, h2⟩ := Qh2 s (by simpa [Ne.symm hc] using h)
   exact ⟨c :: a, b, by rw [h1]; rfl, by simp [h2, Ne.symm hc]⟩
def trueS : Str := [116, 114, 117, 101]
def falseS : Str := [102, 97, 108, 115, 101]
def namesS (s : Str) : Bool := if s = trueS ∨ s = falseS then false else match cutD s with
 | some (a, b) => nameS a && nameS b
 | none => nameS s
def unmin (s : Str) : Str := if s.head? = some 45 then s.tail else s
def numS (s : Str) : Bool := !(unmin s).isEmpty && (unmin s).all digC && !(decide ((unmin s).head? = some 48) && decide (s ≠ [48]))
def digits (s : Str) : Nat := (unmin s).length
def okN (k n : Int) (s : Str) (m : Nat) : Bool :=
 if k = 1 then (n == 0 || n == 1) && s.isEmpty && decide (m = 0)
 else if k = 2 then s.isEmpty && decide (m = 0)
 else if k = 3 then numS s && n == 0 && decide (m = 0)
 else if k = 4 then n == 0 && decide (m = 0)
 else if k = 5 then n == 0 && s.isEmpty && decide (m ≠ 1)
 else if k = 6 then n == 0 && namesS s
 else false
def fitN (k : Int) (s : Str) (m : Nat) : Bool :=
 if k = 3 then decide (digits s ≤ 200)
 else if k = 4 then decide (s.length ≤ 4096)
 else if k = 5 then decide (m ≤ 16)
 else if k = 6 then decide (m ≤ 8)
 else true
mutual
def formV : V → Bool
 | .mk k n s l => okN k n s l.length && formVs l
def formVs : List V → Bool
 | [] => true
 | v :: l => formV v && formVs l
end
mutual
def fitsV : V → Bool
 | .mk k n s l => fitN k s l.length && fitsVs l
def fitsVs : List V → Bool
 | [] => true
 | v :: l => fitsV v && fitsVs l
end
theorem Qfy (v : V) : formV v = (okN v.k v.n v.s v.l.length && formVs v.l) := by obtain ⟨k, n, s, l⟩ := v; rfl
theorem QjE (v : V) : fitsV v = (fitN v.k v.s v.l.length && fitsVs v.l) := by obtain ⟨k, n, s, l⟩ := v; rfl
theorem QeD : ∀ (a b : List V), formVs (a ++ b) = (formVs a && formVs b)
 | [], b => by simp [formVs]
 | v :: a, b => by simp only [List.cons_append, formVs, QeD a b, Bool.and_assoc]
theorem QeC : ∀ (a b : List V), fitsVs (a ++ b) = (fitsVs a && fitsVs b)
 | [], b => by simp [fitsVs]
 | v :: a, b => by simp only [List.cons_append, fitsVs, QeC a b, Bool.and_assoc]
theorem QhS {l : List V} {i : Nat} (h : i < l.length) : formVs (l.take (i + 1)) = (formVs (l.take i) && formV l[i]) := by
 rw [List.take_add_one, List.getElem?_eq_getElem h, Option.toList_some, QeD]; simp [formVs]
theorem QhR {l : List V} {i : Nat} (h : i < l.length) : fitsVs (l.take (i + 1)) = (fitsVs (l.take i) && fitsV l[i]) := by
 rw [List.take_add_one, List.getElem?_eq_getElem h, Option.toList_some, QeC]; simp [fitsVs]
theorem Qfc : ∀ {l : List V} {v : V}, v ∈ l → formV v = false → formVs l = false
 | w :: l, v, h, hv => by
  simp only [formVs]
  rcases List.mem_cons.1 h with rfl | h
  ·rw [hv]; rfl
  ·rw [Qfc h hv, Bool.and_false]
theorem QcM : ∀ {l : List V} {v : V}, v ∈ l → formVs l = true → formV v = true := fun h hl => by
 cases hv : formV _ with
 | true => rfl
 | false => rw [Qfc h hv] at hl; cases hl
def checkV (v : V) : Int := if dep v > 64 then 65 else if formV v = false then 4 else if fitsV v = false then 40 else 0
def mayV (v : V) : Bool := decide (checkV v = 0)
theorem QjI (v : V) : mayV v = true ↔ dep v ≤ 64 ∧ formV v = true ∧ fitsV v = true := by
 unfold mayV checkV
 rw [decide_eq_true_eq]
 by_cases h1 : dep v > 64
 ·simp [h1]; omega
 ·rw [if_neg h1]
  cases hf : formV v <;> cases hg : fitsV v <;> simp <;> omega
def sgn (a b : Int) : Int := if a < b then -1 else if b < a then 1 else 0
def vcmpS : Str → Str → Int
 | [], [] => 0
 | [], _ :: _ => -1
 | _ :: _, [] => 1
 | a :: s, b :: t => if a = b then vcmpS s t else sgn a.toNat b.toNat
/-- of whole numbers without their signs -/
def cmpD (a b : Str) : Int := if a.length = b.length then vcmpS a b else sgn a.length b.length
def isMin (s : Str) : Bool := decide (s.head? = some 45)
def cmpB (a b : Str) : Int := if isMin a then (if isMin b then cmpD b.tail a.tail else -1) else if isMin b then 1 else cmpD a b
mutual
def cmpV : V → V → Int
 | .mk k n s l, .mk k' n' s' l' =>
  if k ≠ k' then sgn k k'
  else if k = 3 then cmpB s s'
  else if k = 4 then vcmpS s s'
  else if k = 5 then cmpVs l l'
  else if k = 6 then (if vcmpS s s' ≠ 0 then vcmpS s s' else cmpVs l l')
  else sgn n n'
def cmpVs : List V → List V → Int
 | [], [] => 0
 | [], _ :: _ => -1
 | _ :: _, [] => 1
 | v :: l, w :: m => if cmpV v w ≠ 0 then cmpV v w else cmpVs l m
end
def lastB (a b : Bool) : Int := if a = b then 0 else if a then -1 else 1
def mayR (l : List V) : Bool := l.all mayV
def cmpR (l m : List V) : Int := if mayR l = true ∧ mayR m = true then cmpVs l m else lastB (mayR l) (mayR m)
mutual
def sameV : V → V → Bool
 | .mk k n s l, .mk k' n' s' l' => k == k' && n == n' && decide (s = s') && sameVs l l'
def sameVs : List V → List V → Bool
 | [], [] => true
 | v :: l, w :: m => sameV v w && sameVs l m
 | _, _ => false
end
theorem QhE (h : ∀ v w : V, sameV v w = true → v = w) : ∀ {l m : List V}, sameVs l m = true → l = m
 | [], [], _ => rfl
 | [], _ :: _, h' => by simp [sameVs] at h'
 | _ :: _, [], h' => by simp [sameVs] at h'
 | v :: l, w :: m, h' => by
  simp only [sameVs, Bool.and_eq_true] at h'
  rw [h v w h'.1, QhE h h'.2]
theorem QjV {v w : V} (h : sameV v w = true) : v = w := by
 have key : ∀ v : V, ∀ w, sameV v w = true → v = w := by
  refine V.rec_ (P := fun v => ∀ w, sameV v w = true → v = w) fun v ih w h => ?_
  obtain ⟨k, n, s, l⟩ := v
  obtain ⟨k', n', s', l'⟩ := w
  simp only [sameV, Bool.and_eq_true, beq_iff_eq, decide_eq_true_eq] at h
  obtain ⟨⟨⟨rfl, rfl⟩, rfl⟩, h⟩ := h
  have : ∀ (l m : List V), (∀ v ∈ l, ∀ w, sameV v w = true → v = w) → sameVs l m = true → l = m := by
   intro l
   induction l with
   | nil => intro m _ h; cases m with
    | nil => rfl
    | cons _ _ => simp [sameVs] at h
   | cons v l ihl =>
    intro m hh h
    cases m with
    | nil => simp [sameVs] at h
    | cons w m =>
     simp only [sameVs, Bool.and_eq_true] at h
     rw [hh v (List.mem_cons_self ..) w h.1, ihl m (fun v hv => hh v (List.mem_cons_of_mem _ hv)) h.2]
  rw [this l l' ih h]
 exact key v w h
mutual
theorem Qix : ∀ v : V, sameV v v = true
 | .mk k n s l => by simp [sameV, Qep l]
theorem Qep : ∀ l : List V, sameVs l l = true
 | [] => rfl
 | v :: l => by simp [sameVs, Qix v, Qep l]
end
theorem Qe7 {l m : List V} : sameVs l m = true ↔ l = m := ⟨QhE fun _ _ => QjV, fun h => h ▸ Qep l⟩
end Sx
end

noncomputable section
set_option linter.unusedVariables false
set_option linter.unusedSimpArgs false
set_option maxRecDepth 10000
namespace Sx
section
open Go Go.Proofs
theorem QgW {α β : Type} (f : α → List β) (z : Nat) (hz : ∀ x, (f x).length = z) : ∀ (l : List α) (i : Nat) (x : α), l[i]? = some x → ∀ (j : Nat) (v : β), (f x)[j]? = some v → (l.flatMap f)[i * z + j]? = some v
 | [], i, x, h, j, v, hv => by simp at h
 | y :: l, 0, x, h, j, v, hv => by
  simp at h; subst h
  rw [List.flatMap_cons, Nat.zero_mul, Nat.zero_add, List.getElem?_append_left (List.getElem?_eq_some_iff.1 hv).1]; exact hv
 | y :: l, i + 1, x, h, j, v, hv => by
  have := QgW f z hz l i x (by simpa using h) j v hv
  rw [List.flatMap_cons, List.getElem?_append_right (by rw [hz, Nat.add_mul]; omega), hz]
  rw [show (i + 1) * z + j - z = i * z + j by rw [Nat.add_mul]; omega]; exact this
abbrev TV := Qa
theorem TV.c_len (x : TV) : (Qa.c x).length = 4 := rfl
mutual
def VIs (H : Heap) : V → TV → Prop
 | .mk k n s l, x => x.Kind = k ∧ x.N = n ∧ x.S = s ∧ ∃ xs : List TV, rdsl H x.L (xs.flatMap Qa.c) ∧ x.L.len = xs.length ∧ VsAre H l xs
def VsAre (H : Heap) : List V → List TV → Prop
 | [], [] => True
 | v :: l, x :: xs => VIs H v x ∧ VsAre H l xs
 | [], _ :: _ => False
 | _ :: _, [] => False
end
/-- a row of values -/
def VRow (H : Heap) (t : Sl) (l : List V) : Prop := ∃ xs : List TV, rdsl H t (xs.flatMap Qa.c) ∧ t.len = xs.length ∧ VsAre H l xs
theorem Qei {H : Heap} {v : V} {x : TV} : VIs H v x ↔ x.Kind = v.k ∧ x.N = v.n ∧ x.S = v.s ∧ VRow H x.L v.l := by obtain ⟨k, n, s, l⟩ := v; rfl
theorem VsAre.len {H : Heap} : ∀ {l : List V} {xs : List TV}, VsAre H l xs → l.length = xs.length
 | [], [], _ => rfl
 | v :: l, x :: xs, h => by have := VsAre.len h.2; simp [this]
theorem VsAre.get {H : Heap} : ∀ {l : List V} {xs : List TV}, VsAre H l xs → ∀ (i : Nat) (v : V) (x : TV), l[i]? = some v → xs[i]? = some x → VIs H v x
 | [], [], _, i, v, x, h, _ => by simp at h
 | v :: l, x :: xs, h, 0, v', x', h1, h2 => by simp at h1 h2; subst h1; subst h2; exact h.1
 | v :: l, x :: xs, h, i + 1, v', x', h1, h2 => VsAre.get h.2 i v' x' (by simpa using h1) (by simpa using h2)
theorem VsAre.of {H : Heap} : ∀ {l : List V} {xs : List TV}, l.length = xs.length → (∀ (i : Nat) (v : V) (x : TV), l[i]? = some v → xs[i]? = some x → VIs H v x) → VsAre H l xs
 | [], [], _, _ => trivial
 | v :: l, x :: xs, h, hg => ⟨hg 0 v x rfl rfl, VsAre.of (by simpa using h) fun i v' x' h1 h2 => hg (i + 1) v' x' (by simpa using h1) (by simpa using h2)⟩
mutual
theorem VIs.le {A B : Heap} (h : A.le B) : ∀ {v : V} {x : TV}, VIs A v x → VIs B v x
 | .mk k n s l, x, ⟨h1, h2, h3, xs, h4, h5, h6⟩ => ⟨h1, h2, h3, xs, QbW h h4, h5, VsAre.le h h6⟩
theorem VsAre.le {A B : Heap} (h : A.le B) : ∀ {l : List V} {xs : List TV}, VsAre A l xs → VsAre B l xs
 | [], [], _ => trivial
 | v :: l, x :: xs, ⟨h1, h2⟩ => ⟨VIs.le h h1, VsAre.le h h2⟩
end
theorem VRow.le {A B : Heap} {t : Sl} {l : List V} (h : VRow A t l) (hle : A.le B) : VRow B t l := by
 obtain ⟨xs, h1, h2, h3⟩ := h
 exact ⟨xs, QbW hle h1, h2, h3.le hle⟩
theorem VRow.len {H : Heap} {t : Sl} {l : List V} (h : VRow H t l) : t.len = l.length := by
 obtain ⟨xs, h1, h2, h3⟩ := h
 rw [h2, h3.len]
theorem VIs.kind {H : Heap} {v : V} {x : TV} (h : VIs H v x) : x.Kind = v.k := (Qei.1 h).1
theorem VIs.num {H : Heap} {v : V} {x : TV} (h : VIs H v x) : x.N = v.n := (Qei.1 h).2.1
theorem VIs.txt {H : Heap} {v : V} {x : TV} (h : VIs H v x) : x.S = v.s := (Qei.1 h).2.2.1
theorem VIs.row {H : Heap} {v : V} {x : TV} (h : VIs H v x) : VRow H x.L v.l := (Qei.1 h).2.2.2
/-- one of a row's values -/
theorem VRow.ld {A H : Heap} {t : Sl} {l : List V} (h : VRow A t l) (hle : A.le H) {i : Nat} {x : Int} {K : TV → Prop} (hx : x = i) (hi : i < l.length) (k : ∀ y, VIs A l[i] y → K y) : ixa t x fun p => ldT H Qa.c (p.1, p.2 + x.toNat * 4) K := by
 have hl := h.len
 obtain ⟨xs, h1, h2, h3⟩ := h
 have hi2 : i < xs.length := by omega
 have hg := List.getElem?_eq_getElem hi2
 subst hx
 refine Qh7 (QbW hle h1) (by omega) (by omega) (fun e => ?_) fun p _ hp => ⟨xs[i], ?_, k _ (h3.get i _ _ (List.getElem?_eq_getElem hi) hg)⟩
 ·have := QgW Qa.c 4 TV.c_len xs i _ hg 0 _ rfl
  rw [e] at this; simp at this
 ·refine QhC fun j v hj => ?_
  have := Qeo hp _ _ (QgW Qa.c 4 TV.c_len xs i _ hg j v hj)
  rw [show p.2 + (i : Int).toNat * 4 + j = p.2 + (i * 4 + j) by omega]; exact this
mutual
def VB : V → Prop
 | .mk k n s l => (0 ≤ k ∧ k ≤ 255) ∧ (-9223372036854775808 ≤ n ∧ n ≤ 9223372036854775807) ∧ s.length ≤ 140737488355328 ∧ l.length ≤ 140737488355328 ∧ VBs l
def VBs : List V → Prop
 | [] => True
 | v :: l => VB v ∧ VBs l
end
theorem VBs.mem : ∀ {l : List V}, VBs l → ∀ {v}, v ∈ l → VB v
 | w :: l, h, v, hv => by
  rcases List.mem_cons.1 hv with rfl | hv
  ·exact h.1
  ·exact VBs.mem h.2 hv
theorem VBs.of : ∀ {l : List V}, (∀ v ∈ l, VB v) → VBs l
 | [], _ => trivial
 | v :: l, h => ⟨h v (List.mem_cons_self ..), VBs.of fun w hw => h w (List.mem_cons_of_mem _ hw)⟩
theorem VB.k {v : V} (h : VB v) : 0 ≤ v.k ∧ v.k ≤ 255 := by obtain ⟨k, n, s, l⟩ := v; exact h.1
theorem VB.n {v : V} (h : VB v) : -9223372036854775808 ≤ v.n ∧ v.n ≤ 9223372036854775807 := by obtain ⟨k, n, s, l⟩ := v; exact h.2.1
theorem VB.s {v : V} (h : VB v) : v.s.length ≤ 140737488355328 := by obtain ⟨k, n, s, l⟩ := v; exact h.2.2.1
theorem VB.l {v : V} (h : VB v) : v.l.length ≤ 140737488355328 := by obtain ⟨k, n, s, l⟩ := v; exact h.2.2.2.1
theorem VB.ls {v : V} (h : VB v) : VBs v.l := by obtain ⟨k, n, s, l⟩ := v; exact h.2.2.2.2
theorem VB.at {v : V} (h : VB v) {i : Nat} (hi : i < v.l.length) : VB v.l[i] := h.ls.mem (List.getElem_mem hi)
section
variable {B : Heap} {b : Nat} {m : Bool} {x : TV}
theorem Qif (h : B b = some (m, .row (Qa.c x))) : rd B (b, 0) = some (.int .u8 x.Kind) ∧ rd B (b, 1) = some (.int .i64 x.N) ∧ rd B (b, 2) = some (sv x.S) ∧ rd B (b, 3) = some (slv x.L) :=
 ⟨by rw [Qbh h]; rfl, by rw [Qbh h]; rfl, by rw [Qbh h]; rfl, by rw [Qbh h]; rfl⟩
theorem bxK {K : Int → Prop} (h : B b = some (m, .row (Qa.c x))) (k : K x.Kind) : ldI B .u8 ((b, 0).1, (b, 0).2 + 0) K := ⟨_, (Qif h).1, k⟩
theorem bxN {K : Int → Prop} (h : B b = some (m, .row (Qa.c x))) (k : K x.N) : ldI B .i64 ((b, 0).1, (b, 0).2 + 1) K := ⟨_, (Qif h).2.1, k⟩
theorem bxS {K : Str → Prop} (h : B b = some (m, .row (Qa.c x))) (k : K x.S) : ldS B ((b, 0).1, (b, 0).2 + 2) K := ⟨_, (Qif h).2.2.1, k⟩
theorem bxL {K : Sl → Prop} (h : B b = some (m, .row (Qa.c x))) (k : K x.L) : ldL B ((b, 0).1, (b, 0).2 + 3) K := ⟨_, (Qif h).2.2.2, k⟩
theorem bxV {K : TV → Prop} (h : B b = some (m, .row (Qa.c x))) (k : K x) : ldT B Qa.c (b, 0) K := ⟨x, QdK h fun j v hj => by simpa using hj, k⟩
end
section
variable {C : Ctx} {H : Heap}
theorem Qgq {v : V} {x : TV} {H : Heap} {m : Nat} {K : Int → Heap → Prop} (hv : VIs H v x) (hB : VB v) (hm : m ≤ 1000) (k : ∀ r : Nat, r ≤ m + 1 → r ≤ dep v → (r = dep v ∨ m + 1 ≤ r) → K r H) : QQ C x m K H := by
 refine V.rec_ (P := fun v => ∀ {x H} {m : Nat} {K : Int → Heap → Prop}, VIs H v x → VB v → m ≤ 1000 → (∀ r : Nat, r ≤ m + 1 → r ≤ dep v → (r = dep v ∨ m + 1 ≤ r) → K r H) → QQ C x m K H) (fun v ih => ?_) v hv hB hm k
 clear hv hB hm k m
 intro x H m K hv hB hm k
 apply QQ.gh
 apply Qgj
 unfold Qeg
 intro b1 n1
 have hr := hv.row
 have hl := hr.len
 have hbl := hB.l
 have hde := QkX v
 have hb1 : (H.put b1 (.row (Qa.c x))) b1 = some (true, .row (Qa.c x)) := Heap.put_same ..
 refine ⟨fun y H' => H.le H' ∧ ∃ r : Nat, y = (r : Int) ∧ r ≤ m ∧ r ≤ deps v.l ∧ (r = deps v.l ∨ m ≤ r), ?_, ?_⟩
 rotate_left
 ·rintro y H' ⟨hle, r, rfl, h0, h1, h2⟩
  rw [Qac (by omega) (by omega)]
  have := k (r + 1) (by omega) (by omega) (by omega)
  exact ⟨H, Gh.le hle, by simpa using this⟩
 refine bxL hb1 ?_
 refine ⟨fun y H' => ∃ i r : Nat, y = ((r : Int), (i : Int)) ∧ i ≤ v.l.length ∧ H.le H' ∧ r ≤ m ∧ r ≤ deps (v.l.take i) ∧ (r = deps (v.l.take i) ∨ m ≤ r), fun y _ => v.l.length - y.2.toNat, ⟨0, 0, rfl, Nat.zero_le _, Heap.le_put n1, Nat.zero_le _, Nat.zero_le _, .inl (by simp [deps])⟩, ?_⟩
 rintro _ H' ⟨i, r, rfl, hi, hle, hr0, hr1, hr2⟩
 have hdti : deps (v.l.take i) ≤ deps v.l := by
  have h1 := Qem (v.l.take i) (v.l.drop i)
  rw [List.take_append_drop] at h1; omega
 dsimp only
 rw [hl]
 refine ift.of (fun h => ?_) (fun h => ?_)
 ·have hlt : i < v.l.length := by have := of_decide_eq_true h; omega
  have hmem := List.getElem_mem hlt
  have hdl := QiK hmem
  refine hr.ld hle rfl hlt fun y hy => ?_
  intro b20 n20
  refine ⟨_, Heap.put_same .., by simp [Qa.c], ?_⟩
  rw [Heap.put_put]
  have esp : splice (Qa.c Qa.zero) (b20, 0).2 (Qa.c y) = Qa.c y := rfl
  rw [esp]
  have hle2 := hle.trans (Heap.le_put n20 (g := .row (Qa.c y)) (m := true))
  refine ift.of (fun h => ?_) (fun h => ?_)
  ·have hge : m ≤ r := by have := of_decide_eq_true h; omega
   exact ⟨hle2, r, rfl, by omega, by omega, .inr hge⟩
  ·have hltm : r < m := by have := of_decide_eq_false h; omega
   refine bxV (Heap.put_same ..) ?_
   have em : w .i64 ((m : Int) - 1) = ((m - 1 : Nat) : Int) := by rw [Qac (by omega) (by omega)]; omega
   rw [em]
   refine ih _ hmem (hy.le hle2) (hB.at hlt) (by omega) fun q hq0 hq1 hq2 => ?_
   have hdt := QiL hlt
   rw [Qac (by omega) (by omega)]
   refine ⟨⟨i + 1, max q r, ?_, by omega, hle2, by omega, by omega, ?_⟩, by first | omega | (dsimp only; omega)⟩
   ·refine Prod.ext ?_ rfl
    dsimp only
    split <;> omega
   ·rw [hdt]; omega
 ·have hie : i = v.l.length := by have := of_decide_eq_false h; omega
  subst hie
  rw [List.take_length] at hr1 hr2
  exact ⟨hle, r, rfl, hr0, hr1, hr2⟩
end
end
section
open Go Go.Proofs
theorem u8eq (c : UInt8) (n : Nat) (hn : n < 256) : ((c.toNat : Int) == (n : Int)) = decide (c = UInt8.ofNat n) := by
 rw [Bool.eq_iff_iff]; simp only [decide_eq_true_eq, beq_iff_eq]
 constructor
 ·intro h; exact UInt8.toNat_inj.1 (by rw [UInt8.toNat_ofNat']; omega)
 ·rintro rfl; rw [UInt8.toNat_ofNat']; omega
theorem e48 (c : UInt8) : ((c.toNat : Int) == 48) = decide (c = 48) := u8eq c 48 (by omega)
theorem Qjt {α : Type} {p : α → Bool} {s : List α} {i : Nat} (h : i < s.length) : (s.take (i + 1)).all p = ((s.take i).all p && p s[i]) := by
 rw [List.take_add_one, List.getElem?_eq_getElem h, Option.toList_some, List.all_append]; simp
theorem QkT {α : Type} {p : α → Bool} {s : List α} {x : α} (h : x ∈ s) (hp : p x = false) : s.all p = false := by
 rw [List.all_eq_false]; exact ⟨x, h, by simp [hp]⟩
theorem getE {s : Str} {i : Nat} (h : i < s.length) : s[((i : Nat) : Int).toNat]? = some s[i] := by simp [h]
theorem getL {s : Str} (h : 0 < s.length) {x : Int} (hx : x = (s.length : Int) - 1) : s[x.toNat]? = some (s.getLast (List.ne_nil_of_length_pos h)) := by
 subst hx
 have : ((s.length : Int) - 1).toNat = s.length - 1 := by omega
 rw [this, List.getElem?_eq_getElem (by omega), List.getLast_eq_getElem]
section
variable {C : Ctx} {H : Heap}
theorem QeU {s : Str} {K : Bool → Heap → Prop} (hs : s.length ≤ 140737488355328) (k : K (nameS s) H) : Qa2 C s K H := by
 apply QgN
 unfold QeS
 refine ⟨fun b H' => H = H' ∧ b = (s.isEmpty || decide (s.length > 32) || decide ((s.headD 0).toNat < 97)), ?_, ?_⟩
 ·refine ift.of (fun h => ⟨rfl, ?_⟩) (fun h => ?_)
  ·simp only [Bool.or_eq_true, decide_eq_true_eq, beq_iff_eq] at h
   rcases h with rfl | h
   ·rfl
   ·have : decide (s.length > 32) = true := by rw [decide_eq_true_eq]; omega
    rw [this]; simp
  ·cases s with
   | nil => simp at h
   | cons c t =>
    refine ⟨c, by omega, rfl, rfl, ?_⟩
    simp only [Bool.or_eq_false_iff, decide_eq_false_iff_not] at h
    have : decide ((c :: t).length > 32) = false := by rw [decide_eq_false_iff_not]; omega
    rw [this]
    simp only [List.isEmpty_cons, Bool.false_or, List.headD_cons]
    exact (decide_eq_decide.2 (by omega) : decide ((c.toNat : Int) < 97) = decide (c.toNat < 97))
 rintro b _ ⟨rfl, rfl⟩
 refine ⟨fun b H' => H = H' ∧ b = (s.isEmpty || decide (s.length > 32) || !lowC (s.headD 0)), ?_, ?_⟩
 ·refine ift.of (fun h => ⟨rfl, ?_⟩) (fun h => ?_)
  ·simp only [Bool.or_eq_true, decide_eq_true_eq] at h
   rcases h with (h | h) | h
   ·rw [h]; rfl
   ·have : decide (s.length > 32) = true := by rw [decide_eq_true_eq]; omega
    rw [this]; simp
   ·have : lowC (s.headD 0) = false := by unfold lowC; rw [decide_eq_false (by omega)]; rfl
    rw [this]; simp
  ·simp only [Bool.or_eq_false_iff, decide_eq_false_iff_not] at h
   cases s with
   | nil => simp at h
   | cons c t =>
    refine ⟨c, by omega, rfl, rfl, ?_⟩
    have : decide ((c :: t).length > 32) = false := by rw [decide_eq_false_iff_not]; omega
    rw [this]
    simp only [List.isEmpty_cons, Bool.false_or, List.headD_cons] at h ⊢
    unfold lowC
    rw [decide_eq_true (by omega : 97 ≤ c.toNat), Bool.true_and, ← decide_not, decide_eq_decide]; omega
 rintro b _ ⟨rfl, rfl⟩
 refine ift.of (fun h => ?_) (fun h => ?_)
 ·have : nameS s = false := by
   unfold nameS
   simp only [Bool.or_eq_true, decide_eq_true_eq, Bool.not_eq_true'] at h
   rcases h with (h | h) | h
   ·rw [h]; rfl
   ·have : decide (s.length ≤ 32) = false := by rw [decide_eq_false_iff_not]; omega
    rw [this]; simp
   ·rw [h]; simp
  rw [this] at k; exact k
 have hn : nameS s = s.all nameC := by
  unfold nameS
  simp only [Bool.or_eq_false_iff, decide_eq_false_iff_not, Bool.not_eq_false'] at h
  have : decide (s.length ≤ 32) = true := by rw [decide_eq_true_eq]; omega
  rw [h.1.1, this, h.2]; simp
 refine ⟨fun x H' => ∃ i : Nat, x = (i : Int) ∧ i ≤ s.length ∧ H = H' ∧ (s.take i).all nameC = true, fun x _ => s.length - x.toNat, ⟨0, rfl, Nat.zero_le _, rfl, rfl⟩, ?_⟩
 rintro x _ ⟨i, rfl, hi, rfl, ha⟩
 refine ift.of (fun h => ?_) (fun h => ?_)
 ·have hlt : i < s.length := by have := of_decide_eq_true h; omega
  refine ⟨s[i], by omega, getE hlt, ?_⟩
  dsimp only
  have hm := List.getElem_mem hlt
  have hat := Qjt (p := nameC) hlt
  generalize s[i] = c at *
  have e : (!(((((decide ((c.toNat : Int) ≥ 97)) && (decide ((c.toNat : Int) ≤ 122))) || ((decide ((c.toNat : Int) ≥ 65)) && (decide ((c.toNat : Int) ≤ 90)))) || ((decide ((c.toNat : Int) ≥ 48)) && (decide ((c.toNat : Int) ≤ 57)))) || ((c.toNat : Int) == 95))) = !nameC c := by
   unfold nameC lowC
   have h0 : decide ((c.toNat : Int) ≥ 97) = decide (97 ≤ c.toNat) := by rw [decide_eq_decide]; omega
   have h01 : decide ((c.toNat : Int) ≤ 122) = decide (c.toNat ≤ 122) := by rw [decide_eq_decide]; omega
   have h1 : decide ((c.toNat : Int) ≥ 65) = decide (65 ≤ c.toNat) := by rw [decide_eq_decide]; omega
   have h2 : decide ((c.toNat : Int) ≤ 90) = decide (c.toNat ≤ 90) := by rw [decide_eq_decide]; omega
   have h3 : decide ((c.toNat : Int) ≥ 48) = decide (48 ≤ c.toNat) := by rw [decide_eq_decide]; omega
   have h4 : decide ((c.toNat : Int) ≤ 57) = decide (c.toNat ≤ 57) := by rw [decide_eq_decide]; omega
   have h5 : ((c.toNat : Int) == 95) = decide (c.toNat = 95) := by
    rw [Bool.eq_iff_iff]; simp only [beq_iff_eq, decide_eq_true_eq]; omega
   rw [h0, h01, h1, h2, h3, h4, h5]
  rw [e]
  refine ift.of (fun h => ?_) (fun h => ?_)
  ·rw [hn, QkT hm (by simpa using h)] at k; exact k
  ·rw [Qac (by omega) (by omega)]
   refine ⟨⟨i + 1, by omega, by omega, rfl, ?_⟩, by first | omega | (dsimp only; omega)⟩
   rw [hat, ha]; simpa using h
 ·have hie : i = s.length := by have := of_decide_eq_false h; omega
  rw [hie, List.take_length] at ha
  rw [hn, ha] at k; exact k
end
end
section
open Go Go.Proofs
theorem Qgt (c : UInt8) : ∀ s : Str, (Lib.indexByte s c = -1 ∧ c ∉ s) ∨ ∃ k : Nat, Lib.indexByte s c = (k : Int) ∧ ∃ a b, s = a ++ c :: b ∧ a.length = k ∧ c ∉ a
 | [] => .inl ⟨rfl, by simp⟩
 | b :: s => by
  unfold Lib.indexByte
  by_cases h : b = c
  ·subst h
   exact .inr ⟨0, by simp, [], s, rfl, rfl, by simp⟩
  ·have hb : (b == c) = false := by simpa using h
   rw [hb]
   rcases Qgt c s with ⟨h1, h2⟩ | ⟨k, h1, a, d, h2, h3, h4⟩
   ·left
    rw [h1]
    refine ⟨by simp, by simp [h2, Ne.symm h]⟩
   ·right
    refine ⟨k + 1, ?_, b :: a, d, by rw [h2]; rfl, by simp [h3], by simp [h4, Ne.symm h]⟩
    rw [h1]
    have : ((k : Int) == -1) = false := by rw [beq_eq_false_iff_ne]; omega
    simp [this]
def setD (cs : List Value) (l : Str) : List Value := l.foldl (fun cs c => cs.set c.toNat (.bool true)) cs
def setD0 : List Value := List.replicate 256 (.bool false)
def digS : Str := [48, 49, 50, 51, 52, 53, 54, 55, 56, 57]
theorem Qij (l : Str) : ∀ cs, (setD cs l).length = cs.length := by
 induction l with
 | nil => intro cs; rfl
 | cons c l ih => intro cs; simp only [setD, List.foldl_cons] at ih ⊢; rw [ih]; simp
theorem Qjh (l : Str) (c : UInt8) (cs : List Value) : setD cs (l ++ [c]) = (setD cs l).set c.toNat (.bool true) := by simp [setD]
theorem Qkg (l : Str) : ∀ cs : List Value, cs.all Value.oneCell' = true → (setD cs l).all Value.oneCell' = true := by
 induction l with
 | nil => intro cs h; exact h
 | cons c l ih =>
  intro cs h
  simp only [setD, List.foldl_cons] at ih ⊢
  refine ih _ ?_
  rw [List.all_eq_true] at h ⊢
  intro x hx
  rcases List.mem_or_eq_of_mem_set hx with hx | rfl
  ·exact h x hx
  ·rfl
theorem QjX : ∀ n : Nat, n < 256 → (match (setD setD0 digS)[n]? with | some (.bool b) => b == (decide (48 ≤ n) && decide (n ≤ 57)) | _ => false) = true := by decide +kernel
theorem QjW (c : UInt8) : (setD setD0 digS)[c.toNat]? = some (.bool (digC c)) := by
 have h := QjX c.toNat c.toBitVec.isLt
 unfold digC
 generalize (setD setD0 digS)[c.toNat]? = o at *
 cases o with
 | none => simp at h
 | some v => cases v <;> simp at h ⊢; exact h
section
variable {C : Ctx} {H : Heap}
theorem QdH {s p : Str} {K : Bool → Heap → Prop} (k : K (p.isPrefixOf s) H) : Qk C s p K H := by
 apply Qa8
 unfold Q7
 refine ⟨fun b H' => H = H' ∧ b = p.isPrefixOf s, ?_, ?_⟩
 ·refine ift.of (fun h => ?_) (fun h => ⟨rfl, ?_⟩)
  ·have hl : p.length ≤ s.length := by have := of_decide_eq_true h; omega
   refine ⟨by omega, by omega, by omega, s.take p.length, by simp, rfl, ?_⟩
   rw [Bool.eq_iff_iff, List.isPrefixOf_iff_prefix, beq_iff_eq, List.prefix_iff_eq_take]
   exact ⟨fun h => h.symm, fun h => h.symm⟩
  ·have hl := of_decide_eq_false h
   cases hh : p.isPrefixOf s with
   | false => rfl
   | true =>
    have := (List.isPrefixOf_iff_prefix.1 hh).length_le
    omega
 ·rintro b _ ⟨rfl, rfl⟩
  exact k
theorem Qha {s p : Str} {K : Str → Heap → Prop} (k : K (if p.isPrefixOf s then s.drop p.length else s) H) : QaP C s p K H := by
 apply QdE
 unfold Qbw
 apply Qa5
 unfold QW
 refine QdH ?_
 refine ift.of (fun h => ?_) (fun h => ?_)
 ·rw [if_pos h] at k
  have := (List.isPrefixOf_iff_prefix.1 h).length_le
  exact ⟨by omega, by omega, by omega, _, by simp, k⟩
 ·rw [if_neg (by rw [h]; decide)] at k; exact k
theorem QiH {s : Str} {K : Str → Str → Bool → Heap → Prop} (hs : s.length ≤ 140737488355328) (k : match cutD s with | some (a, b) => K a b true H | none => K s [] false H) : Qc9 C s [46] K H := by
 apply Qgh
 unfold Qee
 apply QbN
 unfold QaG
 have key : ∀ {K : Int → Heap → Prop}, K (Lib.indexByte s 46) H → QO C s [46] K H := by
  intro K k
  apply Qbx
  unfold Qao
  refine ift.of (fun h => ?_) (fun h => ?_)
  ·have hs : [46] = s := by simpa using h
   subst hs
   exact k
  ·refine Qq rfl ⟨46, by omega, rfl, ?_⟩
   apply Qa9
   unfold Q8
   exact k
 refine key ?_
 rcases Qgt 46 s with ⟨h1, h2⟩ | ⟨i, h1, a, b, h2, h3, h4⟩
 ·rw [h1]
  rw [QhO s h2] at k
  exact Qh rfl k
 ·rw [h1]
  subst h2
  rw [QhN a b h4] at k
  subst h3
  simp only [List.length_append, List.length_cons] at hs
  refine Qq (by rw [decide_eq_true_eq]; omega) ?_
  refine ⟨by omega, by omega, by simp; omega, a, by simp, ?_⟩
  have e1 : (([46] : Str).length : Int) = 1 := rfl
  rw [e1, Qac (by omega) (by omega)]
  refine ⟨by omega, by simp; omega, by omega, b, ?_, k⟩
  have e2 : ((a.length : Int) + 1).toNat = a.length + 1 := by omega
  rw [List.take_of_length_le (by omega), e2, List.drop_append]
  simp
/-- the set of digits -/
def DSet (H : Heap) (b : Nat) : Prop := H b = some (true, .row (setD setD0 digS))
theorem QfL {b : Nat} {c : UInt8} {K : Bool → Heap → Prop} (h : DSet H b) (k : K (digC c) H) : QE C (some (b, 0)) (c.toNat : Int) K H := by
 apply QbK
 unfold Qax
 refine ⟨(b, 0), rfl, by omega, by have := c.toBitVec.isLt; have : c.toNat < 256 := this; omega, digC c, ?_, k⟩
 rw [Qbh h]
 have := QjW c
 simpa using this
theorem Qj1 {b : Nat} {s : Str} {K : Str → Heap → Prop} (hs : s.length ≤ 140737488355328) (h : DSet H b) (k : ∀ t, t.length ≤ s.length → t.all digC = s.all digC → K t H) : Qaf C s (some (b, 0)) K H := by
 apply Qcy
 unfold QaT
 refine ⟨fun t H' => H = H' ∧ t.length ≤ s.length ∧ t.all digC = s.all digC, ?_, ?_⟩
 rotate_left
 ·rintro t _ ⟨rfl, h1, h2⟩
  exact k t h1 h2
 refine ⟨fun t H' => H = H' ∧ t.length ≤ s.length ∧ t.all digC = s.all digC, fun t _ => t.length, ⟨rfl, Nat.le_refl _, rfl⟩, ?_⟩
 rintro t _ ⟨rfl, h1, h2⟩
 refine ift.of (fun hh => ?_) (fun hh => ⟨rfl, h1, h2⟩)
 have hl : 0 < t.length := by have := of_decide_eq_true hh; omega
 have hne := List.ne_nil_of_length_pos hl
 have hd : t.dropLast ++ [t.getLast hne] = t := List.dropLast_concat_getLast hne
 rw [Qac (by omega) (by omega)]
 refine ⟨t.getLast hne, by omega, getL hl rfl, ?_⟩
 refine QfL h ?_
 refine ift.of (fun hc => ⟨rfl, h1, h2⟩) (fun hc => ?_)
 have e1 : (t.take ((t.length : Int) - 1).toNat).drop (0 : Int).toNat = t.dropLast := by
  have : ((t.length : Int) - 1).toNat = t.length - 1 := by omega
  rw [this, List.dropLast_eq_take]; simp
 refine ⟨by omega, by omega, by omega, _, e1.symm, ?_⟩
 have hdl := List.length_dropLast (xs := t)
 refine ⟨⟨rfl, by omega, ?_⟩, by dsimp only; omega⟩
 rw [← h2]
 conv => rhs; rw [← hd]
 rw [List.all_append]
 simp at hc
 simp [hc]
theorem Qj0 {b : Nat} {s : Str} {K : Str → Heap → Prop} (hs : s.length ≤ 140737488355328) (h : DSet H b) (k : ∀ t, t.all digC = s.all digC → (t = [] ∨ t.all digC = false) → K t H) : Qaj C s (some (b, 0)) K H := by
 apply QcL
 unfold Qa3
 refine ⟨fun t H' => H = H' ∧ t.all digC = s.all digC ∧ (t = [] ∨ t.all digC = false), ?_, ?_⟩
 rotate_left
 ·rintro t _ ⟨rfl, h1, h2⟩
  exact k t h1 h2
 refine ⟨fun t H' => H = H' ∧ t.length ≤ s.length ∧ t.all digC = s.all digC, fun t _ => t.length, ⟨rfl, Nat.le_refl _, rfl⟩, ?_⟩
 rintro t _ ⟨rfl, h1, h2⟩
 cases t with
 | nil => exact Qh rfl ⟨rfl, h2, .inl rfl⟩
 | cons c t =>
  refine Qq (by rw [decide_eq_true_eq]; simp only [List.length_cons]; omega) ?_
  refine ⟨c, by omega, rfl, ?_⟩
  refine QfL h ?_
  refine ift.of (fun hc => ⟨rfl, h2, .inr ?_⟩) (fun hc => ?_)
  ·simp at hc; simp [hc]
  ·refine ⟨by omega, by simp only [List.length_cons]; omega, by omega, t, ?_, ⟨rfl, by simp only [List.length_cons] at h1; omega, ?_⟩, by simp⟩
   ·rw [List.take_of_length_le (by omega)]; rfl
   ·rw [← h2]; simp at hc; simp [hc]
theorem Qg0 {K : List Value → Bool → Heap → Prop} (k : K (setD setD0 digS) true H) : Qu C digS K H := by
 apply Qu.gh
 apply Qc2
 unfold Qbl
 intro b n
 refine ⟨fun x H' => ∃ i : Nat, x = (i : Int) ∧ i ≤ 10 ∧ H' = H.put b (.row (setD setD0 (digS.take i))), fun x _ => 10 - x.toNat, ⟨0, rfl, by omega, rfl⟩, ?_⟩
 rintro x _ ⟨i, rfl, hi, rfl⟩
 have hlen : (setD setD0 (digS.take i)).length = 256 := by rw [Qij]; simp [setD0]
 refine ift.of (fun h => ?_) (fun h => ?_)
 ·have hlt : i < digS.length := by have := of_decide_eq_true h; omega
  have hlt' : i < 10 := hlt
  refine ⟨digS[i], by omega, getE hlt, ?_⟩
  have hm : ∀ c ∈ digS, c.toNat < 128 := by decide
  have h128 := hm _ (List.getElem_mem hlt)
  have htk : digS.take (i + 1) = digS.take i ++ [digS[i]] := by rw [List.take_add_one, List.getElem?_eq_getElem hlt]; rfl
  generalize digS[i] = c at *
  refine Qh (by rw [decide_eq_false_iff_not]; omega) ?_
  refine ⟨by omega, by omega, _, Heap.put_same .., by rw [hlen]; simp; omega, ?_⟩
  rw [Qac (by omega) (by omega), Heap.put_put]
  refine ⟨⟨i + 1, by omega, by omega, ?_⟩, by first | omega | (dsimp only; omega)⟩
  rw [htk, Qjh]
  have : (b, 0).2 + (c.toNat : Int).toNat * 1 = c.toNat := by simp
  rw [this]
 ·have hi10 : i = 10 := by have := of_decide_eq_false h; have : digS.length = 10 := rfl; omega
  subst hi10
  have e : digS.take 10 = digS := rfl
  rw [e] at hlen ⊢
  have hr : ∀ {B : Heap}, B b = some (true, .row (setD setD0 digS)) → rds B (b, 0) (setD setD0 digS) := fun h => QdK h fun j v hj => by simpa using hj
  refine ⟨_, hlen, hr (Heap.put_same ..), hlen, Qkg _ _ (by decide +kernel), _, Heap.put_same .., by simp, ?_⟩
  have esp : splice (setD setD0 digS) (b, 0).2 (setD setD0 digS) = setD setD0 digS := by
   unfold splice; simp
  rw [esp, Heap.put_put]
  exact ⟨_, hlen, hr (Heap.put_same ..), H, Gh.le (Heap.le_put n), k⟩
theorem Qiy {s : Str} {K : Str → Heap → Prop} (hs : s.length ≤ 140737488355328) (k : ∀ t, (t = [] ↔ s.all digC = true) → K t H) : Qaa C s digS K H := by
 apply Qaa.gh
 apply QfH
 unfold QdR
 refine ift.of (fun h => ?_) (fun h => ?_)
 ·have : s = [] := by simpa [digS] using h
  subst this
  exact ⟨H, Gh.refl _, k [] (by simp)⟩
 refine ⟨fun b H' => H = H' ∧ b = false, Qh rfl ⟨rfl, rfl⟩, ?_⟩
 rintro _ _ ⟨rfl, rfl⟩
 refine Qh rfl ?_
 refine Qg0 ?_
 intro b n
 have hlen : (setD setD0 digS).length = 256 := by rw [Qij]; simp [setD0]
 refine ⟨hlen, Qkg _ _ (by decide +kernel), _, Heap.put_same .., by rw [hlen]; simp, ?_⟩
 have esp : splice (List.replicate 256 (.bool false : Value)) (b, 0).2 (setD setD0 digS) = setD setD0 digS := by
  unfold splice; simp [hlen]
 rw [esp, Heap.put_put]
 refine Qq rfl ?_
 refine Qj1 hs (Heap.put_same ..) fun t ht1 ht2 => ?_
 refine Qj0 (by omega) (Heap.put_same ..) fun u hu1 hu2 => ?_
 refine ⟨H, Gh.le (Heap.le_put n), k u ?_⟩
 rw [← ht2, ← hu1]
 constructor
 ·rintro rfl; rfl
 ·intro h
  rcases hu2 with h2 | h2
  ·exact h2
  ·rw [h] at h2; cases h2
theorem Qf7 {s : Str} {K : Int → Bool → Heap → Prop} (hs : s.length ≤ 140737488355328) (k : K (if numS s then (digits s : Int) else 0) (numS s) H) : QcD C s K H := by
 apply QfI
 unfold QdS
 refine Qha ?_
 have e : (if ([45] : Str).isPrefixOf s then s.drop ([45] : Str).length else s) = unmin s := by
  unfold unmin
  cases s with
  | nil => rfl
  | cons c t =>
   by_cases hc : c = 45
   ·subst hc; simp [List.isPrefixOf]
   ·simp [List.isPrefixOf, hc, Ne.symm hc]
 rw [e]
 have hul : (unmin s).length ≤ s.length := by unfold unmin; split <;> simp
 have hdg : digits s = (unmin s).length := rfl
 have hnu : numS s = (!(unmin s).isEmpty && (unmin s).all digC && !(decide ((unmin s).head? = some 48) && decide (s ≠ [48]))) := rfl
 rw [hdg, hnu] at k
 clear hdg hnu e
 generalize unmin s = d at *
 refine ⟨fun b H' => H = H' ∧ b = !(!d.isEmpty && d.all digC), ?_, ?_⟩
 ·refine ift.of (fun h => ⟨rfl, ?_⟩) (fun h => ?_)
  ·have : d = [] := by simpa using h
   subst this; rfl
  ·have hne : d ≠ [] := by simpa using h
   refine Qiy (by omega) fun t ht => ⟨rfl, ?_⟩
   have he : d.isEmpty = false := by cases d with
    | nil => exact absurd rfl hne
    | cons _ _ => rfl
   rw [he]
   cases hd : d.all digC with
   | true => rw [ht.2 hd]; rfl
   | false =>
    have : t ≠ [] := fun e => by rw [ht.1 e] at hd; cases hd
    simpa using this
 rintro b _ ⟨rfl, rfl⟩
 refine ⟨fun b H' => H = H' ∧ b = !(!d.isEmpty && d.all digC && !(decide (d.head? = some 48) && decide (s ≠ [48]))), ?_, ?_⟩
 ·refine ift.of (fun h => ⟨rfl, ?_⟩) (fun h => ?_)
  ·simp only [Bool.not_eq_true'] at h
   rw [h]; rfl
  ·simp only [Bool.not_eq_false'] at h
   rw [h]
   cases d with
   | nil => simp at h
   | cons c t =>
    refine ⟨c, by omega, rfl, rfl, ?_⟩
    rw [e48]
    simp only [List.head?_cons, Option.some.injEq, Bool.true_and, Bool.not_not]
    congr 1
    rw [decide_not]; congr 1
    rw [Bool.eq_iff_iff]; simp
 rintro b _ ⟨rfl, rfl⟩
 refine ift.of (fun h => ?_) (fun h => ?_)
 ·simp only [Bool.not_eq_true'] at h
  rw [h] at k; exact k
 ·simp only [Bool.not_eq_false'] at h
  rw [h] at k; exact k
end
end
section
open Go Go.Proofs
section
variable {C : Ctx} {H : Heap}
theorem sEmpty {s : Str} : (s == ([] : Str)) = s.isEmpty := by cases s <;> rfl
theorem lenZ {l : List V} {n : Nat} (h : n = l.length) (m : Nat) : ((n : Int) == (m : Int)) = decide (l.length = m) := by
 rw [Bool.eq_iff_iff]; simp only [beq_iff_eq, decide_eq_true_eq]; omega
theorem Qi2 {k n : Int} {s : Str} {m : Nat} (h : okN k n s m = true) (hk : k = 3) : numS s = true := by
 unfold okN at h
 rw [if_neg (by omega), if_neg (by omega), if_pos hk] at h
 simp only [Bool.and_eq_true] at h
 exact h.1.1
end
end
section
open Go Go.Proofs
theorem QiX (s : Str) : namesS s = (match cutD s with | some (a, b) => nameS a && nameS b | none => nameS s && !decide (s = trueS) && !decide (s = falseS)) := by
 unfold namesS
 by_cases ht : s = trueS
 ·subst ht; rfl
 by_cases hf : s = falseS
 ·subst hf; rfl
 rw [if_neg (fun h => h.elim ht hf)]
 cases hc : cutD s with
 | none => simp [ht, hf]
 | some p => rfl
section
variable {C : Ctx} {H : Heap}
theorem Qkv {v : V} {x : TV} {H : Heap} {K : Bool → Bool → Heap → Prop} (hv : VIs H v x) (hB : VB v) (k : ∀ g, (formV v = true → g = fitsV v) → K (formV v) g H) : Qy C x K H := by
 refine V.rec_ (P := fun v => ∀ {x H} {K : Bool → Bool → Heap → Prop}, VIs H v x → VB v → (∀ g, (formV v = true → g = fitsV v) → K (formV v) g H) → Qy C x K H) (fun v ih => ?_) v hv hB k
 clear hv hB k
 intro x H K hv hB k
 apply Qy.gh
 apply Qez
 unfold Qcu
 intro b1 n1
 have hr := hv.row
 have hl := hr.len
 have hbl := hB.l
 have hbs := hB.s
 have hk := hv.kind
 have hn := hv.num
 have ht := hv.txt
 have hb1 : (H.put b1 (.row (Qa.c x))) b1 = some (true, .row (Qa.c x)) := Heap.put_same ..
 have hle1 := Heap.le_put n1 (g := .row (Qa.c x)) (m := true)
 generalize H.put b1 (.row (Qa.c x)) = H1 at *
 refine bxN hb1 ?_
 refine ⟨fun b H' => H1 = H', ?_, ?_⟩
 ·exact ift.of (fun _ => bxS hb1 rfl) (fun _ => rfl)
 rintro _ _ rfl
 refine ⟨fun b H' => H1 = H', ?_, ?_⟩
 ·exact ift.of (fun _ => bxL hb1 rfl) (fun _ => rfl)
 rintro _ _ rfl
 refine ⟨fun b H' => H1 = H' ∧ b.1 = okN v.k v.n v.s v.l.length ∧ (b.1 = true → b.2 = fitN v.k v.s v.l.length), ?_, ?_⟩
 rotate_left
 ·rintro ⟨o, g⟩ _ ⟨rfl, ho, hg⟩
  dsimp only at ho hg ⊢
  subst ho
  refine bxL hb1 ?_
  refine ⟨fun y H' => ∃ i : Nat, y.2.2 = (i : Int) ∧ i ≤ v.l.length ∧ H.le H' ∧ y.1 = (okN v.k v.n v.s v.l.length && formVs (v.l.take i)) ∧ (y.1 = true → y.2.1 = (fitN v.k v.s v.l.length && fitsVs (v.l.take i))), fun y _ => v.l.length - y.2.2.toNat, ⟨0, rfl, Nat.zero_le _, hle1, by simp [formVs], fun h => by simp [fitsVs, hg h]⟩, ?_⟩
  rintro ⟨f, g', y⟩ H2 ⟨i, hy, hi, hle, h1, h2⟩
  dsimp only at hy h1 h2
  subst hy
  dsimp only
  rw [hl]
  refine ift.of (fun h => ?_) (fun h => ?_)
  ·have hlt : i < v.l.length := by have := of_decide_eq_true h; omega
   have hmem := List.getElem_mem hlt
   refine hr.ld hle rfl hlt fun z hz => ?_
   intro b20 n20
   refine ⟨_, Heap.put_same .., by simp [Qa.c], ?_⟩
   rw [Heap.put_put]
   have esp : splice (Qa.c Qa.zero) (b20, 0).2 (Qa.c z) = Qa.c z := rfl
   rw [esp]
   have hle2 := hle.trans (Heap.le_put n20 (g := .row (Qa.c z)) (m := true))
   refine bxV (Heap.put_same ..) ?_
   refine ih _ hmem (hz.le hle2) (hB.at hlt) fun q hq => ?_
   rw [Qac (by omega) (by omega)]
   refine ⟨⟨i + 1, by omega, by omega, hle2, ?_, fun hh => ?_⟩, by first | omega | (dsimp only; omega)⟩
   ·rw [h1, QhS hlt, Bool.and_assoc]
   ·rw [Bool.and_eq_true] at hh
    rw [h2 hh.1, QhR hlt, hq hh.2, Bool.and_assoc]
  ·have hie : i = v.l.length := by have := of_decide_eq_false h; omega
   subst hie
   rw [List.take_length] at h1 h2
   rw [← Qfy] at h1
   rw [← QjE] at h2
   refine ⟨H, Gh.le hle, ?_⟩
   rw [h1] at h2 ⊢
   exact k g' h2
 refine bxK hb1 ?_
 rw [hk]
 refine ift.of (fun h => ?_) (fun h => ?_)
 ·have h : v.k = 1 := by simpa using h
  have eo : okN v.k v.n v.s v.l.length = ((v.n == 0 || v.n == 1) && v.s.isEmpty && decide (v.l.length = 0)) := by rw [h]; rfl
  have ef : fitN v.k v.s v.l.length = true := by rw [h]; rfl
  rw [eo, ef]
  refine bxN hb1 ?_
  refine ⟨fun b H' => H1 = H' ∧ b = (v.n == 0 || v.n == 1), ?_, ?_⟩
  ·rw [hn]
   refine ift.of (fun h => ⟨rfl, by rw [h]; rfl⟩) (fun h => ?_)
   refine bxN hb1 ⟨rfl, ?_⟩
   rw [h, hn]; rfl
  rintro _ _ ⟨rfl, rfl⟩
  refine ⟨fun b H' => H1 = H' ∧ b = ((v.n == 0 || v.n == 1) && v.s.isEmpty), ?_, ?_⟩
  ·refine ift.of (fun h => ?_) (fun h => ⟨rfl, by rw [h]; rfl⟩)
   refine bxS hb1 ⟨rfl, ?_⟩
   rw [h, ht, sEmpty]; rfl
  rintro _ _ ⟨rfl, rfl⟩
  refine ⟨fun b H' => H1 = H' ∧ b = ((v.n == 0 || v.n == 1) && v.s.isEmpty && decide (v.l.length = 0)), ?_, ?_⟩
  ·refine ift.of (fun h => ?_) (fun h => ⟨rfl, by rw [h]; rfl⟩)
   refine bxL hb1 ⟨rfl, ?_⟩
   rw [h]; exact lenZ hl 0
  rintro _ _ ⟨rfl, rfl⟩
  exact ⟨rfl, rfl, fun _ => rfl⟩
 have g1 : v.k ≠ 1 := by simpa using h
 refine ift.of (fun h => ?_) (fun h => ?_)
 ·have h : v.k = 2 := by simpa using h
  have eo : okN v.k v.n v.s v.l.length = (v.s.isEmpty && decide (v.l.length = 0)) := by rw [h]; rfl
  have ef : fitN v.k v.s v.l.length = true := by rw [h]; rfl
  rw [eo, ef]
  refine bxS hb1 ?_
  refine ⟨fun b H' => H1 = H' ∧ b = (v.s.isEmpty && decide (v.l.length = 0)), ?_, ?_⟩
  ·rw [ht, sEmpty]
   refine ift.of (fun h => ?_) (fun h => ⟨rfl, by rw [h]; rfl⟩)
   refine bxL hb1 ⟨rfl, ?_⟩
   rw [h]; exact lenZ hl 0
  rintro _ _ ⟨rfl, rfl⟩
  exact ⟨rfl, rfl, fun _ => rfl⟩
 have g2 : v.k ≠ 2 := by simpa using h
 refine ift.of (fun h => ?_) (fun h => ?_)
 ·have h : v.k = 3 := by simpa using h
  have eo : okN v.k v.n v.s v.l.length = (numS v.s && v.n == 0 && decide (v.l.length = 0)) := by rw [h]; rfl
  have ef : fitN v.k v.s v.l.length = decide (digits v.s ≤ 200) := by rw [h]; rfl
  rw [eo, ef]
  refine bxS hb1 ?_
  rw [ht]
  refine Qf7 hbs ?_
  refine ⟨fun b H' => H1 = H' ∧ b = (numS v.s && v.n == 0), ?_, ?_⟩
  ·refine ift.of (fun h => ?_) (fun h => ⟨rfl, by rw [h]; rfl⟩)
   refine bxN hb1 ⟨rfl, ?_⟩
   rw [h, hn]; rfl
  rintro _ _ ⟨rfl, rfl⟩
  refine ⟨fun b H' => H1 = H' ∧ b = (numS v.s && v.n == 0 && decide (v.l.length = 0)), ?_, ?_⟩
  ·refine ift.of (fun h => ?_) (fun h => ⟨rfl, by rw [h]; rfl⟩)
   refine bxL hb1 ⟨rfl, ?_⟩
   rw [h]; exact lenZ hl 0
  rintro _ _ ⟨rfl, rfl⟩
  refine ⟨rfl, rfl, fun hh => ?_⟩
  dsimp only at hh ⊢
  simp only [Bool.and_eq_true] at hh
  rw [hh.1.1, if_pos rfl, decide_eq_decide]; omega
 have g3 : v.k ≠ 3 := by simpa using h
 refine ift.of (fun h => ?_) (fun h => ?_)
 ·have h : v.k = 4 := by simpa using h
  have eo : okN v.k v.n v.s v.l.length = (v.n == 0 && decide (v.l.length = 0)) := by rw [h]; rfl
  have ef : fitN v.k v.s v.l.length = decide (v.s.length ≤ 4096) := by rw [h]; rfl
  rw [eo, ef]
  have ed : decide ((v.s.length : Int) ≤ 4096) = decide (v.s.length ≤ 4096) := by rw [decide_eq_decide]; omega
  refine ⟨fun b H' => H1 = H' ∧ b = ((v.n == 0 && decide (v.l.length = 0)), decide (v.s.length ≤ 4096)), ?_, ?_⟩
  ·refine ⟨H1, Heap.le.refl _, bxN hb1 (bxS hb1 ?_)⟩
   rw [hn, ht, ed]
   refine ift.of (fun h => ?_) (fun h => ⟨rfl, by rw [h]; rfl⟩)
   refine bxL hb1 ⟨rfl, ?_⟩
   rw [h, show ((x.L.len : Int) == 0) = decide (v.l.length = 0) from lenZ hl 0]; rfl
  rintro _ _ ⟨rfl, rfl⟩
  exact ⟨rfl, rfl, fun _ => rfl⟩
 have g4 : v.k ≠ 4 := by simpa using h
 refine ift.of (fun h => ?_) (fun h => ?_)
 ·have h : v.k = 5 := by simpa using h
  have eo : okN v.k v.n v.s v.l.length = (v.n == 0 && v.s.isEmpty && decide (v.l.length ≠ 1)) := by rw [h]; rfl
  have ef : fitN v.k v.s v.l.length = decide (v.l.length ≤ 16) := by rw [h]; rfl
  rw [eo, ef]
  have ed : decide ((x.L.len : Int) ≤ 16) = decide (v.l.length ≤ 16) := by rw [decide_eq_decide]; omega
  refine ⟨fun b H' => H1 = H' ∧ b = ((v.n == 0 && v.s.isEmpty && decide (v.l.length ≠ 1)), decide (v.l.length ≤ 16)), ?_, ?_⟩
  ·refine ⟨H1, Heap.le.refl _, bxN hb1 (bxL hb1 ?_)⟩
   rw [hn, ed]
   refine ift.of (fun h => ?_) (fun h => ⟨rfl, by rw [h]; rfl⟩)
   refine bxS hb1 ?_
   rw [ht, sEmpty]
   refine ift.of (fun h2 => ?_) (fun h2 => ⟨rfl, by rw [h2]; simp⟩)
   refine bxL hb1 ⟨rfl, ?_⟩
   rw [h, h2, bne, show ((x.L.len : Int) == 1) = decide (v.l.length = 1) from lenZ hl 1, decide_not]; rfl
  rintro _ _ ⟨rfl, rfl⟩
  exact ⟨rfl, rfl, fun _ => rfl⟩
 have g5 : v.k ≠ 5 := by simpa using h
 refine ift.of (fun h => ?_) (fun h => ?_)
 ·have h : v.k = 6 := by simpa using h
  have eo : okN v.k v.n v.s v.l.length = (v.n == 0 && namesS v.s) := by rw [h]; rfl
  have ef : fitN v.k v.s v.l.length = decide (v.l.length ≤ 8) := by rw [h]; rfl
  rw [eo, ef]
  have ed : decide ((x.L.len : Int) ≤ 8) = decide (v.l.length ≤ 8) := by rw [decide_eq_decide]; omega
  refine bxS hb1 ?_
  rw [ht]
  refine QiH hbs ?_
  have key : ∀ (a b : Str) (two : Bool), a.length ≤ 140737488355328 → b.length ≤ 140737488355328 → namesS v.s = (if two then nameS a && nameS b else nameS a && !decide (v.s = trueS) && !decide (v.s = falseS)) →
   jn (α := Bool × Bool) (fun x118 H119 => H1 = H119 ∧ x118.1 = (v.n == 0 && namesS v.s) ∧ (x118.1 = true → x118.2 = decide (v.l.length ≤ 8)))
    (fun J117 => dr H1 fun Hs121 =>
    ldI Hs121 .i64 ((b1, 0).1, (b1, 0).2 + 1) fun x123 =>
    ldL Hs121 ((b1, 0).1, (b1, 0).2 + 3) fun x125 =>
    ift ((x123 : Int) == 0)
    (Qa2 C a (fun r129 H130 =>
    Heap.le Hs121 H130 ∧
    ift r129
    (ift two
    (Qa2 C b (fun r134 H135 =>
    Heap.le Hs121 H135 ∧
    ift r134
    (J117 (true, (decide (((Sl.len x125 : Int) : Int) ≤ 8))) H135)
    (ift (!two)
    (ldS Hs121 ((b1, 0).1, (b1, 0).2 + 2) fun x138 =>
    ift (!(x138 == ([116, 114, 117, 101] : Str)))
    (ldS Hs121 ((b1, 0).1, (b1, 0).2 + 2) fun x141 =>
    J117 ((!(x141 == ([102, 97, 108, 115, 101] : Str))), (decide (((Sl.len x125 : Int) : Int) ≤ 8))) H135)
    (J117 (false, (decide (((Sl.len x125 : Int) : Int) ≤ 8))) H135))
    (J117 (false, (decide (((Sl.len x125 : Int) : Int) ≤ 8))) H135))) H130)
    (ift (!two)
    (ldS Hs121 ((b1, 0).1, (b1, 0).2 + 2) fun x144 =>
    ift (!(x144 == ([116, 114, 117, 101] : Str)))
    (ldS Hs121 ((b1, 0).1, (b1, 0).2 + 2) fun x147 =>
    J117 ((!(x147 == ([102, 97, 108, 115, 101] : Str))), (decide (((Sl.len x125 : Int) : Int) ≤ 8))) H130)
    (J117 (false, (decide (((Sl.len x125 : Int) : Int) ≤ 8))) H130))
    (J117 (false, (decide (((Sl.len x125 : Int) : Int) ≤ 8))) H130)))
    (J117 (false, (decide (((Sl.len x125 : Int) : Int) ≤ 8))) H130)) H1)
    (J117 (false, (decide (((Sl.len x125 : Int) : Int) ≤ 8))) H1)) := by
   intro a b two ha hb hns
   refine ⟨fun y H' => H1 = H' ∧ y = ((v.n == 0 && namesS v.s), decide (v.l.length ≤ 8)), ?_, ?_⟩
   ·refine ⟨H1, Heap.le.refl _, bxN hb1 (bxL hb1 ?_)⟩
    rw [hn, ed]
    refine ift.of (fun h => ?_) (fun h => ⟨rfl, by rw [h]; rfl⟩)
    refine QeU ha ⟨Heap.le.refl _, ?_⟩
    rw [h, hns]
    refine ift.of (fun h2 => ?_) (fun h2 => ⟨rfl, by rw [h2]; cases two <;> rfl⟩)
    rw [h2]
    have eq : ∀ t : Str, (v.s == t) = decide (v.s = t) := fun t => by rw [Bool.eq_iff_iff]; simp
    cases two with
    | true =>
     refine Qq rfl ?_
     refine QeU hb ⟨Heap.le.refl _, ?_⟩
     exact ift.of (fun h3 => ⟨rfl, by rw [h3]; rfl⟩) (fun h3 => Qh rfl ⟨rfl, by rw [h3]; rfl⟩)
    | false =>
     refine Qh rfl (Qq rfl ?_)
     refine bxS hb1 ?_
     rw [ht, show (v.s == ([116, 114, 117, 101] : Str)) = decide (v.s = trueS) from eq _]
     refine ift.of (fun h3 => ?_) (fun h3 => ⟨rfl, ?_⟩)
     ·refine bxS hb1 ⟨rfl, ?_⟩
      rw [ht, show (v.s == ([102, 97, 108, 115, 101] : Str)) = decide (v.s = falseS) from eq _, h3]; rfl
     ·rw [h3]; rfl
   ·rintro _ _ ⟨rfl, rfl⟩
    exact ⟨rfl, rfl, fun _ => rfl⟩
  have hc := QiX v.s
  cases hcd : cutD v.s with
  | none =>
   rw [hcd] at hc
   exact key _ _ _ hbs (by simp) hc
  | some p =>
   obtain ⟨a, b⟩ := p
   rw [hcd] at hc
   have hlen : a.length ≤ v.s.length ∧ b.length ≤ v.s.length := by
    by_cases hm : (46 : UInt8) ∈ v.s
    ·obtain ⟨a', b', e1, e2⟩ := Qh2 _ hm
     have := QhN a' b' e2
     rw [← e1, hcd] at this
     injection this with this; injection this with h1 h2
     subst h1; subst h2
     rw [e1]; simp; omega
    ·rw [QhO _ hm] at hcd; cases hcd
   exact key _ _ _ (by omega) (by omega) hc
 have g6 : v.k ≠ 6 := by simpa using h
 have eo : okN v.k v.n v.s v.l.length = false := by unfold okN; rw [if_neg g1, if_neg g2, if_neg g3, if_neg g4, if_neg g5, if_neg g6]
 rw [eo]
 exact ⟨rfl, rfl, fun hh => by cases hh⟩
theorem QcK {v : V} {x : TV} {H : Heap} {K : Int → Heap → Prop} (hv : VIs H v x) (hB : VB v) (k : K (checkV v) H) : QP C x K H := by
 apply QP.gh
 apply Qgi
 unfold Qef
 intro b1 n1
 have hb1 : (H.put b1 (.row (Qa.c x))) b1 = some (true, .row (Qa.c x)) := Heap.put_same ..
 have hle1 := Heap.le_put n1 (g := .row (Qa.c x)) (m := true)
 generalize H.put b1 (.row (Qa.c x)) = H1 at *
 unfold checkV at k
 refine bxV hb1 (Qgq (m := 65) (hv.le hle1) hB (by omega) fun r h0 h1 h2 => ?_)
 refine ift.of (fun h => ?_) (fun h => ?_)
 ·have h := of_decide_eq_true h
  rw [if_pos (by omega)] at k
  exact ⟨H, Gh.le hle1, k⟩
 have h := of_decide_eq_false h
 rw [if_neg (by omega)] at k
 refine bxV hb1 (Qkv (hv.le hle1) hB fun g hg => ?_)
 refine ift.of (fun h => ?_) (fun h => ?_)
 ·have h : formV v = false := by simpa using h
  rw [if_pos h] at k
  exact ⟨H, Gh.le hle1, k⟩
 have hf : formV v = true := by simpa using h
 rw [if_neg (by rw [hf]; decide)] at k
 rw [hg hf]
 refine ift.of (fun h => ?_) (fun h => ?_)
 ·have h : fitsV v = false := by simpa using h
  rw [if_pos h] at k
  exact ⟨H, Gh.le hle1, k⟩
 have hf : fitsV v = true := by simpa using h
 rw [if_neg (by rw [hf]; decide)] at k
 exact ⟨H, Gh.le hle1, k⟩
end
end
section
open Go Go.Proofs
theorem QhL (t : List V) : cmpVs [] t = sgn 0 t.length := by
 cases t with
 | nil => simp [cmpVs, sgn]
 | cons c t => simp only [cmpVs]; unfold sgn; rw [if_pos (by simp <;> omega)]
theorem Qgw {s : Str} (h : numS s = true) (hm : isMin s = true) : isMin s.tail = false ∧ s.tail ≠ [] := by
 cases s with
 | nil => simp [isMin] at hm
 | cons c t =>
  have hc : c = 45 := by simpa [isMin] using hm
  subst hc
  cases t with
  | nil => simp [numS, unmin] at h
  | cons d u =>
   refine ⟨?_, by simp⟩
   simp only [numS, unmin, List.head?_cons, if_true, List.tail_cons, Bool.and_eq_true, List.all_cons] at h
   have hd := h.1.2.1
   unfold isMin
   simp only [List.tail_cons, List.head?_cons, Option.some.injEq, decide_eq_false_iff_not]
   rintro rfl
   simp [digC] at hd
theorem Qkn {a b : Str} (ha : isMin a = false) (hb : isMin b = false) : cmpB a b = cmpD a b := by unfold cmpB; rw [ha, hb]; rfl
theorem Qi1 {s : Str} (h : numS s = true) : s ≠ [] := fun e => by subst e; simp [numS, unmin] at h
section
variable {C : Ctx} {H : Heap}
theorem QgQ (v w : V) : cmpV v w = if v.k ≠ w.k then sgn v.k w.k else if v.k = 3 then cmpB v.s w.s else if v.k = 4 then vcmpS v.s w.s else if v.k = 5 then cmpVs v.l w.l else if v.k = 6 then (if vcmpS v.s w.s ≠ 0 then vcmpS v.s w.s else cmpVs v.l w.l) else sgn v.n w.n := by
 obtain ⟨k, n, s, l⟩ := v
 obtain ⟨k', n', s', l'⟩ := w
 simp only [cmpV, V.k, V.n, V.s, V.l]
 rfl
theorem Qib (v : V) : ((checkV v : Int) == 0) = mayV v := by unfold mayV; rw [Bool.eq_iff_iff]; simp
theorem QbQ {v : V} (h : mayV v = true) : formV v = true := ((QjI v).1 h).2.1
theorem QgB : ∀ {l m : List V}, sameVs l m = true → l.length = m.length
 | [], [], _ => rfl
 | [], _ :: _, h => by simp [sameVs] at h
 | _ :: _, [], h => by simp [sameVs] at h
 | v :: l, w :: m, h => by
  simp only [sameVs, Bool.and_eq_true] at h
  have := QgB h.2
  simp [this]
theorem QfB {l m : List V} {s t : Sl} {H : Heap} {K : Bool → Heap → Prop} (hs : VRow H s l) (ht : VRow H t m) (hl : l.length ≤ 140737488355328)
 (ih : ∀ v ∈ l, ∀ w, ∀ {x y : TV} {K : Bool → Heap → Prop}, VIs H v x → VIs H w y → w ∈ m → K (sameV v w) H → Q1 C x y K H) (k : K (sameVs l m) H) : QaD C s t K H := by
 apply Qfs
 unfold QdA
 rw [hs.len, ht.len]
 by_cases hlm : l.length = m.length
 rotate_left
 ·refine Qq (by simp; omega) ?_
  cases hh : sameVs l m with
  | true => exact absurd (QgB hh) hlm
  | false => rw [hh] at k; exact k
 refine Qh (by simp; omega) ?_
 refine ⟨fun x H' => ∃ i : Nat, x = (i : Int) ∧ i ≤ l.length ∧ H = H' ∧ sameVs l m = sameVs (l.drop i) (m.drop i), fun x _ => l.length - x.toNat, ⟨0, rfl, Nat.zero_le _, rfl, rfl⟩, ?_⟩
 rintro x _ ⟨i, rfl, hi, rfl, ha⟩
 refine ift.of (fun h => ?_) (fun h => ?_)
 ·have h1 : i < l.length := by have := of_decide_eq_true h; omega
  have h2 : i < m.length := by omega
  have m1 := List.getElem_mem h1
  have m2 := List.getElem_mem h2
  rw [List.drop_eq_getElem_cons h1, List.drop_eq_getElem_cons h2] at ha
  simp only [sameVs] at ha
  refine ⟨H, Heap.le.refl _, ?_⟩
  refine hs.ld (Heap.le.refl _) rfl h1 fun y hy => ?_
  refine ht.ld (Heap.le.refl _) rfl h2 fun z hz => ?_
  refine ih _ m1 _ hy hz m2 ⟨Heap.le.refl _, ?_⟩
  refine ift.of (fun h => ?_) (fun h => ?_)
  ·have h : sameV l[i] m[i] = false := by simpa using h
   rw [ha, h] at k; exact k
  ·have h : sameV l[i] m[i] = true := by simpa using h
   rw [h, Bool.true_and] at ha
   rw [Qac (by omega) (by omega)]
   exact ⟨⟨i + 1, by omega, by omega, rfl, ha⟩, by first | omega | (dsimp only; omega)⟩
 ·have hie : i = l.length := by have := of_decide_eq_false h; omega
  rw [hie, List.drop_length, hlm, List.drop_length] at ha
  rw [ha] at k; exact k
theorem Qjg (v w : V) : sameV v w = (v.k == w.k && v.n == w.n && decide (v.s = w.s) && sameVs v.l w.l) := by
 obtain ⟨k, n, s, l⟩ := v
 obtain ⟨k', n', s', l'⟩ := w
 simp only [sameV, V.k, V.n, V.s, V.l]
 rfl
theorem Qki {v w : V} {x y : TV} {H : Heap} {K : Bool → Heap → Prop} (hv : VIs H v x) (hw : VIs H w y) (hB : VB v) (k : K (sameV v w) H) : Q1 C x y K H := by
 refine V.rec_ (P := fun v => ∀ {w x y H} {K : Bool → Heap → Prop}, VIs H v x → VIs H w y → VB v → K (sameV v w) H → Q1 C x y K H) (fun v ih => ?_) v hv hw hB k
 clear hv hw hB k
 intro w x y H K hv hw hB k
 apply Q1.gh
 apply QgL
 unfold QeQ
 intro b1 n1 b3 n3
 have hb3 : ((H.put b1 (.row (Qa.c x))).put b3 (.row (Qa.c y))) b3 = some (true, .row (Qa.c y)) := Heap.put_same ..
 have hne : b1 ≠ b3 := fun e => by rw [e, Heap.put_same] at n3; cases n3
 have hb1 : ((H.put b1 (.row (Qa.c x))).put b3 (.row (Qa.c y))) b1 = some (true, .row (Qa.c x)) := by rw [Heap.put_ne _ _ _ hne, Heap.put_same]
 have hle := (Heap.le_put n1 (g := .row (Qa.c x)) (m := true)).trans (Heap.le_put n3 (g := .row (Qa.c y)) (m := true))
 generalize (H.put b1 (.row (Qa.c x))).put b3 (.row (Qa.c y)) = H1 at *
 have k' : ∃ H0, Gh C H1 H0 ∧ K (sameV v w) H0 := ⟨H, Gh.le hle, k⟩
 rw [Qjg] at k'
 refine bxK hb1 (bxK hb3 ?_)
 rw [hv.kind, hw.kind]
 refine ⟨fun b H' => H1 = H' ∧ b = (v.k == w.k && v.n == w.n), ?_, ?_⟩
 ·refine ift.of (fun h => ?_) (fun h => ⟨rfl, by rw [h]; rfl⟩)
  refine bxN hb1 (bxN hb3 ⟨rfl, ?_⟩)
  rw [h, hv.num, hw.num]; rfl
 rintro _ _ ⟨rfl, rfl⟩
 refine ⟨fun b H' => H1 = H' ∧ b = (v.k == w.k && v.n == w.n && decide (v.s = w.s)), ?_, ?_⟩
 ·refine ift.of (fun h => ?_) (fun h => ⟨rfl, by rw [h]; rfl⟩)
  refine bxS hb1 (bxS hb3 ⟨rfl, ?_⟩)
  rw [h, hv.txt, hw.txt, Bool.true_and, Bool.eq_iff_iff]; simp
 rintro _ _ ⟨rfl, rfl⟩
 refine ⟨fun b H' => H1 = H' ∧ b = (v.k == w.k && v.n == w.n && decide (v.s = w.s) && sameVs v.l w.l), ?_, ?_⟩
 ·refine ift.of (fun h => ?_) (fun h => ⟨rfl, by rw [h]; rfl⟩)
  refine bxL hb1 (bxL hb3 ?_)
  refine QfB (hv.row.le hle) (hw.row.le hle) hB.l (fun p hp q {x' y'} {K'} hx hy _ kk => ih p hp hx hy (hB.ls.mem hp) kk) ⟨rfl, ?_⟩
  rw [h]; rfl
 rintro _ _ ⟨rfl, rfl⟩
 exact k'
theorem Qin {l m : List V} {s t : Sl} {H : Heap} {K : Bool → Heap → Prop} (hs : VRow H s l) (ht : VRow H t m) (hl : l.length ≤ 140737488355328) (hB : VBs l) (k : K (sameVs l m) H) : QaD C s t K H :=
 QfB hs ht hl (fun p hp q {x y} {K} hx hy _ kk => Qki hx hy (hB.mem hp) kk) k
end
end
section
open Go
section
variable {H : Type} {enc : TypeId × Value → H} {P : Program} {W : World}
/-- the type of values -/
structure ValT (P : Program) (t tl : TypeId) : Prop where
 st : ∃ fs : Array Field, P.underlying t = some (.struct fs) ∧ fs.size = 4 ∧ (∃ f tk, fs[0]? = some f ∧ f.type = tk ∧ f.offset = 0 ∧ P.underlying tk = some (.int .u8) ∧ P.cellsOf tk = 1) ∧ (∃ f tk, fs[1]? = some f ∧ f.type = tk ∧ f.offset = 1 ∧ P.underlying tk = some (.int .i64) ∧ P.cellsOf tk = 1) ∧ (∃ f tk, fs[2]? = some f ∧ f.type = tk ∧ f.offset = 2 ∧ P.underlying tk = some .string ∧ P.cellsOf tk = 1) ∧ (∃ f, fs[3]? = some f ∧ f.type = tl ∧ f.offset = 3 ∧ P.cellsOf tl = 1)
 cells : P.cellsOf t = 4
 sl : P.underlying tl = some (.slice t)
end
end
section
open Go
section
variable {H : Type} {enc : TypeId × Value → H} {P : Program} {W : World}
end
end
section
open Go Go.Proofs
/-- a list of rows -/
def VRows (H : Heap) (s : Sl) (ls : List (List V)) : Prop := ∃ xs : List Sl, rdsl H s (xs.map slv) ∧ s.len = xs.length ∧ xs.length = ls.length ∧ ∀ (i : Nat) (x : Sl) (l : List V), xs[i]? = some x → ls[i]? = some l → VRow H x l
theorem VRows.len {H : Heap} {s : Sl} {ls : List (List V)} (h : VRows H s ls) : s.len = ls.length := by
 obtain ⟨xs, h1, h2, h3, h4⟩ := h; omega
theorem VRows.ld {A H : Heap} {s : Sl} {ls : List (List V)} {i : Nat} {x : Int} {K : Sl → Prop} (h : VRows A s ls) (hle : A.le H) (hx : x = i) (hi : i < ls.length) (k : ∀ t, VRow A t ls[i] → K t) : ixa s x fun p => ldL H (p.1, p.2 + x.toNat * 1) K := by
 obtain ⟨xs, h1, h2, h3, h4⟩ := h
 subst hx
 rw [Int.toNat_natCast, Nat.mul_one]
 have hi2 : i < xs.length := by omega
 refine Qh7 h1 (by omega) (by omega) (fun e => by have := congrArg List.length e; simp at this; rw [this] at hi2; simp at hi2) fun p hp hr => ?_
 refine ⟨xs[i], Qk5 hle (Qeo hr i _ (by simp [hi2])), k _ (h4 i _ _ (List.getElem?_eq_getElem hi2) (List.getElem?_eq_getElem hi))⟩
section
variable {H : Type} {enc : TypeId × Value → H} {P : Program} {W : World}
end
end
section
open Go Go.Proofs
theorem Qjn (a b : UInt8) (s t : Str) : slt (a :: s) (b :: t) = (decide (a < b) || (decide (a = b) && slt s t)) := by
 simp only [slt, Op.bytesLess]
 by_cases h : a < b
 ·simp [h]
 ·by_cases h2 : a = b
  ·subst h2; simp [h]
  ·simp [h, h2]
theorem QdZ (a : Int) : sgn a a = 0 := by unfold sgn; rw [if_neg (by omega), if_neg (by omega)]
theorem Qji (a b : Int) : -1 ≤ sgn a b ∧ sgn a b ≤ 1 := by unfold sgn; (split; · omega); (split <;> omega)
theorem Qf6 {a b : Int} : sgn a b < 0 ↔ a < b := by unfold sgn; (split; · omega); (split <;> omega)
theorem Qal {a b : Int} : sgn a b = 0 ↔ a = b := by unfold sgn; (split; · omega); (split <;> omega)
theorem vslt : ∀ s t : Str, slt s t = decide (vcmpS s t < 0) ∧ (vcmpS s t = 0 ↔ s = t) ∧ -1 ≤ vcmpS s t ∧ vcmpS s t ≤ 1
 | [], [] => ⟨rfl, by simp [vcmpS], by simp [vcmpS], by simp [vcmpS]⟩
 | [], b :: t => ⟨rfl, by simp [vcmpS], by simp [vcmpS], by simp [vcmpS]⟩
 | a :: s, [] => ⟨rfl, by simp [vcmpS], by simp [vcmpS], by simp [vcmpS]⟩
 | a :: s, b :: t => by
  obtain ⟨h1, h2, h3, h4⟩ := vslt s t
  rw [Qjn, h1]
  simp only [vcmpS]
  by_cases he : a = b
  ·subst he
   have : ¬ a < a := fun h => Nat.lt_irrefl _ h
   refine ⟨by simp [this], ?_, by rw [if_pos rfl]; exact h3, by rw [if_pos rfl]; exact h4⟩
   rw [if_pos rfl, h2]; simp
  ·have hne : ¬ (a.toNat : Int) = b.toNat := fun h => he (UInt8.toNat_inj.1 (by omega))
   have hz : ¬ sgn a.toNat b.toNat = 0 := fun h => hne (Qal.1 h)
   refine ⟨?_, ?_, ?_⟩
   ·simp only [he, if_false, decide_false, Bool.false_and, Bool.or_false]
    rw [decide_eq_decide, Qf6, UInt8.lt_iff_toNat_lt]; omega
   ·simp only [he, if_false, List.cons.injEq, false_and]; exact ⟨fun h => hz h, fun h => h.elim⟩
   ·rw [if_neg he]; exact Qji _ _
section
variable {C : Ctx} {H : Heap}
theorem QjM {a b : Int} {K : Int → Heap → Prop} (k : K (sgn a b) H) : QaX C a b K H := by
 have nan : ∀ {a : Int} {K : Bool → Heap → Prop}, K false H → QaK C a K H := fun {a K} k => by
  apply Qeu
  unfold Qcm
  simpa using k
 apply Qd1
 unfold QbF
 refine nan (nan (Qh rfl (Qh rfl ?_)))
 unfold sgn at k
 refine ift.of (fun h => ?_) (fun h => ?_)
 ·rw [if_pos (of_decide_eq_true h)] at k; exact k
 rw [if_neg (of_decide_eq_false h)] at k
 refine ift.of (fun h => ?_) (fun h => ?_)
 ·rw [if_pos (show b < a from of_decide_eq_true h)] at k; exact k
 ·rw [if_neg (show ¬ b < a from of_decide_eq_false h)] at k; exact k
theorem Qi4 {a b : Int} {K : Int → Heap → Prop} (k : K (sgn a b) H) : QaW C a b K H := by
 have nan : ∀ {a : Int} {K : Bool → Heap → Prop}, K false H → QaJ C a K H := fun {a K} k => by
  apply Qet
  unfold Qcl
  simpa using k
 apply Qd0
 unfold QbE
 refine nan (nan (Qh rfl (Qh rfl ?_)))
 unfold sgn at k
 refine ift.of (fun h => ?_) (fun h => ?_)
 ·rw [if_pos (of_decide_eq_true h)] at k; exact k
 rw [if_neg (of_decide_eq_false h)] at k
 refine ift.of (fun h => ?_) (fun h => ?_)
 ·rw [if_pos (show b < a from of_decide_eq_true h)] at k; exact k
 ·rw [if_neg (show ¬ b < a from of_decide_eq_false h)] at k; exact k
theorem QjN {a b : Int} {K : Int → Heap → Prop} (k : K (sgn a b) H) : Qbn C a b K H := by
 have nan : ∀ {a : Int} {K : Bool → Heap → Prop}, K false H → Qba C a K H := fun {a K} k => by
  apply Qfm
  unfold Qdu
  simpa using k
 apply Qes
 unfold Qck
 refine nan (nan (Qh rfl (Qh rfl ?_)))
 unfold sgn at k
 refine ift.of (fun h => ?_) (fun h => ?_)
 ·rw [if_pos (of_decide_eq_true h)] at k; exact k
 rw [if_neg (of_decide_eq_false h)] at k
 refine ift.of (fun h => ?_) (fun h => ?_)
 ·rw [if_pos (show b < a from of_decide_eq_true h)] at k; exact k
 ·rw [if_neg (show ¬ b < a from of_decide_eq_false h)] at k; exact k
theorem Qg7 {a b : Str} {K : Int → Heap → Prop} (k : K (vcmpS a b) H) : QM C a b K H := by
 have nan : ∀ {a : Str} {K : Bool → Heap → Prop}, K false H → Qat C a K H := fun {a K} k => by
  apply Qej
  unfold QbZ
  simpa using k
 apply QdD
 unfold Qbv
 obtain ⟨h1, h2, h3, h4⟩ := vslt a b
 refine nan (nan (Qh rfl (Qh rfl ?_)))
 refine ift.of (fun h => ?_) (fun h => ?_)
 ·rw [h1] at h
  have := of_decide_eq_true h
  rw [show vcmpS a b = -1 by omega] at k; exact k
 have hn : ¬ vcmpS a b < 0 := by rw [h1] at h; exact of_decide_eq_false h
 rw [h, Bool.false_or]
 refine ift.of (fun h => ?_) (fun h => ?_)
 ·have : ¬ a = b := by simpa using h
  have : ¬ vcmpS a b = 0 := fun e => this (h2.1 e)
  rw [show vcmpS a b = 1 by omega] at k; exact k
 ·have : a = b := by simpa using h
  rw [h2.2 this] at k; exact k
theorem Qke {b : Nat} {m : Bool} {l : List Int} {n : Nat} {K : Int → Heap → Prop} (hb : H b = some (m, .row (l.map fun x => Value.int .i64 x))) (hn : n = l.length) (hl : l.length ≤ 1000) (k : K ((l.find? fun x => x != 0).getD 0) H) : Qca C (Sl.of (some (b, 0)) n n) K H := by
 subst hn
 apply QgI
 unfold QeN
 refine ⟨fun x H' => ∃ i : Nat, x = (i : Int) ∧ i ≤ l.length ∧ H = H' ∧ (l.find? fun x => x != 0) = ((l.drop i).find? fun x => x != 0), fun x _ => l.length - x.toNat, ⟨0, rfl, Nat.zero_le _, rfl, rfl⟩, ?_⟩
 rintro x _ ⟨i, rfl, hi, rfl, hc⟩
 refine ift.of (fun h => ?_) (fun h => ?_)
 ·have h1 : i < l.length := by have := of_decide_eq_true h; simp only [Sl.of] at this; omega
  refine ⟨(b, 0), rfl, rfl, by omega, of_decide_eq_true h, l[i], ?_, ?_⟩
  ·simp [rd, hb, GO.cells?, h1]
  rw [List.drop_eq_getElem_cons h1, List.find?_cons] at hc
  refine ift.of (fun h => ?_) (fun h => ?_)
  ·rw [h] at hc
   rw [hc] at k; exact k
  ·rw [h] at hc
   rw [Qac (by omega) (by omega)]
   exact ⟨⟨i + 1, by omega, by omega, rfl, hc⟩, by first | omega | (dsimp only; omega)⟩
 ·have : i = l.length := by have := of_decide_eq_false h; simp only [Sl.of] at this; omega
  subst this
  rw [hc, List.drop_length] at k; exact k
theorem QbL {s p : Str} {K : Bool → Heap → Prop} (k : K (p.isPrefixOf s) H) : Qai C s p K H := by
 apply Qd3
 unfold QbH
 exact QdH k
theorem pre45 (s : Str) : ([45] : Str).isPrefixOf s = isMin s := by
 cases s with
 | nil => rfl
 | cons c s =>
  simp only [List.isPrefixOf, isMin, List.head?_cons, Option.some.injEq, Bool.and_true]
  by_cases h : c = 45
  ·subst h; rfl
  ·have h2 : ¬ (45 : UInt8) = c := fun e => h e.symm
   simp [h, h2]
theorem or2 (a b : Int) : (([a, b].find? fun x => x != 0).getD 0) = if a ≠ 0 then a else b := by
 by_cases h : a = 0
 ·subst h
  by_cases hb : b = 0
  ·subst hb; rfl
  ·simp [hb]
 ·simp [h]
theorem or3 (a b c : Int) : (([a, b, c].find? fun x => x != 0).getD 0) = if a ≠ 0 then a else if b ≠ 0 then b else c := by
 by_cases h : a = 0
 ·subst h
  have := or2 b c
  simpa using this
 ·simp [h]
theorem Qht {a b : Str} {K : Int → Heap → Prop} (ma : isMin a = false) (mb : isMin b = false) (k : K (cmpD a b) H) : Q2 C a b K H := by
 apply Q2.gh
 apply Qey
 unfold Qdm
 refine QbL (QbL ?_)
 rw [pre45, pre45, ma, mb]
 refine Qh rfl (Qh rfl (Qh rfl ?_))
 refine QjN (Qg7 ?_)
 intro c hc
 refine Qke (l := [sgn a.length b.length, vcmpS a b]) (Heap.put_same ..) rfl (by simp) ?_
 refine ⟨H, Gh.le (Heap.le_put hc), ?_⟩
 rw [or2]
 unfold cmpD at k
 by_cases h : a.length = b.length
 ·rw [if_pos h] at k
  rw [if_neg (by rw [h, QdZ]; simp)]; exact k
 ·rw [if_neg h] at k
  rw [if_pos (fun e => h (by have := Qal.1 e; omega))]; exact k
theorem QjL {a b : Str} {K : Int → Heap → Prop} (na : numS a = true) (nb : numS b = true) (k : K (cmpB a b) H) : Q2 C a b K H := by
 by_cases hn : isMin a = false ∧ isMin b = false
 ·rw [Qkn hn.1 hn.2] at k; exact Qht hn.1 hn.2 k
 apply Qey
 unfold Qdm
 refine QbL (QbL ?_)
 rw [pre45, pre45]
 unfold cmpB at k
 refine ift.of (fun h => ?_) (fun h => ?_)
 ·obtain ⟨h1, h2⟩ := Bool.and_eq_true_iff.1 h
  rw [if_pos h1, if_pos h2] at k
  have la : 1 ≤ a.length := by have := Qi1 na; cases a <;> simp_all
  have lb : 1 ≤ b.length := by have := Qi1 nb; cases b <;> simp_all
  refine ⟨H, Heap.le.refl _, by omega, by omega, by omega, _, rfl, by omega, by omega, by omega, _, rfl, ?_⟩
  have ea : (a.take (a.length : Int).toNat).drop (1 : Int).toNat = a.tail := by simp
  have eb : (b.take (b.length : Int).toNat).drop (1 : Int).toNat = b.tail := by simp
  rw [ea, eb]
  exact Qht (Qgw nb h2).1 (Qgw na h1).1 ⟨Heap.le.refl _, k⟩
 refine ift.of (fun h1 => ?_) (fun h1 => ?_)
 ·rw [if_pos h1] at k
  have h2 : isMin b = false := by rw [h1] at h; simpa using h
  rw [if_neg (by rw [h2]; simp)] at k; exact k
 rw [if_neg (by rw [h1]; simp)] at k
 refine ift.of (fun h2 => ?_) (fun h2 => ?_)
 ·rw [if_pos h2] at k; exact k
 ·exact absurd ⟨h1, h2⟩ hn
theorem QjO {a b : Bool} {K : Int → Heap → Prop} (k : K (lastB a b) H) : QdG C a b K H := by
 apply QgM
 unfold QeR
 unfold lastB at k
 refine ift.of (fun h => ?_) (fun h => ?_)
 ·rw [if_pos (by simpa using h)] at k; exact k
 rw [if_neg (by simpa using h)] at k
 refine ift.of (fun h => ?_) (fun h => ?_)
 ·rw [if_pos h] at k; exact k
 ·rw [if_neg (by rw [h]; decide)] at k; exact k
theorem Qkw {v : V} {x : TV} {K : Bool → Heap → Prop} (hv : VIs H v x) (hB : VB v) (k : K (!mayV v) H) : Qak C x K H := by
 apply Qak.gh
 apply Qgk
 unfold Qeh
 intro c hc
 have hle := Heap.le_put hc (g := .row (Qa.c x)) (m := true)
 refine bxV (Heap.put_same ..) ?_
 refine QcK (hv.le hle) hB ⟨H, Gh.le hle, ?_⟩
 rw [bne, Qib]; exact k
/-- a function that is asked of each value -/
theorem QiT {l : List V} {s : Sl} {f : Value} {φ : V → Bool} {K : Int → Heap → Prop} (hs : VRow H s l) (hl : l.length ≤ 140737488355328)
 (hf : ∀ v x, v ∈ l → VIs H v x → ∀ Φ : Value → Heap → Prop, Φ (.bool (φ v)) H → callU Tryz.prog C f [.agg (Qa.c x).toArray] H Φ)
 (k : ∀ i : Int, (0 ≤ i ↔ l.any φ = true) → K i H) : Qx C s f K H := by
 apply QaA
 unfold QL
 rw [hs.len]
 refine ⟨fun x H' => ∃ i : Nat, x = (i : Int) ∧ i ≤ l.length ∧ H = H' ∧ (l.take i).any φ = false, fun x _ => l.length - x.toNat, ⟨0, rfl, Nat.zero_le _, rfl, rfl⟩, ?_⟩
 rintro x _ ⟨i, rfl, hi, rfl, ha⟩
 refine ift.of (fun h => ?_) (fun h => ?_)
 ·have hlt : i < l.length := by have := of_decide_eq_true h; omega
  have hm := List.getElem_mem hlt
  refine hs.ld (Heap.le.refl _) rfl hlt fun y hy => ?_
  refine hf _ y hm hy _ ⟨_, rfl, ?_⟩
  refine ift.of (fun h => ?_) (fun h => ?_)
  ·exact k _ ⟨fun _ => List.any_eq_true.2 ⟨_, hm, h⟩, fun _ => by omega⟩
  ·rw [Qac (by omega) (by omega)]
   refine ⟨⟨i + 1, by omega, by omega, rfl, ?_⟩, by first | omega | (dsimp only; omega)⟩
   rw [List.take_add_one, List.getElem?_eq_getElem hlt, Option.toList_some, List.any_append, ha]; simp [h]
 ·have hie : i = l.length := by have := of_decide_eq_false h; omega
  rw [hie, List.take_length] at ha
  exact k _ ⟨fun h => by omega, fun h => by rw [h] at ha; cases ha⟩
theorem Qhm {l : List V} {s : Sl} {f : Value} {φ : V → Bool} {K : Bool → Heap → Prop} (hs : VRow H s l) (hl : l.length ≤ 140737488355328)
 (hf : ∀ v x, v ∈ l → VIs H v x → ∀ Φ : Value → Heap → Prop, Φ (.bool (φ v)) H → callU Tryz.prog C f [.agg (Qa.c x).toArray] H Φ)
 (k : K (l.any φ) H) : Qs C s f K H := by
 apply Qam
 unfold QG
 refine QiT hs hl hf fun i hi => ?_
 have : decide (i ≥ 0) = l.any φ := by
  rw [Bool.eq_iff_iff, decide_eq_true_eq]; exact hi
 rw [this]; exact k
theorem Qi5 {l : List V} {s : Sl} {K : Bool → Heap → Prop} (hs : VRow H s l) (hl : l.length ≤ 140737488355328) (hB : VBs l) (k : K (mayR l) H) : Qdb C s K H := by
 apply Qhh
 unfold Qfk
 refine Qhm (φ := fun v => !mayV v) hs hl (fun v x hv hx Φ hΦ => ⟨_, [], [], rfl, Qgp, ?_⟩) ?_
 ·have h : Qak C x (fun r H2 => Φ (.bool r) H2) H := Qkw hx (hB.mem hv) hΦ
  exact Spec.mono h fun v H2 ⟨r, hv, h⟩ => by rw [hv]; exact h
 ·have : (!(l.any fun v => !mayV v)) = mayR l := by unfold mayR; rw [List.not_any_eq_all_not]; simp
  rw [this]; exact k
/-- rows, value by value -/
theorem QhM {l m : List V} {s t : Sl} {f : Value} {K : Int → Heap → Prop} (hs : VRow H s l) (ht : VRow H t m) (hl : l.length ≤ 140737488355328) (hm : m.length ≤ 140737488355328)
 (hf : ∀ v x w y, v ∈ l → w ∈ m → ∀ A : Heap, H.le A → VIs A v x → VIs A w y → ∀ Φ : Value → Heap → Prop, Φ (.int .i64 (cmpV v w)) A → callU Tryz.prog C f [.agg (Qa.c x).toArray, .agg (Qa.c y).toArray] A Φ)
 (k : K (cmpVs l m) H) : Qb C s t f K H := by
 apply Qb.gh
 apply QH
 unfold Ql
 rw [hs.len, ht.len]
 refine ⟨fun x A => ∃ i : Nat, x = (i : Int) ∧ i ≤ l.length ∧ i ≤ m.length ∧ H.le A ∧ cmpVs l m = cmpVs (l.drop i) (m.drop i), fun x _ => l.length - x.toNat, ⟨0, rfl, Nat.zero_le _, Nat.zero_le _, Heap.le.refl _, rfl⟩, ?_⟩
 rintro x A ⟨i, rfl, hi, hi2, hA, hc⟩
 refine ift.of (fun h => ?_) (fun h => ?_)
 ·have h1 : i < l.length := by have := of_decide_eq_true h; omega
  have m1 := List.getElem_mem h1
  refine hs.ld hA rfl h1 fun y hy => ?_
  intro b1 n1
  have hle1 := Heap.le_put n1 (g := .row (Qa.c Qa.zero)) (m := true)
  refine ⟨_, Heap.put_same .., by simp [Qa.c], ?_⟩
  have e1 : ∀ z : TV, splice (Qa.c Qa.zero) 0 (Qa.c z) = Qa.c z := fun z => by simp [splice, Qa.c]
  dsimp only
  rw [e1, Heap.put_put]
  have hle1 := Heap.le_put n1 (g := .row (Qa.c y)) (m := true)
  refine ift.of (fun h => ?_) (fun h => ?_)
  ·have h2 : i = m.length := by have := of_decide_eq_true h; omega
   refine ⟨H, Gh.le (hA.trans hle1), ?_⟩
   subst h2
   rw [hc, List.drop_length, List.drop_eq_getElem_cons h1] at k; exact k
  ·have h2 : i < m.length := by have := of_decide_eq_false h; omega
   have m2 := List.getElem_mem h2
   rw [List.drop_eq_getElem_cons h1, List.drop_eq_getElem_cons h2] at hc
   refine ht.ld (hA.trans hle1) rfl h2 fun z hz => ?_
   intro b2 n2
   refine ⟨_, Heap.put_same .., by simp [Qa.c], ?_⟩
   dsimp only
   rw [e1, Heap.put_put]
   have hle2 := Heap.le_put n2 (g := .row (Qa.c z)) (m := true)
   have hne : b1 ≠ b2 := fun e => by rw [← e, Heap.put_same] at n2; cases n2
   refine bxV (m := true) (by rw [Heap.put_ne _ _ _ hne, Heap.put_same]) (bxV (m := true) (Heap.put_same ..) ?_)
   have hle := (hA.trans hle1).trans hle2
   refine hf _ y _ z m1 m2 _ hle (hy.le hle) (hz.le hle) _ ⟨_, rfl, ?_⟩
   simp only [cmpVs] at hc
   refine ift.of (fun h => ?_) (fun h => ?_)
   ·rw [if_pos (by simpa using h)] at hc
    rw [hc] at k; exact ⟨H, Gh.le hle, k⟩
   ·rw [if_neg (by simpa using h)] at hc
    rw [Qac (by omega) (by omega)]
    exact ⟨⟨i + 1, by omega, by omega, by omega, hle, hc⟩, by first | omega | (dsimp only; omega)⟩
 ·have h1 : i = l.length := by have := of_decide_eq_false h; omega
  subst h1
  rw [hc, List.drop_length, QhL, List.length_drop] at k
  refine ift.of (fun h => ?_) (fun h => ?_)
  ·have := of_decide_eq_true h
   rw [show sgn 0 ((m.length - l.length : Nat) : Int) = -1 by unfold sgn; rw [if_pos (by omega)]] at k
   exact ⟨H, Gh.le hA, k⟩
  ·have := of_decide_eq_false h
   rw [show sgn 0 ((m.length - l.length : Nat) : Int) = 0 by rw [Qal]; omega] at k
   exact ⟨H, Gh.le hA, k⟩
theorem QhA {l m : List V} {s t : Sl} {K : Int → Heap → Prop} (hs : VRow H s l) (ht : VRow H t m) (hl : l.length ≤ 140737488355328) (hm : m.length ≤ 140737488355328)
 (ih : ∀ v ∈ l, ∀ w ∈ m, ∀ {A : Heap} {x y : TV} {K : Int → Heap → Prop}, VIs A v x → VIs A w y → K (cmpV v w) A → QB C x y K A) (k : K (cmpVs l m) H) : Qbt C s t K H := by
 apply QgO
 unfold QeT
 refine QhM hs ht hl hm (fun v x w y hv hw A hA hx hy Φ hΦ => ⟨_, [], [], rfl, QfY, ?_⟩) k
 have h : Qar C x y (fun r H2 => Φ (.int .i64 r) H2) A := by
  apply Qar.gh
  apply QfJ
  unfold QdT
  intro b1 n1 b3 n3
  have hb3 : ((A.put b1 (.row (Qa.c x))).put b3 (.row (Qa.c y))) b3 = some (true, .row (Qa.c y)) := Heap.put_same ..
  have hne : b1 ≠ b3 := fun e => by rw [e, Heap.put_same] at n3; cases n3
  have hb1 : ((A.put b1 (.row (Qa.c x))).put b3 (.row (Qa.c y))) b1 = some (true, .row (Qa.c x)) := by rw [Heap.put_ne _ _ _ hne, Heap.put_same]
  have hle := (Heap.le_put n1 (g := .row (Qa.c x)) (m := true)).trans (Heap.le_put n3 (g := .row (Qa.c y)) (m := true))
  generalize (A.put b1 (.row (Qa.c x))).put b3 (.row (Qa.c y)) = B at *
  refine bxV hb1 (bxV hb3 ?_)
  exact ih v hv w hw (hx.le hle) (hy.le hle) ⟨A, Gh.le hle, hΦ⟩
 exact Spec.mono h fun v H2 ⟨r, hv, h⟩ => by rw [hv]; exact h
theorem QbR {k n : Int} {s : Str} {m : Nat} (h : okN k n s m = true) : (k = 1 ∧ s = [] ∧ m = 0) ∨ (k = 2 ∧ s = [] ∧ m = 0) ∨ (k = 3 ∧ n = 0 ∧ m = 0) ∨ (k = 4 ∧ n = 0 ∧ m = 0) ∨ (k = 5 ∧ n = 0 ∧ s = []) ∨ (k = 6 ∧ n = 0) := by
 unfold okN at h
 split at h
 ·rename_i e
  simp only [Bool.and_eq_true, decide_eq_true_eq, List.isEmpty_iff] at h
  exact .inl ⟨e, h.1.2, h.2⟩
 split at h
 ·rename_i e
  simp only [Bool.and_eq_true, decide_eq_true_eq, List.isEmpty_iff] at h
  exact .inr (.inl ⟨e, h.1, h.2⟩)
 split at h
 ·rename_i e
  simp only [Bool.and_eq_true, decide_eq_true_eq, beq_iff_eq] at h
  exact .inr (.inr (.inl ⟨e, h.1.2, h.2⟩))
 split at h
 ·rename_i e
  simp only [Bool.and_eq_true, decide_eq_true_eq, beq_iff_eq] at h
  exact .inr (.inr (.inr (.inl ⟨e, h.1, h.2⟩)))
 split at h
 ·rename_i e
  simp only [Bool.and_eq_true, decide_eq_true_eq, beq_iff_eq, List.isEmpty_iff] at h
  exact .inr (.inr (.inr (.inr (.inl ⟨e, h.1.1, h.1.2⟩))))
 split at h
 ·rename_i e
  simp only [Bool.and_eq_true, decide_eq_true_eq, beq_iff_eq] at h
  exact .inr (.inr (.inr (.inr (.inr ⟨e, h.1⟩))))
 ·cases h
theorem Qkz {v w : V} {x y : TV} {H : Heap} {K : Int → Heap → Prop} (hv : VIs H v x) (hw : VIs H w y) (hB : VB v) (hB2 : VB w) (hF : formV v = true) (hF2 : formV w = true) (k : K (cmpV v w) H) : QB C x y K H := by
 refine V.rec_ (P := fun v => ∀ {w x y H} {K : Int → Heap → Prop}, VIs H v x → VIs H w y → VB v → VB w → formV v = true → formV w = true → K (cmpV v w) H → QB C x y K H) (fun v ih => ?_) v hv hw hB hB2 hF hF2 k
 clear hv hw hB hB2 hF hF2 k
 intro w x y H K hv hw hB hB2 hF hF2 k
 apply QB.gh
 apply Qe0
 unfold QcW
 intro b1 n1 b3 n3
 have hb3 : ((H.put b1 (.row (Qa.c x))).put b3 (.row (Qa.c y))) b3 = some (true, .row (Qa.c y)) := Heap.put_same ..
 have hne : b1 ≠ b3 := fun e => by rw [e, Heap.put_same] at n3; cases n3
 have hb1 : ((H.put b1 (.row (Qa.c x))).put b3 (.row (Qa.c y))) b1 = some (true, .row (Qa.c x)) := by rw [Heap.put_ne _ _ _ hne, Heap.put_same]
 have hle := (Heap.le_put n1 (g := .row (Qa.c x)) (m := true)).trans (Heap.le_put n3 (g := .row (Qa.c y)) (m := true))
 generalize (H.put b1 (.row (Qa.c x))).put b3 (.row (Qa.c y)) = H1 at *
 have k' : ∃ H0, Gh C H1 H0 ∧ K (cmpV v w) H0 := ⟨H, Gh.le hle, k⟩
 rw [Qfy, Bool.and_eq_true] at hF hF2
 rw [QgQ] at k'
 refine bxK hb1 (bxK hb3 ?_)
 rw [hv.kind, hw.kind]
 refine QjM ?_
 refine ift.of (fun h => ?_) (fun h => ?_)
 ·rw [if_pos (fun e => by rw [e, QdZ] at h; simp at h)] at k'; exact k'
 have hkk : v.k = w.k := Qal.1 (by simpa using h)
 rw [if_neg (by simp [hkk])] at k'
 have hr1 := hv.row.le hle
 have hr2 := hw.row.le hle
 refine bxK hb1 ?_
 rw [hv.kind]
 refine ift.of (fun h => ?_) (fun h3 => ?_)
 ·have h : v.k = 3 := by simpa using h
  rw [if_pos h] at k'
  refine bxS hb1 (bxS hb3 ?_)
  rw [hv.txt, hw.txt]
  exact QjL (Qi2 hF.1 h) (Qi2 hF2.1 (by omega)) k'
 have h3 : ¬ v.k = 3 := by simpa using h3
 rw [if_neg h3] at k'
 refine ift.of (fun h => ?_) (fun h4 => ?_)
 ·have h : v.k = 4 := by simpa using h
  rw [if_pos h] at k'
  refine bxS hb1 (bxS hb3 ?_)
  rw [hv.txt, hw.txt]
  exact Qg7 k'
 have h4 : ¬ v.k = 4 := by simpa using h4
 rw [if_neg h4] at k'
 refine ⟨H1, Heap.le.refl _, ?_⟩
 refine bxN hb1 (bxN hb3 (bxS hb1 (bxS hb3 (bxL hb1 (bxL hb3 ?_)))))
 rw [hv.num, hw.num, hv.txt, hw.txt]
 refine Qi4 ⟨Heap.le.refl _, Qg7 ⟨Heap.le.refl _, ?_⟩⟩
 refine QhA hr1 hr2 hB.l hB2.l (fun p hp q hq {A x' y'} {K'} hx hy kk => ih p hp hx hy (hB.ls.mem hp) (hB2.ls.mem hq) (QcM hp hF.2) (QcM hq hF2.2) kk) ⟨Heap.le.refl _, ?_⟩
 intro b5 n5
 have hle5 := Heap.le_put n5 (g := .row [Value.int .i64 (sgn v.n w.n), .int .i64 (vcmpS v.s w.s), .int .i64 (cmpVs v.l w.l)]) (m := true)
 refine ⟨hle5, ?_⟩
 refine Qke (l := [sgn v.n w.n, vcmpS v.s w.s, cmpVs v.l w.l]) (Heap.put_same ..) rfl (by simp) ⟨hle5, ?_⟩
 rw [or3]
 obtain ⟨H0, hg, hk⟩ := k'
 refine ⟨H0, (Gh.le hle5).trans hg, ?_⟩
 rcases QbR hF.1 with ⟨e, e1, e2⟩ | ⟨e, e1, e2⟩ | ⟨e, _⟩ | ⟨e, _⟩ | ⟨e, e1, e2⟩ | ⟨e, e1⟩
 ·rcases QbR hF2.1 with ⟨f, f1, f2⟩ | ⟨f, _⟩ | ⟨f, _⟩ | ⟨f, _⟩ | ⟨f, _⟩ | ⟨f, _⟩ <;> try (exfalso; omega)
  rw [if_neg (by omega), if_neg (by omega)] at hk
  have l1 := List.length_eq_zero_iff.1 e2
  have l2 := List.length_eq_zero_iff.1 f2
  rw [e1, f1, l1, l2]
  split
  ·exact hk
  ·rename_i hz
   have : sgn v.n w.n = 0 := by omega
   rw [this] at hk
   simpa [vcmpS, cmpVs] using hk
 ·rcases QbR hF2.1 with ⟨f, _⟩ | ⟨f, f1, f2⟩ | ⟨f, _⟩ | ⟨f, _⟩ | ⟨f, _⟩ | ⟨f, _⟩ <;> try (exfalso; omega)
  rw [if_neg (by omega), if_neg (by omega)] at hk
  have l1 := List.length_eq_zero_iff.1 e2
  have l2 := List.length_eq_zero_iff.1 f2
  rw [e1, f1, l1, l2]
  split
  ·exact hk
  ·rename_i hz
   have : sgn v.n w.n = 0 := by omega
   rw [this] at hk
   simpa [vcmpS, cmpVs] using hk
 ·exact absurd e h3
 ·exact absurd e h4
 ·rcases QbR hF2.1 with ⟨f, _⟩ | ⟨f, _⟩ | ⟨f, _⟩ | ⟨f, _⟩ | ⟨f, f1, f2⟩ | ⟨f, _⟩ <;> try (exfalso; omega)
  rw [if_pos e] at hk
  rw [e1, f1, e2, f2, QdZ]
  simpa [vcmpS] using hk
 ·rcases QbR hF2.1 with ⟨f, _⟩ | ⟨f, _⟩ | ⟨f, _⟩ | ⟨f, _⟩ | ⟨f, _⟩ | ⟨f, f1⟩ <;> try (exfalso; omega)
  rw [if_neg (by omega), if_pos e] at hk
  rw [e1, f1, QdZ]
  simpa using hk
theorem QjP {l m : List V} {s t : Sl} {K : Int → Heap → Prop} (hs : VRow H s l) (ht : VRow H t m) (hl : l.length ≤ 140737488355328) (hm : m.length ≤ 140737488355328) (hB : VBs l) (hB2 : VBs m) (hF : mayR l = true) (hF2 : mayR m = true) (k : K (cmpVs l m) H) : Qbt C s t K H :=
 QhA hs ht hl hm (fun p hp q hq {A x' y'} {K'} hx hy kk => Qkz hx hy (hB.mem hp) (hB2.mem hq) (QbQ (List.all_eq_true.1 hF p hp)) (QbQ (List.all_eq_true.1 hF2 q hq)) kk) k
theorem QhU {l m : List V} {s t : Sl} {K : Int → Heap → Prop} (hs : VRow H s l) (ht : VRow H t m) (hl : l.length ≤ 140737488355328) (hm : m.length ≤ 140737488355328) (hB : VBs l) (hB2 : VBs m) (k : K (cmpR l m) H) : QbP C s t K H := by
 apply Qft
 unfold QdB
 refine Qi5 hs hl hB (Qi5 ht hm hB2 ?_)
 unfold cmpR at k
 refine ift.of (fun h => ?_) (fun h => ?_)
 ·refine QjO ?_
  rw [if_neg (by intro hh; rw [hh.1, hh.2] at h; cases h)] at k; exact k
 ·have h1 : mayR l = true ∧ mayR m = true := by simpa using h
  rw [if_pos h1] at k
  exact QjP hs ht hl hm hB hB2 h1.1 h1.2 k
end
end
section
open Go Go.Proofs
/-- an order, told by signs -/
structure Lin {α : Type} (f : α → α → Int) (P : α → Prop) : Prop where
 anti : ∀ a b, P a → P b → f b a = - f a b
 rng : ∀ a b, P a → P b → -1 ≤ f a b ∧ f a b ≤ 1
 tr : ∀ a b c, P a → P b → P c → f a b ≤ 0 → f b c ≤ 0 → f a c ≤ 0 ∧ (f a b < 0 ∨ f b c < 0 → f a c < 0)
section
variable {α β : Type} {f g : α → α → Int} {P Q : α → Prop}
theorem Lin.refl (h : Lin f P) {a : α} (ha : P a) : f a a = 0 := by have := h.anti a a ha ha; omega
theorem Lin.l0 (h : Lin f P) {a b c : α} (ha : P a) (hb : P b) (hc : P c) (e : f a b = 0) : f a c = f b c := by
 have t1 := h.tr a b c ha hb hc (by omega)
 have e' := h.anti a b ha hb
 have t2 := h.tr b a c hb ha hc (by omega)
 have r1 := h.rng a c ha hc
 have r2 := h.rng b c hb hc
 rcases Int.lt_trichotomy (f b c) 0 with h1 | h1 | h1
 ·have := (t1 (by omega)).2 (.inr h1); omega
 ·have k1 := (t1 (by omega)).1
  rcases Int.lt_trichotomy (f a c) 0 with h2 | h2 | h2
  ·have := (t2 (by omega)).2 (.inr h2); omega
  ·omega
  ·omega
 ·rcases Int.lt_trichotomy (f a c) 0 with h2 | h2 | h2
  ·have := (t2 (by omega)).2 (.inr h2); omega
  ·have := (t2 (by omega)).1; omega
  ·omega
theorem Lin.r0 (h : Lin f P) {a b c : α} (ha : P a) (hb : P b) (hc : P c) (e : f b c = 0) : f a c = f a b := by
 have h1 := h.anti b c hb hc
 have h2 := h.l0 hc hb ha (by omega)
 have h3 := h.anti a c ha hc
 have h4 := h.anti a b ha hb
 omega
theorem Lin.sub (h : Lin f P) (hs : ∀ a, Q a → P a) : Lin f Q := ⟨fun a b ha hb => h.anti a b (hs a ha) (hs b hb), fun a b ha hb => h.rng a b (hs a ha) (hs b hb), fun a b c ha hb hc => h.tr a b c (hs a ha) (hs b hb) (hs c hc)⟩
theorem Lin.swap (h : Lin f P) : Lin (fun a b => f b a) P := ⟨fun a b ha hb => h.anti b a hb ha, fun a b ha hb => h.rng b a hb ha, fun a b c ha hb hc h1 h2 => by
 have := h.tr c b a hc hb ha h2 h1
 exact ⟨this.1, fun hh => this.2 hh.symm⟩⟩
theorem Lin.comp {f : β → β → Int} {P : β → Prop} (h : Lin f P) (u : α → β) : Lin (fun a b => f (u a) (u b)) (fun a => P (u a)) :=
 ⟨fun a b ha hb => h.anti _ _ ha hb, fun a b ha hb => h.rng _ _ ha hb, fun a b c ha hb hc => h.tr _ _ _ ha hb hc⟩
theorem Lin.or (h : Lin f P) (h2 : Lin g P) : Lin (fun a b => if f a b ≠ 0 then f a b else g a b) P := by
 refine ⟨fun a b ha hb => ?_, fun a b ha hb => ?_, fun a b c ha hb hc => ?_⟩
 ·have e1 := h.anti a b ha hb
  have e2 := h2.anti a b ha hb
  try dsimp only
  by_cases hz : f a b = 0
  ·rw [if_neg (by omega), if_neg (by omega)]; exact e2
  ·rw [if_pos (by omega), if_pos (by omega)]; exact e1
 ·try dsimp only
  split
  ·exact h.rng a b ha hb
  ·exact h2.rng a b ha hb
 ·try dsimp only
  have t := h.tr a b c ha hb hc
  have t2 := h2.tr a b c ha hb hc
  by_cases h1 : f a b = 0
  ·have e := h.l0 ha hb hc h1
   by_cases h3 : f b c = 0
   ·rw [if_neg (by omega), if_neg (by omega), if_neg (by omega)]; exact t2
   ·rw [if_neg (by omega), if_pos h3, if_pos (by omega)]
    intro _ k2
    exact ⟨by omega, fun _ => by omega⟩
  ·by_cases h3 : f b c = 0
   ·have e := h.r0 ha hb hc h3
    rw [if_pos h1, if_neg (by omega), if_pos (by omega)]
    intro k1 _
    exact ⟨by omega, fun _ => by omega⟩
   ·rw [if_pos h1, if_pos h3]
    intro k1 k2
    have := (t k1 k2).2 (.inl (by omega))
    rw [if_pos (by omega)]
    exact ⟨by omega, fun _ => this⟩
/-- first by classes, then within a class -/
theorem Lin.sel {κ : α → Int} {B : Int → α → α → Int} (hs : Lin (fun a b : Int => sgn a b) fun _ => True) (h : ∀ k, Lin (B k) P) : Lin (fun a b => if κ a ≠ κ b then sgn (κ a) (κ b) else B (κ a) a b) P := by
 refine ⟨fun a b ha hb => ?_, fun a b ha hb => ?_, fun a b c ha hb hc => ?_⟩
 ·try dsimp only
  by_cases hz : κ a = κ b
  ·rw [if_neg (by omega), if_neg (by omega), hz]; exact (h _).anti a b ha hb
  ·rw [if_pos (by omega), if_pos (by omega)]; exact hs.anti _ _ trivial trivial
 ·try dsimp only
  split
  ·exact hs.rng _ _ trivial trivial
  ·exact (h _).rng a b ha hb
 ·try dsimp only
  have t := hs.tr (κ a) (κ b) (κ c) trivial trivial trivial
  try dsimp only at t
  by_cases h1 : κ a = κ b
  ·by_cases h3 : κ b = κ c
   ·rw [if_neg (by omega), if_neg (by omega), if_neg (by omega), ← h1]; exact (h _).tr a b c ha hb hc
   ·rw [if_neg (by omega), if_pos h3, if_pos (by omega), h1]
    intro _ k2
    have := Qal (a := κ b) (b := κ c)
    exact ⟨by omega, fun _ => by omega⟩
  ·have z1 := Qal (a := κ a) (b := κ b)
   by_cases h3 : κ b = κ c
   ·rw [if_pos h1, if_neg (by omega), if_pos (by omega), ← h3]
    intro k1 _
    exact ⟨by omega, fun _ => by omega⟩
   ·rw [if_pos h1, if_pos h3]
    intro k1 k2
    have := (t k1 k2).2 (.inl (by omega))
    have z2 := Qf6.1 this
    rw [if_pos (by omega)]
    exact ⟨by omega, fun _ => this⟩
end
theorem Lin.sgn : Lin (fun a b : Int => sgn a b) fun _ => True := by
 refine ⟨fun a b _ _ => ?_, fun a b _ _ => Qji a b, fun a b c _ _ _ h1 h2 => ?_⟩
 ·unfold Sx.sgn; split <;> split <;> omega
 ·have n1 := Qf6 (a := a) (b := b)
  have n2 := Qf6 (a := b) (b := c)
  have n3 := Qf6 (a := a) (b := c)
  have z1 := Qal (a := a) (b := b)
  have z2 := Qal (a := b) (b := c)
  have z3 := Qal (a := a) (b := c)
  omega
def lexF {α : Type} (f : α → α → Int) : List α → List α → Int
 | [], [] => 0
 | [], _ :: _ => -1
 | _ :: _, [] => 1
 | a :: s, b :: t => if f a b ≠ 0 then f a b else lexF f s t
theorem Lin.lex {α : Type} {f : α → α → Int} {P : α → Prop} (h : Lin f P) : Lin (lexF f) (fun l => ∀ a ∈ l, P a) := by
 refine ⟨fun l => ?_, fun l => ?_, fun l => ?_⟩
 ·induction l with
  | nil => intro m _ _; cases m <;> simp [lexF]
  | cons a l ih =>
   intro m hl hm
   cases m with
   | nil => simp [lexF]
   | cons b m =>
    have ha := hl a (List.mem_cons_self ..)
    have hb := hm b (List.mem_cons_self ..)
    have e1 := h.anti a b ha hb
    have e2 := ih m (fun x hx => hl x (List.mem_cons_of_mem _ hx)) (fun x hx => hm x (List.mem_cons_of_mem _ hx))
    simp only [lexF]
    by_cases hz : f a b = 0
    ·rw [if_neg (by omega), if_neg (by omega)]; exact e2
    ·rw [if_pos (by omega), if_pos (by omega)]; exact e1
 ·induction l with
  | nil => intro m _ _; cases m <;> simp [lexF]
  | cons a l ih =>
   intro m hl hm
   cases m with
   | nil => simp [lexF]
   | cons b m =>
    simp only [lexF]
    split
    ·exact h.rng a b (hl a (List.mem_cons_self ..)) (hm b (List.mem_cons_self ..))
    ·exact ih m (fun x hx => hl x (List.mem_cons_of_mem _ hx)) (fun x hx => hm x (List.mem_cons_of_mem _ hx))
 ·induction l with
  | nil =>
   intro m n _ _ _ h1 h2
   cases n with
   | nil =>
    cases m with
    | nil => simp [lexF]
    | cons b m => simp [lexF] at h2
   | cons c n => simp [lexF]
  | cons a l ih =>
   intro m n hl hm hn
   cases m with
   | nil => intro h1; simp [lexF] at h1
   | cons b m =>
   cases n with
   | nil => intro _ h2; simp [lexF] at h2
   | cons c n =>
    have ha := hl a (List.mem_cons_self ..)
    have hb := hm b (List.mem_cons_self ..)
    have hc := hn c (List.mem_cons_self ..)
    have t := h.tr a b c ha hb hc
    have t2 := ih m n (fun x hx => hl x (List.mem_cons_of_mem _ hx)) (fun x hx => hm x (List.mem_cons_of_mem _ hx)) (fun x hx => hn x (List.mem_cons_of_mem _ hx))
    simp only [lexF]
    by_cases h1 : f a b = 0
    ·have e := h.l0 ha hb hc h1
     by_cases h3 : f b c = 0
     ·rw [if_neg (by omega), if_neg (by omega), if_neg (by omega)]; exact t2
     ·rw [if_neg (by omega), if_pos h3, if_pos (by omega)]
      intro _ k2
      exact ⟨by omega, fun _ => by omega⟩
    ·by_cases h3 : f b c = 0
     ·have e := h.r0 ha hb hc h3
      rw [if_pos h1, if_neg (by omega), if_pos (by omega)]
      intro k1 _
      exact ⟨by omega, fun _ => by omega⟩
     ·rw [if_pos h1, if_pos h3]
      intro k1 k2
      have := (t k1 k2).2 (.inl (by omega))
      rw [if_pos (by omega)]
      exact ⟨by omega, fun _ => this⟩
theorem QhI : ∀ s t : Str, vcmpS s t = lexF (fun a b : UInt8 => sgn a.toNat b.toNat) s t
 | [], [] => rfl
 | [], _ :: _ => rfl
 | _ :: _, [] => rfl
 | a :: s, b :: t => by
  simp only [vcmpS, lexF, QhI s t]
  by_cases h : a = b
  ·subst h; rw [QdZ]; simp
  ·have : ¬ sgn a.toNat b.toNat = 0 := fun e => h (UInt8.toNat_inj.1 (by have := Qal.1 e; omega))
   rw [if_neg h, if_pos this]
theorem Lin.txt : Lin vcmpS fun _ => True := by
 have h := (Lin.sgn.comp (fun a : UInt8 => (a.toNat : Int))).lex
 have e : vcmpS = lexF (fun a b : UInt8 => Sx.sgn a.toNat b.toNat) := funext fun s => funext fun t => QhI s t
 rw [e]
 exact h.sub fun _ _ _ _ => trivial
theorem Lin.dig : Lin cmpD fun _ => True := by
 have h := (Lin.sgn.comp (fun a : Str => (a.length : Int))).or Lin.txt
 have e : cmpD = fun a b : Str => if Sx.sgn a.length b.length ≠ 0 then Sx.sgn a.length b.length else vcmpS a b := funext fun a => funext fun b => by
  unfold cmpD
  by_cases hl : a.length = b.length
  ·rw [if_pos hl, if_neg (by rw [hl, QdZ]; simp)]
  ·rw [if_neg hl, if_pos (fun e => hl (by have := Qal.1 e; omega))]
 rw [e]; exact h
theorem Lin.bigs : Lin cmpB fun _ => True := by
 have h := Lin.sel (α := Str) (P := fun _ => True) (κ := fun s => if isMin s then 0 else 1) (B := fun k a b => if k = 0 then cmpD b.tail a.tail else cmpD a b) Lin.sgn fun k => by
  by_cases hk : k = 0
  ·subst hk
   simp only [if_true]
   exact (Lin.dig.swap.comp List.tail)
  ·simp only [if_neg hk]
   exact Lin.dig
 have e : cmpB = fun a b : Str => if (if isMin a then (0 : Int) else 1) ≠ (if isMin b then 0 else 1) then Sx.sgn (if isMin a then 0 else 1) (if isMin b then 0 else 1) else (if (if isMin a then (0 : Int) else 1) = 0 then cmpD b.tail a.tail else cmpD a b) := funext fun a => funext fun b => by
  unfold cmpB
  cases ha : isMin a <;> cases hb : isMin b <;> simp [Sx.sgn]
 rw [e]; exact h
theorem QfK : ∀ l m : List V, cmpVs l m = lexF cmpV l m
 | [], [] => rfl
 | [], _ :: _ => rfl
 | _ :: _, [] => rfl
 | v :: l, w :: m => by simp only [cmpVs, lexF, QfK l m]
theorem Lin.vals : ∀ n : Nat, Lin cmpV fun v => vsize v ≤ n := by
 intro n
 induction n with
 | zero => exact ⟨fun a b ha => by obtain ⟨k, n, s, l⟩ := a; simp [vsize] at ha, fun a b ha => by obtain ⟨k, n, s, l⟩ := a; simp [vsize] at ha, fun a b c ha => by obtain ⟨k, n, s, l⟩ := a; simp [vsize] at ha⟩
 | succ n ih =>
  have hl : Lin (fun v w : V => cmpVs v.l w.l) fun v => vsize v ≤ n + 1 := by
   have h := (ih.lex).comp V.l
   have e : (fun v w : V => cmpVs v.l w.l) = fun v w : V => lexF cmpV v.l w.l := funext fun v => funext fun w => QfK _ _
   rw [e]
   exact h.sub fun v hv x hx => by have := QhY hx; omega
  have hs : Lin (fun v w : V => vcmpS v.s w.s) fun v => vsize v ≤ n + 1 := (Lin.txt.comp V.s).sub fun _ _ => trivial
  have h := Lin.sel (α := V) (P := fun v => vsize v ≤ n + 1) (κ := V.k) (B := fun k v w => if k = 3 then cmpB v.s w.s else if k = 4 then vcmpS v.s w.s else if k = 5 then cmpVs v.l w.l else if k = 6 then (if vcmpS v.s w.s ≠ 0 then vcmpS v.s w.s else cmpVs v.l w.l) else Sx.sgn v.n w.n) Lin.sgn fun k => by
   by_cases h3 : k = 3
   ·simp only [if_pos h3]; exact (Lin.bigs.comp V.s).sub fun _ _ => trivial
   simp only [if_neg h3]
   by_cases h4 : k = 4
   ·simp only [if_pos h4]; exact hs
   simp only [if_neg h4]
   by_cases h5 : k = 5
   ·simp only [if_pos h5]; exact hl
   simp only [if_neg h5]
   by_cases h6 : k = 6
   ·simp only [if_pos h6]; exact hs.or hl
   simp only [if_neg h6]
   exact (Lin.sgn.comp V.n).sub fun _ _ => trivial
  have e : cmpV = fun v w : V => if v.k ≠ w.k then Sx.sgn v.k w.k else if v.k = 3 then cmpB v.s w.s else if v.k = 4 then vcmpS v.s w.s else if v.k = 5 then cmpVs v.l w.l else if v.k = 6 then (if vcmpS v.s w.s ≠ 0 then vcmpS v.s w.s else cmpVs v.l w.l) else Sx.sgn v.n w.n := funext fun v => funext fun w => QgQ v w
  rw [e]; exact h
theorem Lin.val : Lin cmpV fun _ => True := by
 refine ⟨fun a b _ _ => ?_, fun a b _ _ => ?_, fun a b c _ _ _ => ?_⟩
 ·exact (Lin.vals (vsize a + vsize b)).anti a b (by omega) (by omega)
 ·exact (Lin.vals (vsize a + vsize b)).rng a b (by omega) (by omega)
 ·exact (Lin.vals (vsize a + vsize b + vsize c)).tr a b c (by omega) (by omega) (by omega)
theorem Lin.vs : Lin cmpVs fun _ => True := by
 have e : cmpVs = lexF cmpV := funext fun l => funext fun m => QfK l m
 rw [e]
 exact Lin.val.lex.sub fun _ _ _ _ => trivial
theorem Lin.row : Lin cmpR fun _ => True := by
 have h := Lin.sel (α := List V) (P := fun _ => True) (κ := fun l => if mayR l then 0 else 1) (B := fun k a b => if k = 0 then cmpVs a b else 0) Lin.sgn fun k => by
  by_cases hk : k = 0
  ·simp only [if_pos hk]; exact Lin.vs
  ·simp only [if_neg hk]
   exact ⟨fun _ _ _ _ => rfl, fun _ _ _ _ => by simp, fun _ _ _ _ _ _ _ _ => by simp⟩
 have e : cmpR = fun a b : List V => if (if mayR a then (0 : Int) else 1) ≠ (if mayR b then 0 else 1) then Sx.sgn (if mayR a then 0 else 1) (if mayR b then 0 else 1) else (if (if mayR a then (0 : Int) else 1) = 0 then cmpVs a b else 0) := funext fun a => funext fun b => by
  unfold cmpR lastB
  cases ha : mayR a <;> cases hb : mayR b <;> simp [Sx.sgn]
 rw [e]; exact h
theorem Qhk {a b : Str} (h : cmpD a b = 0) : a = b := by
 unfold cmpD at h
 by_cases hl : a.length = b.length
 ·rw [if_pos hl] at h; exact (vslt a b).2.1.1 h
 ·rw [if_neg hl] at h; exact absurd (Qal.1 h) (by omega)
theorem Qgu {a : Str} (h : isMin a = true) : a = 45 :: a.tail := by
 cases a with
 | nil => simp [isMin] at h
 | cons c a => simp [isMin] at h; rw [h]; rfl
theorem QiE {a b : Str} (h : cmpB a b = 0) : a = b := by
 unfold cmpB at h
 cases ha : isMin a <;> cases hb : isMin b <;> rw [ha, hb] at h
 ·exact Qhk (by simpa using h)
 ·simp at h
 ·simp at h
 ·have := Qhk (by simpa using h)
  rw [Qgu ha, Qgu hb, this]
theorem QiG {v w : V} (hv : formV v = true) (hw : formV w = true) (h : cmpV v w = 0) : v = w := by
 have key : ∀ n, ∀ v w : V, vsize v ≤ n → formV v = true → formV w = true → cmpV v w = 0 → v = w := by
  intro n
  induction n with
  | zero => intro v w hn; obtain ⟨k, n, s, l⟩ := v; simp [vsize] at hn
  | succ n ih =>
   intro v w hn hv hw h
   have hrow : ∀ l m : List V, (∀ x ∈ l, vsize x ≤ n) → formVs l = true → formVs m = true → cmpVs l m = 0 → l = m := by
    intro l
    induction l with
    | nil => intro m _ _ _ h; cases m with
     | nil => rfl
     | cons w m => simp [cmpVs] at h
    | cons a l ihl =>
     intro m hn hl hm h
     cases m with
     | nil => simp [cmpVs] at h
     | cons b m =>
      simp only [cmpVs] at h
      simp only [formVs, Bool.and_eq_true] at hl hm
      split at h
      ·rename_i h1; exact absurd h h1
      ·rename_i h1
       have h1 : cmpV a b = 0 := by omega
       rw [ih a b (hn a (List.mem_cons_self ..)) hl.1 hm.1 h1, ihl m (fun x hx => hn x (List.mem_cons_of_mem _ hx)) hl.2 hm.2 h]
   have hvl : ∀ x ∈ v.l, vsize x ≤ n := fun x hx => by have := QhY hx; omega
   rw [Qfy, Bool.and_eq_true] at hv hw
   rw [QgQ] at h
   have ext : v.k = w.k → v.n = w.n → v.s = w.s → v.l = w.l → v = w := by
    intro e1 e2 e3 e4
    obtain ⟨k, n1, s, l⟩ := v
    obtain ⟨k', n1', s', l'⟩ := w
    have e1 : k = k' := e1
    have e2 : n1 = n1' := e2
    have e3 : s = s' := e3
    have e4 : l = l' := e4
    rw [e1, e2, e3, e4]
   by_cases hk : v.k = w.k
   ·rw [if_neg (by simp [hk])] at h
    rcases QbR hv.1 with ⟨e, e1, e2⟩ | ⟨e, e1, e2⟩ | ⟨e, e1, e2⟩ | ⟨e, e1, e2⟩ | ⟨e, e1, e2⟩ | ⟨e, e1⟩ <;>
    rcases QbR hw.1 with ⟨f, f1, f2⟩ | ⟨f, f1, f2⟩ | ⟨f, f1, f2⟩ | ⟨f, f1, f2⟩ | ⟨f, f1, f2⟩ | ⟨f, f1⟩ <;> try (exfalso; omega)
    ·rw [if_neg (by omega), if_neg (by omega), if_neg (by omega), if_neg (by omega)] at h
     exact ext hk (Qal.1 h) (e1.trans f1.symm) ((List.length_eq_zero_iff.1 e2).trans (List.length_eq_zero_iff.1 f2).symm)
    ·rw [if_neg (by omega), if_neg (by omega), if_neg (by omega), if_neg (by omega)] at h
     exact ext hk (Qal.1 h) (e1.trans f1.symm) ((List.length_eq_zero_iff.1 e2).trans (List.length_eq_zero_iff.1 f2).symm)
    ·rw [if_pos e] at h
     exact ext hk (e1.trans f1.symm) (QiE h) ((List.length_eq_zero_iff.1 e2).trans (List.length_eq_zero_iff.1 f2).symm)
    ·rw [if_neg (by omega), if_pos e] at h
     exact ext hk (e1.trans f1.symm) ((vslt v.s w.s).2.1.1 h) ((List.length_eq_zero_iff.1 e2).trans (List.length_eq_zero_iff.1 f2).symm)
    ·rw [if_neg (by omega), if_neg (by omega), if_pos e] at h
     exact ext hk (e1.trans f1.symm) (e2.trans f2.symm) (hrow v.l w.l hvl hv.2 hw.2 h)
    ·rw [if_neg (by omega), if_neg (by omega), if_neg (by omega), if_pos e] at h
     split at h
     ·rename_i h1; exact absurd h h1
     ·rename_i h1
      exact ext hk (e1.trans f1.symm) ((vslt v.s w.s).2.1.1 (by omega)) (hrow v.l w.l hvl hv.2 hw.2 h)
   ·rw [if_pos hk] at h; exact absurd (Qal.1 h) hk
 exact key _ v w (Nat.le_refl _) hv hw h
theorem Qgr : ∀ {l m : List V}, mayR l = true → mayR m = true → cmpVs l m = 0 → l = m
 | [], [], _, _, _ => rfl
 | [], _ :: _, _, _, h => by simp [cmpVs] at h
 | _ :: _, [], _, _, h => by simp [cmpVs] at h
 | v :: l, w :: m, hl, hm, h => by
  simp only [cmpVs] at h
  simp only [mayR, List.all_cons, Bool.and_eq_true] at hl hm
  split at h
  ·rename_i h1; exact absurd h h1
  ·rename_i h1
   rw [QiG (QbQ hl.1) (QbQ hm.1) (by omega), Qgr (l := l) (m := m) hl.2 hm.2 h]
theorem QiF {l m : List V} (hl : mayR l = true) (hm : mayR m = true) : cmpR l m = 0 ↔ l = m := by
 refine ⟨fun h => ?_, fun h => by rw [h]; exact Lin.row.refl trivial⟩
 unfold cmpR at h
 rw [if_pos ⟨hl, hm⟩] at h
 exact Qgr hl hm h
end
section
open Go Go.Proofs
section
variable {α : Type} {κ : α → α → Int} {ι : α → Nat} {P : α → Prop}
/-- stands ahead; of two alike the one that was ahead -/
def Bf (κ : α → α → Int) (ι : α → Nat) (x y : α) : Prop := κ x y < 0 ∨ (κ x y = 0 ∧ ι x < ι y)
/-- what was sorted by blocks -/
inductive Ch (κ : α → α → Int) (ι : α → Nat) (bs : Nat) : List α → List α → Prop
 | last {Z L : List α} : L.length < bs → Z.Perm L → Z.Pairwise (Bf κ ι) → Ch κ ι bs Z L
 | cons {Z L Z' L' : List α} : L.length = bs → Z.Perm L → Z.Pairwise (Bf κ ι) → Ch κ ι bs Z' L' → Ch κ ι bs (Z ++ Z') (L ++ L')
theorem Ch.perm {bs : Nat} {Z L : List α} (h : Ch κ ι bs Z L) : Z.Perm L := by
 induction h with
 | last _ h _ => exact h
 | cons _ h _ _ ih => exact h.append ih
theorem Ch.all {bs : Nat} {Z L : List α} (h : Ch κ ι bs Z L) (hl : L.length ≤ bs) (h0 : 0 < bs) : Z.Pairwise (Bf κ ι) := by
 cases h with
 | last _ _ h => exact h
 | @cons Z1 L1 Z2 L2 h1 h2 h3 h4 =>
  rw [List.length_append] at hl
  have hp := h4.perm.length_eq
  have e : Z2 = [] := List.length_eq_zero_iff.1 (by rw [hp]; omega)
  rw [e, List.append_nil]; exact h3
end
end
section
open Go Go.Proofs
section
variable {α β : Type} {κ : α → α → Int} {ι : α → Nat} {P : α → Prop}
/-- of each kind the first one, rising -/
structure Rep (κ : α → α → Int) (ι : α → Nat) (L A : List α) : Prop where
 asc : A.Pairwise fun a b => κ a b < 0
 sub : ∀ y ∈ A, y ∈ L
 all : ∀ x ∈ L, ∃ y ∈ A, κ y x = 0
 fst : ∀ y ∈ A, ∀ x ∈ L, κ y x = 0 → x = y ∨ ι y < ι x
theorem QiB (hL : Lin κ P) : ∀ {A B : List α}, A.Pairwise (fun a b => κ a b < 0) → B.Pairwise (fun a b => κ a b < 0) → (∀ x ∈ A, P x) → (∀ x, x ∈ A ↔ x ∈ B) → A = B
 | [], [], _, _, _, _ => rfl
 | [], b :: B, _, _, _, h => absurd ((h b).2 (List.mem_cons_self ..)) (by simp)
 | a :: A, [], _, _, _, h => absurd ((h a).1 (List.mem_cons_self ..)) (by simp)
 | a :: A, b :: B, hA, hB, hP, h => by
  rw [List.pairwise_cons] at hA hB
  have hab : a = b := by
   rcases List.mem_cons.1 ((h a).1 (List.mem_cons_self ..)) with e | e
   ·exact e
   rcases List.mem_cons.1 ((h b).2 (List.mem_cons_self ..)) with e2 | e2
   ·exact e2.symm
   have h1 := hB.1 a e
   have h2 := hA.1 b e2
   have := hL.anti a b (hP a (List.mem_cons_self ..)) (hP b ((h b).2 (List.mem_cons_self ..)))
   omega
  subst hab
  have hr := hL.refl (hP a (List.mem_cons_self ..))
  rw [QiB hL hA.2 hB.2 (fun x hx => hP x (List.mem_cons_of_mem _ hx)) fun x => ⟨fun hx => ?_, fun hx => ?_⟩]
  ·rcases List.mem_cons.1 ((h x).1 (List.mem_cons_of_mem _ hx)) with e | e
   ·have := hA.1 x hx; rw [e] at this; omega
   ·exact e
  ·rcases List.mem_cons.1 ((h x).2 (List.mem_cons_of_mem _ hx)) with e | e
   ·have := hB.1 x hx; rw [e] at this; omega
   ·exact e
end
end
section
open Go Go.Proofs
def Heap.new (H H2 : Heap) : Heap := fun x => if (H x).isSome then none else H2 x
theorem Heap.new_some {H H2 : Heap} {x : Nat} {e : Bool × GO} (h : H2 x = some e) (hn : H x = none) : Heap.new H H2 x = some e := by
 unfold Heap.new; rw [hn]; exact h
theorem Heap.new_inv {H H2 : Heap} {x : Nat} {e : Bool × GO} (h : Heap.new H H2 x = some e) : H x = none ∧ H2 x = some e := by
 unfold Heap.new at h
 cases hx : H x with
 | none => rw [hx] at h; exact ⟨rfl, h⟩
 | some y => rw [hx] at h; cases h
theorem Heap.new_le (H H2 : Heap) : (Heap.new H H2).le H2 := fun x e h => (Heap.new_inv h).2
/-- a row of values that may be written over, with all that is in it: its blocks are N's; k deep at most -/
def Sp (N : Nat → Prop) (H : Heap) : Nat → Sl → Prop
 | 0, t => t.len = 0
 | k + 1, t => t.len = 0 ∨ ∃ (b : Nat) (xs : List TV) (sp : List Value), N b ∧ t.p = some (b, 0) ∧ t.x = none ∧ H b = some (true, .row (xs.flatMap Qa.c ++ sp)) ∧ (t.len ≤ xs.length ∧ xs.length ≤ 1000000) ∧ ∀ x ∈ xs, Sp N H k x.L
section
variable {N M : Nat → Prop} {H H2 : Heap}
theorem Sp.mono : ∀ {k : Nat} {t : Sl}, Sp N H k t → Sp N H (k + 1) t
 | 0, t, h => .inl h
 | k + 1, t, .inl h => .inl h
 | k + 1, t, .inr ⟨b, xs, sp, h1, h2, h3, h4, h5, h6⟩ => .inr ⟨b, xs, sp, h1, h2, h3, h4, h5, fun x hx => Sp.mono (h6 x hx)⟩
theorem Sp.up {k m : Nat} {t : Sl} (h : Sp N H k t) (hk : k ≤ m) : Sp N H m t := by
 induction hk with
 | refl => exact h
 | step _ ih => exact ih.mono
theorem Sp.to (h : ∀ b e, N b → H b = some e → M b ∧ H2 b = some e) : ∀ {k : Nat} {t : Sl}, Sp N H k t → Sp M H2 k t
 | 0, t, h0 => h0
 | k + 1, t, .inl h0 => .inl h0
 | k + 1, t, .inr ⟨b, xs, sp, h1, h2, h3, h4, h5, h6⟩ => .inr ⟨b, xs, sp, (h b _ h1 h4).1, h2, h3, (h b _ h1 h4).2, h5, fun x hx => Sp.to h (h6 x hx)⟩
theorem Sp.all : ∀ {xs : List TV}, (∀ x ∈ xs, ∃ k, Sp N H k x.L) → ∃ k, ∀ x ∈ xs, Sp N H k x.L
 | [], _ => ⟨0, fun x hx => by cases hx⟩
 | y :: xs, h => by
  obtain ⟨k, hk⟩ := h y (List.mem_cons_self ..)
  obtain ⟨m, hm⟩ := Sp.all (xs := xs) fun x hx => h x (List.mem_cons_of_mem _ hx)
  refine ⟨max k m, fun x hx => ?_⟩
  rcases List.mem_cons.1 hx with rfl | hx
  ·exact hk.up (Nat.le_max_left ..)
  ·exact (hm x hx).up (Nat.le_max_right ..)
/-- what a copy is -/
structure Made (H H2 : Heap) (l : List V) (t : Sl) : Prop where
 le : H.le H2
 row : VRow (Heap.new H H2) t l
 sp : ∃ k, Sp (fun b => H b = none) H2 k t
 cp : t.len ≤ t.cap
theorem Made.row2 {l : List V} {t : Sl} (h : Made H H2 l t) : VRow H2 t l := h.row.le (Heap.new_le _ _)
theorem Made.up {H3 : Heap} {l : List V} {t : Sl} (h : Made H H2 l t) (hle : H2.le H3) : Made H H3 l t := by
 refine ⟨h.le.trans hle, h.row.le fun x e hx => ?_, ?_, h.cp⟩
 ·obtain ⟨a, b⟩ := Heap.new_inv hx
  exact Heap.new_some (hle _ _ b) a
 ·obtain ⟨k, hk⟩ := h.sp
  exact ⟨k, hk.to fun b e h he => ⟨h, hle b e he⟩⟩
theorem QgF : ∀ l : List V, l.length ≤ vsizes l
 | [] => Nat.le_refl _
 | v :: l => by
  have := QgF l
  have hv : vsize v = vsizes v.l + 1 := by cases v; rfl
  simp only [vsizes, List.length_cons]; omega
theorem flat4 : ∀ xs : List TV, (xs.flatMap Qa.c).length = xs.length * 4
 | [] => rfl
 | x :: xs => by rw [List.flatMap_cons, List.length_append, flat4 xs, TV.c_len, List.length_cons]; omega
/-- the copy's loop: what stands in the copy's block b over B -/
structure Ow (A H B : Heap) (b i : Nat) (l : List V) (xs ys : List TV) : Prop where
 le : H.le B
 ale : A.le B
 nb : B b = none
 len : ys.length = l.length
 xlen : xs.length = l.length
 old : VsAre A l xs
 rest : ∀ j, i ≤ j → ys[j]? = xs[j]?
 done : ∀ (j : Nat) (v : V) (x : TV), j < i → l[j]? = some v → ys[j]? = some x → VIs (Heap.new H B) v x ∧ ∃ k, Sp (fun c => H c = none) B k x.L
/-- a list that grows: what is made in it stands beside its own block -/
structure Od (H B : Heap) (l : List V) (s : Sl) (ys : List TV) : Prop where
 own : OwnF H B 4 s (ys.flatMap Qa.c)
 le : ys.length ≤ l.length
 done : ∀ (j : Nat) (v : V) (x : TV), l[j]? = some v → ys[j]? = some x → VIs (Heap.new H (B.off s)) v x ∧ ∃ k, Sp (fun c => H c = none) (B.off s) k x.L
theorem Od.nil {l : List V} : Od H H l Sl.nil [] := ⟨OwnF.nil H 4, Nat.zero_le _, fun j v x _ hx => by simp at hx⟩
theorem Od.step {B B2 B3 B4 : Heap} {g : GO} {b : Nat} {l : List V} {s r t : Sl} {ys : List TV} {x : TV} (h : Od H B l s ys) (hb : B b = none) (hi : ys.length < l.length) (hm : Made (B.put b g) B2 l[ys.length].l t)
 (hx : x.Kind = l[ys.length].k ∧ x.N = l[ys.length].n ∧ x.S = l[ys.length].s) (hL : x.L = t) (h3 : Heap.but b B2 B3) (h4 : OwnF (B3.off s) B4 4 r (ys.flatMap Qa.c ++ Qa.c x)) : Od H B4 l r (ys ++ [x]) := by
 have hB2 : B.le B2 := (Heap.le_put hb).trans hm.le
 have hHb : H b = none := h.own.le.none hb
 have hB3 : H.le B3 := Heap.le.of_but (h.own.le.trans hB2) h3 hHb
 have hoff : (B.off s).le (B3.off s) := fun c e hc => by
  have hc' := Heap.off_le _ _ _ _ hc
  have hne : c ≠ b := fun e' => by rw [e', hb] at hc'; cases hc'
  refine Heap.off_some (h3 _ _ hne (hB2 _ _ hc')) fun p hp e' => ?_
  have := Heap.off_fresh s B p hp
  rw [e', hc] at this; cases this
 have h34 : (B3.off s).le (B4.off r) := Heap.le_off h4.le h4.fresh
 have hch : ∀ c e, (B.put b g) c = none → B2 c = some e → H c = none ∧ (B4.off r) c = some e := fun c e hn he => by
  have hne : c ≠ b := fun e' => by rw [e', Heap.put_same] at hn; cases hn
  rw [Heap.put_ne _ _ _ hne] at hn
  refine ⟨h.own.le.none hn, h34 _ _ (Heap.off_some (h3 _ _ hne he) fun p hp e' => ?_)⟩
  obtain ⟨g', hg'⟩ := h.own.own.mine hp
  rw [e', hn] at hg'; cases hg'
 have hnn : (Heap.new H (B.off s)).le (Heap.new H (B4.off r)) := fun c e hc => by
  obtain ⟨a1, a2⟩ := Heap.new_inv hc
  exact Heap.new_some (h34 _ _ (hoff _ _ a2)) a1
 refine ⟨?_, by rw [List.length_append]; exact hi, fun j v y hv hy => ?_⟩
 ·have e : (ys ++ [x]).flatMap Qa.c = ys.flatMap Qa.c ++ Qa.c x := by rw [List.flatMap_append, List.flatMap_singleton]
  rw [e]
  exact h4.down (Heap.le_off hB3 h.own.fresh)
 ·by_cases hj : j < ys.length
  ·rw [List.getElem?_append_left hj] at hy
   obtain ⟨d1, k, d2⟩ := h.done j v y hv hy
   exact ⟨d1.le hnn, k, d2.to fun c e h he => ⟨h, h34 _ _ (hoff _ _ he)⟩⟩
  ·have hjl := (List.getElem?_eq_some_iff.1 hy).1
   rw [List.length_append, List.length_singleton] at hjl
   have hje : j = ys.length := by omega
   subst hje
   rw [List.getElem?_append_right (Nat.le_refl _), Nat.sub_self] at hy
   simp only [List.getElem?_cons_zero, Option.some.injEq] at hy
   rw [List.getElem?_eq_getElem hi] at hv
   have hv := Option.some.inj hv
   subst hy; subst hv
   refine ⟨Qei.2 ⟨hx.1, hx.2.1, hx.2.2, ?_⟩, ?_⟩
   ·rw [hL]
    refine hm.row.le fun c e hc => ?_
    obtain ⟨a1, a2⟩ := Heap.new_inv hc
    obtain ⟨a3, a4⟩ := hch c e a1 a2
    exact Heap.new_some a4 a3
   ·obtain ⟨k, hk⟩ := hm.sp
    rw [hL]
    exact ⟨k, hk.to fun c e h he => hch c e h he⟩
theorem Od.fin {B : Heap} {l : List V} {s : Sl} {ys : List TV} (h : Od H B l s ys) (hn : ys.length = l.length) (hz : l.length ≤ 1000000) : Made H B l s := by
 have hnn : (Heap.new H (B.off s)).le (Heap.new H B) := fun x e hx => by
  obtain ⟨a, c⟩ := Heap.new_inv hx
  exact Heap.new_some (Heap.off_le _ _ _ _ c) a
 have hf := flat4 ys
 obtain ⟨o1, o2, o3, o4⟩ := h.own.own
 have hlen : s.len = ys.length := by omega
 have hvs : VsAre (Heap.new H B) l ys := VsAre.of hn.symm fun i v x hv hx => (h.done i v x hv hx).1.le hnn
 refine ⟨h.own.le, ⟨ys, ?_, hlen, hvs⟩, ?_, o3⟩
 ·rcases o4 with ⟨p0, c0⟩ | ⟨b, sp, hp, hb, hc⟩
  ·left
   have : ys.length = 0 := by omega
   rw [List.length_eq_zero_iff.1 this]; rfl
  ·refine .inr ⟨o2, _, hp, QdK (Heap.new_some hb (h.own.fresh _ hp)) fun j v hj => ?_⟩
   rw [Nat.zero_add, List.getElem?_append_left (List.getElem?_eq_some_iff.1 hj).1]; exact hj
 ·obtain ⟨k, hk⟩ : ∃ k, ∀ x ∈ ys, Sp (fun c => H c = none) B k x.L := Sp.all fun x hx => by
   obtain ⟨j, hj, e⟩ := List.getElem_of_mem hx
   have hl : j < l.length := by rw [← hn]; exact hj
   obtain ⟨_, k, hk⟩ := h.done j l[j] x (List.getElem?_eq_getElem hl) (by rw [List.getElem?_eq_getElem hj, e])
   exact ⟨k, hk.to fun c e h he => ⟨h, Heap.off_le _ _ _ _ he⟩⟩
  refine ⟨k + 1, ?_⟩
  rcases o4 with ⟨p0, c0⟩ | ⟨b, sp, hp, hb, hc⟩
  ·exact .inl (by omega)
  ·exact .inr ⟨b, ys, sp, h.own.fresh _ hp, hp, o2, hb, ⟨by omega, by omega⟩, hk⟩
/-- a list of rows that grows, each a copy -/
structure Og (H B : Heap) (ls : List (List V)) (s : Sl) (ys : List Sl) : Prop where
 own : OwnF H B 1 s (ys.map slv)
 le : ys.length ≤ ls.length
 done : ∀ (j : Nat) (l : List V) (y : Sl), ls[j]? = some l → ys[j]? = some y → Made H (B.off s) l y
theorem Og.nil {ls : List (List V)} : Og H H ls Sl.nil [] := ⟨OwnF.nil H 1, Nat.zero_le _, fun j l y _ hy => by simp at hy⟩
theorem Made.off {B : Heap} {l : List V} {s t : Sl} (h : Made B H2 l t) (hle : H.le B) (hf : Fresh H s) (hs : ∀ p, s.p = some p → ∃ g, B p.1 = some (true, g)) : Made H (H2.off s) l t := by
 have hne : ∀ c, B c = none → ∀ p, s.p = some p → p.1 ≠ c := fun c hc p hp e => by
  obtain ⟨g, hg⟩ := hs p hp
  rw [e, hc] at hg; cases hg
 refine ⟨Heap.le_off (hle.trans h.le) hf, h.row.le fun c e hc => ?_, ?_, h.cp⟩
 ·obtain ⟨a, b⟩ := Heap.new_inv hc
  exact Heap.new_some (Heap.off_some b (hne c a)) (hle.none a)
 ·obtain ⟨k, hk⟩ := h.sp
  exact ⟨k, hk.to fun c e hc he => ⟨hle.none hc, Heap.off_some he (hne c hc)⟩⟩
theorem Og.step {B B2 B4 : Heap} {ls : List (List V)} {s r t : Sl} {ys : List Sl} (h : Og H B ls s ys) (hi : ys.length < ls.length) (hm : Made B B2 ls[ys.length] t) (h4 : OwnF (B2.off s) B4 1 r (ys.map slv ++ [slv t])) : Og H B4 ls r (ys ++ [t]) := by
 have hoff : H.le (B2.off s) := Heap.le_off (h.own.le.trans hm.le) h.own.fresh
 have h34 : (B2.off s).le (B4.off r) := Heap.le_off h4.le h4.fresh
 have h12 : (B.off s).le (B2.off s) := Heap.le_off ((Heap.off_le s B).trans hm.le) (Heap.off_fresh s B)
 refine ⟨?_, by rw [List.length_append]; exact hi, fun j l y hl hy => ?_⟩
 ·have e : (ys ++ [t]).map slv = ys.map slv ++ [slv t] := by simp
  rw [e]; exact h4.down hoff
 ·by_cases hj : j < ys.length
  ·rw [List.getElem?_append_left hj] at hy
   exact (h.done j l y hl hy).up (h12.trans h34)
  ·have hjl := (List.getElem?_eq_some_iff.1 hy).1
   rw [List.length_append, List.length_singleton] at hjl
   have hje : j = ys.length := by omega
   subst hje
   rw [List.getElem?_append_right (Nat.le_refl _), Nat.sub_self] at hy
   simp only [List.getElem?_cons_zero, Option.some.injEq] at hy
   rw [List.getElem?_eq_getElem hi] at hl
   have hl := Option.some.inj hl
   subst hy; subst hl
   exact (hm.off h.own.le h.own.fresh fun p hp => h.own.own.mine hp).up h34
/-- rows in order, each once, in memory of their own -/
structure Srt (H H2 : Heap) (ls : List (List V)) (t : Sl) (A : List (Sl × (List V × Nat))) : Prop where
 own : OwnF H H2 1 t (A.map fun e => slv e.1)
 row : ∀ e ∈ A, Made H (H2.off t) e.2.1 e.1
 rep : Rep (fun a b => cmpR a.1 b.1) (fun a => a.2) ls.zipIdx (A.map fun e => e.2)
 few : A.length ≤ ls.length
end
end
section
open Go Go.Proofs
section
variable {C : Ctx} {H : Heap}
end
end
section
open Go
theorem Qde {n : Nat} (h : n < 256) : (UInt8.ofNat n).toNat = n := by rw [UInt8.toNat_ofNat']; omega
def valN (l : Str) : Nat := l.foldl (fun a c => 10 * a + (c.toNat - 48)) 0
theorem Qj9 (u : Nat) : valN (Lib.decDigits u) = u := by
 induction u using Nat.strongRecOn with
 | _ u ih =>
  rw [Lib.decDigits]
  split
  ·rename_i h
   have := Qde (n := 48 + u) (by omega)
   simp only [valN, List.foldl_cons, List.foldl_nil, this]; omega
  ·rename_i h
   have e := ih (u / 10) (by omega)
   have := Qde (n := 48 + u % 10) (by omega)
   unfold valN at e ⊢
   rw [List.foldl_append, e]
   simp only [List.foldl_cons, List.foldl_nil, this]; omega
theorem Qh3 (u : Nat) : (∀ c ∈ Lib.decDigits u, digC c = true) ∧ Lib.decDigits u ≠ [] := by
 induction u using Nat.strongRecOn with
 | _ u ih =>
  rw [Lib.decDigits]
  split
  ·rename_i h
   refine ⟨fun c hc => ?_, by simp⟩
   rw [List.mem_singleton] at hc
   subst hc
   have := Qde (n := 48 + u) (by omega)
   unfold digC
   rw [this]
   simp only [Bool.and_eq_true, decide_eq_true_eq]; omega
  ·rename_i h
   refine ⟨fun c hc => ?_, by simp⟩
   rw [List.mem_append, List.mem_singleton] at hc
   rcases hc with hc | rfl
   ·exact (ih (u / 10) (by omega)).1 c hc
   ·have := Qde (n := 48 + u % 10) (by omega)
    unfold digC
    rw [this]
    simp only [Bool.and_eq_true, decide_eq_true_eq]; omega
theorem Qj8 {u v : Nat} (h : Lib.decDigits u = Lib.decDigits v) : u = v := by rw [← Qj9 u, h, Qj9 v]
theorem Qh6 {m n : Int} (h : Lib.itoa m = Lib.itoa n) : m = n := by
 have ne : ∀ u v : Nat, (45 : UInt8) :: Lib.decDigits u ≠ Lib.decDigits v := fun u v e => by
  have := (Qh3 v).1 45 (by rw [← e]; exact List.mem_cons_self ..)
  exact absurd this (by decide)
 unfold Lib.itoa at h
 split at h <;> split at h
 ·injection h with _ h
  have := Qj8 h; omega
 ·exact absurd h (ne _ _)
 ·exact absurd h.symm (ne _ _)
 ·have := Qj8 h; omega
theorem QjG {n : Int} {c : UInt8} (h : c ∈ Lib.itoa n) : digC c = true ∨ c = 45 := by
 unfold Lib.itoa at h
 split at h
 ·rcases List.mem_cons.1 h with h | h
  ·exact .inr h
  ·exact .inl ((Qh3 _).1 c h)
 ·exact .inl ((Qh3 _).1 c h)
theorem QiU (n : Int) : Lib.itoa n ≠ [] := by
 unfold Lib.itoa
 split
 ·simp
 ·exact (Qh3 _).2
end
section
open Go Go.Proofs
section
variable {C : Ctx} {H : Heap}
theorem Qfa {b : Nat} {p : Option (Nat × Nat)} {s : Sl} {K : Heap → Prop} (hb : H b = some (true, .trow tyB 0 [pv p, slv s])) (hp : p = none ∨ p = some (b, 0)) (k : K (H.put b (.trow tyB 0 [pv (some (b, 0)), slv s]))) : QD C (some (b, 0)) K H := by
 apply QbJ
 unfold Qaw
 refine ⟨_, rfl, p, by simp [rd, hb, GO.cells?], ?_⟩
 rcases hp with rfl | rfl
 ·exact Qq rfl ⟨(b, 0), rfl, ⟨true, _, 0, _, hb, by simp⟩, ⟨true, 0, _, hb, rfl, rfl⟩, _, rfl, _, 0, _, hb, Nat.le_refl _, by simp, k⟩
 ·refine Qh rfl ⟨_, rfl, some (b, 0), by simp [rd, hb, GO.cells?], (b, 0), rfl, rfl, Qh rfl ?_⟩
  have : H.put b (.trow tyB 0 [pv (some (b, 0)), slv s]) = H := Heap.put_id hb
  rw [this] at k; exact k
theorem QgA {H : Heap} {b : Nat} {p : Option (Nat × Nat)} {s : Sl} {t : TypeId} (hb : H b = some (true, .trow t 0 [pv p, slv s])) : rd H (b, 0 + 1) = some (slv s) := by simp [rd, hb, GO.cells?]
theorem Qcv {b : Nat} {bs c : Str} {K : Int → Value → Heap → Prop} (h : IsB tyB tyE H b bs) (hl : bs.length + c.length ≤ 140737488355328) (k : K (c.length : Int) .nilIface (H.put b (Bd (bs ++ c)))) : Qc C (some (b, 0)) c K H := by
 apply Qc.gh
 refine h.open_ fun p s H' ho => ?_
 refine Qbs _ _ _ _ _ ?_
 unfold Qah
 refine Qfa ho.row ho.self ?_
 have ho2 := ho.setP (p2 := some (b, 0)) (.inr rfl)
 refine ⟨_, rfl, s, QgA ho2.row, ?_⟩
 refine ho2.apd (by obtain ⟨g, hg⟩ := h.some; exact ⟨_, hg⟩) (ys := c) hl fun r H3 h3 hr => ?_
 exact ⟨_, rfl, _, 0, _, hr, Nat.zero_le _, by simp, _, Gh.hideB h3, k⟩
theorem QiA {b : Nat} {bs : Str} {K : Str → Heap → Prop} (h : IsB tyB tyE H b bs) (hl : bs.length ≤ 9223372036854775807) (k : K bs (H.put b (Bd bs))) : Qm C (some (b, 0)) K H := by
 apply Qm.gh
 refine h.open_ fun p s H' ho => ?_
 refine Qcx _ _ _ _ ?_
 unfold QaS
 obtain ⟨e1, e2, e3⟩ := ho.slen
 have hrd : rd (H'.hide s) (b, 0 + 1) = some (slv s) := by
  have : (H'.hide s) b = H' b := by
   unfold Heap.hide
   split
   ·rename_i q hq; rw [if_neg (fun e => ho.ne q hq e.symm)]
   ·rfl
  simp [rd, this, ho.row, GO.cells?]
 refine ⟨H'.hide s, Heap.hide_le _ _, _, rfl, s, hrd, ⟨e3, e2⟩, _, rfl, s, hrd, ?_⟩
 rcases ho.buf with ⟨rfl, rfl⟩ | ⟨g, kk, row, hg, rfl, hgr, hk, hr0, hrl, hcs⟩
 ·exact .inl ⟨rfl, Heap.hide_le _ _, _, Gh.hideB ho, k⟩
 ·by_cases h0 : bs = []
  ·subst h0
   exact .inl ⟨rfl, Heap.hide_le _ _, _, Gh.hideB ho, k⟩
  ·refine .inr ⟨g, kk, row, bs, rfl, hgr, rfl, h0, hl, hcs, fun x v hx => ?_, _, Gh.hideB (b := b) (T := tyB) (e := tyE) (bs := bs) (p := p) (s := ⟨some (g, 0), bs.length, row.length, none⟩) ?_, k⟩
   ·have hxg : x ≠ g := fun e => by subst e; simp [Heap.hide] at hx
    rw [Heap.put_ne _ _ _ hxg]; exact (Heap.hide_le _ _) _ _ hx
   ·refine ⟨ho.self, by rw [Heap.put_ne _ _ _ (Ne.symm hg)]; exact ho.row, .inr ⟨g, max kk bs.length, row, hg, rfl, Heap.put_same .., by omega, hr0, hrl, hcs⟩, ho.gnot, fun x v hx hv => ?_⟩
    have hxg : x ≠ g := fun e => by subst e; have := ho.gnot (x, 0) rfl; dsimp only at this; rw [this] at hv; cases hv
    rw [Heap.put_ne _ _ _ hxg]; exact ho.but x v hx hv
/-- Grow of a new builder -/
theorem Qjr {b : Nat} {n : Nat} {K : Heap → Prop} (h : H b = some (true, .trow tyB 0 [pv none, slv Sl.nil])) (hl : n ≤ 140737488355328) (k : K (H.put b (Bd []))) : Qt C (some (b, 0)) (n : Int) K H := by
 apply Qt.gh
 apply Qc0
 unfold Qbj
 refine Qfa h (.inl rfl) ?_
 refine Qh (decide_eq_false (by omega)) ?_
 have hrow : (H.put b (.trow tyB 0 [pv (some (b, 0)), slv Sl.nil])) b = some (true, .trow tyB 0 [pv (some (b, 0)), slv Sl.nil]) := Heap.put_same ..
 refine ⟨_, rfl, Sl.nil, QgA hrow, _, rfl, Sl.nil, QgA hrow, ?_⟩
 have e0 : w .i64 (((Sl.nil.cap : Nat) : Int) - ((Sl.nil.len : Nat) : Int)) = 0 := Qac (x := 0) (by omega) (by omega)
 dsimp only
 rw [e0]
 refine ift.of (fun hn => ?_) (fun hn => ?_)
 ·apply QA.gh
  apply Qc1
  unfold Qbk
  refine ⟨_, Heap.le.refl _, _, rfl, Sl.nil, QgA hrow, _, rfl, Sl.nil, QgA hrow, ?_⟩
  have hn0 : 0 < n := by have := of_decide_eq_true hn; omega
  have e1 : w .i64 (w .i64 (2 * ((Sl.nil.cap : Nat) : Int)) + (n : Int)) = (n : Int) := by
   have : w .i64 (2 * ((Sl.nil.cap : Nat) : Int)) = 0 := Qac (x := 0) (by omega) (by omega)
   rw [this, Int.zero_add]; exact Qac (by omega) (by omega)
  dsimp only
  rw [e1]
  refine ⟨by omega, by omega, fun g row hg hrl => ?_⟩
  rw [Int.toNat_natCast] at hrl ⊢
  have hgb : g ≠ b := fun e => by subst e; rw [hrow] at hg; cases hg
  refine ⟨Heap.le_put hg, by omega, by show (0 : Int) ≤ 0; omega, by show (0 : Int) ≤ (row.length : Int); omega, by show (row.length : Int) ≤ (row.length : Int); omega, _, rfl, ?_⟩
  have hrow2 : ((H.put b (.trow tyB 0 [pv (some (b, 0)), slv Sl.nil])).put g (.trow 5 0 row)) b = some (true, .trow tyB 0 [pv (some (b, 0)), slv Sl.nil]) := by rw [Heap.put_ne _ _ _ (Ne.symm hgb)]; exact hrow
  refine ⟨_, rfl, Sl.nil, QgA hrow2, [], .inl rfl, by simp [Sl.nil], by simp, .inl ⟨rfl, ?_⟩⟩
  refine ⟨_, rfl, _, 0, _, hrow2, Nat.zero_le _, by simp, _, Gh.refl _, ?_⟩
  refine ⟨_, Gh.hideB (b := b) (T := tyB) (e := tyE) (bs := []) (p := some (b, 0)) (s := ⟨some (g, 0), 0, row.length, none⟩) ⟨.inr rfl, ?_, .inr ⟨g, 0, row, hgb, rfl, ?_, Nat.zero_le _, by omega, Nat.zero_le _, fun j c hj => by simp at hj⟩, fun q hq => ?_, fun x v hx hv => ?_⟩, k⟩
  ·rw [Heap.put_same]
   have e2 : ¬ ((row.length : Int) = 0) := by omega
   simp [Sl.of, Sl.nil, e2]
  ·rw [Heap.put_ne _ _ _ hgb, Heap.put_same]
  ·injection hq with hq; subst hq
   have := hg
   rwa [Heap.put_ne _ _ _ hgb] at this
  ·have hxg : x ≠ g := fun e => by subst e; rw [Heap.put_ne _ _ _ hx, hv] at hg; cases hg
   rw [Heap.put_ne _ _ _ hx, Heap.put_ne _ _ _ hxg, Heap.put_ne _ _ _ hx]; exact hv
 ·refine ⟨_, Gh.hideB (b := b) (T := tyB) (e := tyE) (bs := []) (p := some (b, 0)) (s := Sl.nil) ⟨.inr rfl, hrow, .inl ⟨rfl, rfl⟩, fun q hq => (by cases hq), fun x v hx hv => ?_⟩, k⟩
  rw [Heap.put_ne _ _ _ hx]; exact hv
end
end
section
open Go Go.Proofs
/-- a pen at b, over H0: it holds bs, and turns by t -/
structure PenF (H0 H : Heap) (b : Nat) (bs : Str) (t : UInt8) : Prop where
 le : H0.le H
 nb : H0 b = none
 row : ∃ s : Sl, H b = some (true, .row [slv s, .int .u8 (t.toNat : Int)]) ∧ Own H 1 s (bytesV bs) ∧ Fresh H0 s ∧ ∀ p, s.p = some p → p.1 ≠ b
theorem PenF.down {H1 H0 H : Heap} {b : Nat} {bs : Str} {t : UInt8} (h : PenF H0 H b bs t) (hle : H1.le H0) : PenF H1 H b bs t :=
 ⟨hle.trans h.le, hle.none h.nb, by obtain ⟨s, h1, h2, h3, h4⟩ := h.row; exact ⟨s, h1, h2, h3.le hle, h4⟩⟩
/-- a new block beside it -/
theorem PenF.beside {H0 H : Heap} {b b2 : Nat} {bs : Str} {t : UInt8} {g : GO} {m : Bool} (h : PenF H0 H b bs t) (hn : H b2 = none) : PenF (H0.put b2 g m) (H.put b2 g m) b bs t := by
 obtain ⟨s, h1, h2, h3, h4⟩ := h.row
 have hbb : b ≠ b2 := fun e => by subst e; rw [h1] at hn; cases hn
 refine ⟨h.le.puts _ _ _, by rw [Heap.put_ne _ _ _ hbb]; exact h.nb, s, by rw [Heap.put_ne _ _ _ hbb]; exact h1, h2.le (Heap.le_put hn), fun p hp => ?_, h4⟩
 have hne : p.1 ≠ b2 := fun e => by
  obtain ⟨g', hg⟩ := h2.mine hp
  rw [e, hn] at hg; cases hg
 rw [Heap.put_ne _ _ _ hne]; exact h3 p hp
theorem Qjz {C : Ctx} {H : Heap} {s : Sl} {a : Str} {K : Sl → Heap → Prop} (hr : rdsl H s (bytesV a)) (hl : s.len = a.length) (hm : a.length ≤ 140737488355328) (hnil : s.p = none → a = []) (k : ∀ r H2, OwnF H H2 1 r (bytesV a) → K r H2) : Qae C s K H := by
 apply Qcw
 unfold QaR
 refine ift.of (fun h => ?_) (fun h => ?_)
 ·have : a = [] := hnil (by simpa [Sl.isNil] using h)
  subst this
  exact k _ _ (OwnF.nil H 1)
 ·intro b hb
  refine Qhi (a := []) (Qir hb) (QbW (Heap.le_put hb) hr) hl (by simpa using hm) fun r H2 h2 _ => ?_
  exact k r H2 h2
theorem QjR {H : Heap} {s : Sl} {a : Str} (hr : rdsl H s (bytesV a)) : s.p = none → a = [] := fun h => by
 rcases hr with hr | ⟨_, p, hp, _⟩
 ·simpa [bytesV] using hr
 ·rw [h] at hp; cases hp
theorem Qgl {C : Ctx} {H : Heap} {s : Sl} {a : Str} {K : Option (Nat × Nat) → Heap → Prop} (hr : rdsl H s (bytesV a)) (hl : s.len = a.length) (hm : a.length ≤ 140737488355328)
 (k : ∀ b H2, PenF H H2 b a 0 → K (some (b, 0)) H2) : Qc6 C s K H := by
 apply Qgd
 unfold Qea
 refine Qjz hr hl hm (QjR hr) fun r H2 h2 => ?_
 intro b hb
 refine k b _ ⟨h2.le.trans (Heap.le_put hb), h2.le.none hb, r, Heap.put_same .., h2.own.le (Heap.le_put hb), h2.fresh, fun p hp e => ?_⟩
 obtain ⟨g, hg⟩ := h2.own.mine hp
 rw [e, hb] at hg; cases hg
theorem Qg9 {s : Str} {i : Nat} (t : UInt8) (h : i < s.length) : (s.take (i + 1)).map (· ^^^ t) = (s.take i).map (· ^^^ t) ++ [s.getD i 0 ^^^ t] := by
 rw [List.take_add_one, getD_some h]; simp
theorem Qgx {C : Ctx} {H0 H : Heap} {b : Nat} {bs cs : Str} {t : UInt8} {l : Sl} {K : Heap → Prop} (h : PenF H0 H b bs t) (hr : rdsl H0 l (bytesV cs)) (hl : l.len = cs.length) (hm : bs.length + cs.length ≤ 140737488355328)
 (k : ∀ H2, PenF H0 H2 b (bs ++ cs.map (· ^^^ t)) t → K H2) : Qn C (some (b, 0)) l K H := by
 apply QfE
 unfold QdO
 refine ⟨fun x H' => ∃ i : Nat, x = (i : Int) ∧ i ≤ cs.length ∧ PenF H0 H' b (bs ++ (cs.take i).map (· ^^^ t)) t, fun x _ => cs.length - x.toNat, ⟨0, rfl, Nat.zero_le _, by simpa using h⟩, ?_⟩
 rintro x H' ⟨i, rfl, hi, hp⟩
 refine ift.of (fun hc => ?_) (fun hc => ?_)
 ·have hlt : i < cs.length := by simp at hc; omega
  refine QkZ (QbW hp.le hr) (j := i) rfl (by omega) (Qjy hlt) ?_
  obtain ⟨s, h1, h2, h3, h4⟩ := hp.row
  have hsl : s.len = bs.length + i := by have := h2.1; simp [bytesV] at this; omega
  refine ⟨H0.put b (.row [slv s, .int .u8 (t.toNat : Int)]), fun x e hx => ?_, _, rfl, s, by rw [Qjb]; rfl, _, rfl, (t.toNat : Int), by rw [Qjb]; rfl, ?_⟩
  ·by_cases hxb : x = b
   ·subst hxb; rw [Heap.put_same] at hx; rw [← hx]; exact h1
   ·rw [Heap.put_ne _ _ _ hxb] at hx; exact hp.le _ _ hx
  have hle : (H0.put b (.row [slv s, .int .u8 (t.toNat : Int)])).le H' := fun x e hx => by
   by_cases hxb : x = b
   ·subst hxb; rw [Heap.put_same] at hx; rw [← hx]; exact h1
   ·rw [Heap.put_ne _ _ _ hxb] at hx; exact hp.le _ _ hx
  dsimp only
  rw [Qkh]
  intro b2 hb2
  refine ⟨hle.trans (Heap.le_put hb2), ?_⟩
  have hown : OwnF (H0.put b (.row [slv s, .int .u8 (t.toNat : Int)])) (H'.put b2 (.row [.int .u8 ((cs.getD i 0 ^^^ t).toNat : Int)])) 1 s (bytesV (bs ++ (cs.take i).map (· ^^^ t))) :=
   ⟨hle.trans (Heap.le_put hb2), h2.le (Heap.le_put hb2), fun p hpp => by rw [Heap.put_ne _ _ _ (h4 p hpp)]; exact h3 p hpp⟩
  refine Qhi hown (c := [cs.getD i 0 ^^^ t]) (Qho (s := [cs.getD i 0 ^^^ t]) rfl) rfl (by simp; omega) fun r H3 h5 h6 => ?_
  refine ⟨h5.le, _, rfl, _, h5.le _ _ (Heap.put_same ..), by simp, ?_⟩
  rw [Qac (by omega) (by omega)]
  refine ⟨⟨i + 1, by omega, by omega, ?_⟩, by simp; omega⟩
  have hrb : ∀ p, r.p = some p → p.1 ≠ b := fun p hpp e => by have := h5.fresh p hpp; rw [e, Heap.put_same] at this; cases this
  refine ⟨fun x e hx => ?_, hp.nb, r, by rw [Heap.put_same]; rfl, ?_, fun p hpp => ?_, hrb⟩
  ·have hxb : x ≠ b := fun e' => by subst e'; rw [hp.nb] at hx; cases hx
   rw [Heap.put_ne _ _ _ hxb]; exact h5.le _ _ (by rw [Heap.put_ne _ _ _ hxb]; exact hx)
  ·rw [Qg9 t hlt, ← List.append_assoc]
   exact h5.own.but (Heap.but.put _ _ _ _) hrb
  ·have := h5.fresh p hpp
   rwa [Heap.put_ne _ _ _ (hrb p hpp)] at this
 ·have : i = cs.length := by simp at hc; omega
  subst this
  rw [List.take_length] at hp
  exact k _ hp
/-- bytes that are written out -/
theorem QU {C : Ctx} {H0 H : Heap} {b : Nat} {bs cs : Str} {vs : List Value} {t : UInt8} {m : Nat} {K : Heap → Prop} (h : PenF H0 H b bs t) (hv : vs = bytesV cs) (hm0 : m = cs.length) (hm : bs.length + cs.length ≤ 140737488355328)
 (k : ∀ H2, PenF H0 H2 b (bs ++ cs.map (· ^^^ t)) t → K H2) : nw vs (fun b2 H2 => Qn C (some (b, 0)) (Sl.of (some (b2, 0)) m m) K H2) H := by
 intro b2 hb2
 subst hm0
 refine Qgx (h.beside hb2) (Qho hv) rfl hm fun H2 h2 => k H2 (h2.down (Heap.le_put (h.le.none hb2)))
theorem Qbr {C : Ctx} {H0 H : Heap} {b : Nat} {bs : Str} {t : UInt8} {is : Bool} {K : Heap → Prop} (h : PenF H0 H b bs t) (k : ∀ H2, PenF H0 H2 b bs (if is then t ^^^ 255 else t) → K H2) : Qad C (some (b, 0)) is K H := by
 apply Qfo
 unfold Qdw
 cases is with
 | false => exact Qh rfl (k H (by simpa using h))
 | true =>
  obtain ⟨s, h1, h2, h3, h4⟩ := h.row
  refine Qq rfl ⟨_, rfl, _, by rw [Qbh h1]; rfl, _, rfl, _, h1, by simp, ?_⟩
  have e : bXor .u8 (t.toNat : Int) 255 = ((t ^^^ 255).toNat : Int) := Qkh t 255
  rw [e]
  refine k _ ⟨fun x e hx => ?_, h.nb, s, by rw [Heap.put_same]; rfl, h2.but (Heap.but.put _ _ _ _) h4, h3, h4⟩
  have hxb : x ≠ b := fun e' => by subst e'; rw [h.nb] at hx; cases hx
  rw [Heap.put_ne _ _ _ hxb]; exact h.le _ _ hx
def bl (x : Nat) : Nat := if x = 0 then 0 else Nat.log2 x + 1
theorem Qjv (x : Nat) : x < 2 ^ bl x := by
 unfold bl
 split
 ·subst_vars; decide
 ·exact Nat.lt_log2_self
theorem Qkl {x : Nat} (h : x ≠ 0) : 2 ^ (bl x - 1) ≤ x := by
 unfold bl
 rw [if_neg h]
 simpa using Nat.log2_self_le h
theorem Qlb {x n : Nat} (h0 : x < 2 ^ n) (h1 : x ≠ 0 → 2 ^ (n - 1) ≤ x) (h2 : x = 0 → n = 0) : bl x = n := by
 by_cases hx : x = 0
 ·rw [h2 hx, hx]; rfl
 ·have a := Qjv x
  have b := Qkl hx
  have c := h1 hx
  have p1 : bl x - 1 < n := (Nat.pow_lt_pow_iff_right (by omega : 1 < 2)).1 (Nat.lt_of_le_of_lt b h0)
  have p2 : n - 1 < bl x := (Nat.pow_lt_pow_iff_right (by omega : 1 < 2)).1 (Nat.lt_of_le_of_lt c a)
  have hb : 0 < bl x := by unfold bl; rw [if_neg hx]; omega
  have hn : 0 < n := by
   rcases Nat.eq_zero_or_pos n with h | h
   ·subst h; omega
   ·exact h
  omega
theorem Qjw {x k : Nat} (h : 2 ^ k ≤ x) : bl (x / 2 ^ k) + k = bl x := by
 have hpos : 0 < 2 ^ k := Nat.two_pow_pos k
 have hx : x ≠ 0 := by omega
 have hy : x / 2 ^ k ≠ 0 := by have := Nat.div_pos h hpos; omega
 refine (Qlb (x := x) ?_ (fun _ => ?_) (fun e => absurd e hx)).symm
 ·rw [Nat.pow_add]
  have := Qjv (x / 2 ^ k)
  exact (Nat.div_lt_iff_lt_mul hpos).1 this
 ·have h1 := Qkl hy
  have hb : 0 < bl (x / 2 ^ k) := by unfold bl; rw [if_neg hy]; omega
  have e : bl (x / 2 ^ k) + k - 1 = (bl (x / 2 ^ k) - 1) + k := by omega
  rw [e, Nat.pow_add]
  exact (Nat.le_div_iff_mul_le hpos).1 h1
theorem QeA {x n : Nat} (h : x < 2 ^ n) : bl x ≤ n := by
 by_cases hx : x = 0
 ·subst hx; simp [bl]
 ·have := Qkl hx
  have p := (Nat.pow_lt_pow_iff_right (by omega : 1 < 2)).1 (Nat.lt_of_le_of_lt this h)
  omega
theorem Qii (n k : Nat) (hk : k ≤ 64) : sShr .u64 (n : Int) (k : Int) = ((n / 2 ^ k : Nat) : Int) := by
 unfold sShr
 have hm : min ((k : Int)).toNat IntKind.u64.bits = k := by simp only [Int.toNat_natCast]; show min k 64 = k; omega
 rw [hm, Int.fdiv_eq_ediv_of_nonneg _ (by exact_mod_cast Nat.zero_le _)]
 norm_cast
def len8 : Str := [0, 1, 2, 2, 3, 3, 3, 3, 4, 4, 4, 4, 4, 4, 4, 4] ++ List.replicate 16 5 ++ List.replicate 32 6 ++ List.replicate 64 7 ++ List.replicate 128 8
theorem Qkt : ∀ i : Fin 256, len8[i.val]? = some (UInt8.ofNat (bl i.val)) := by decide +kernel
theorem QjH {C : Ctx} {H : Heap} {x : Nat} {K : Int → Heap → Prop} (hx : x < 18446744073709551616) (k : K (bl x : Int) H) : Qbo C (x : Int) K H := by
 apply Qex
 unfold Qct
 have step : ∀ (s : Nat) (y n : Nat) (J : (Int × Int) → Heap → Prop) (B : Int), B = (2 ^ s : Nat) → s ≤ 32 → y < 18446744073709551616 → n ≤ 56 → bl y + n = bl x →
  (∀ y' n', (y' < 2 ^ s ∨ (y' = y / 2 ^ s ∧ 2 ^ s ≤ y)) → n' ≤ n + s → bl y' + n' = bl x → J ((y' : Int), (n' : Int)) H) →
  ift (decide ((y : Int) ≥ B)) (J ((sShr .u64 (y : Int) (s : Int)), w .i64 ((n : Int) + (s : Int))) H) (J ((y : Int), (n : Int)) H) := by
  intro s y n J B hB hs hy hn he hJ
  subst hB
  refine ift.of (fun h => ?_) (fun h => ?_)
  ·have h' : 2 ^ s ≤ y := by have := of_decide_eq_true h; omega
   rw [Qii y s (by omega), Qac (by omega) (by omega)]
   have := hJ (y / 2 ^ s) (n + s) (.inr ⟨rfl, h'⟩) (Nat.le_refl _) (by have := Qjw h'; omega)
   simpa using this
  ·have h' : y < 2 ^ s := by have := of_decide_eq_false h; omega
   exact hJ y n (.inl h') (by omega) he
 refine ⟨fun p H' => ∃ y n : Nat, p = ((y : Int), (n : Int)) ∧ H = H' ∧ y < 4294967296 ∧ n ≤ 32 ∧ bl y + n = bl x, ?_, ?_⟩
 ·have := step 32 x 0 (fun p H' => ∃ y n : Nat, p = ((y : Int), (n : Int)) ∧ H = H' ∧ y < 4294967296 ∧ n ≤ 32 ∧ bl y + n = bl x) 4294967296 rfl (by omega) hx (by omega) (by omega) (fun y' n' h1 h2 h3 => ⟨y', n', rfl, rfl, by rcases h1 with h1 | ⟨h1, _⟩ <;> omega, by omega, h3⟩)
  have e : w .i64 ((0 : Nat) + (32 : Nat) : Int) = 32 := Qac (by omega) (by omega)
  rw [e] at this
  exact this
 rintro _ _ ⟨y, n, rfl, rfl, hy, hn, he⟩
 refine ⟨fun p H' => ∃ y n : Nat, p = ((y : Int), (n : Int)) ∧ H = H' ∧ y < 65536 ∧ n ≤ 48 ∧ bl y + n = bl x, ?_, ?_⟩
 ·exact step 16 y n (fun p H' => ∃ y n : Nat, p = ((y : Int), (n : Int)) ∧ H = H' ∧ y < 65536 ∧ n ≤ 48 ∧ bl y + n = bl x) 65536 rfl (by omega) (by omega) (by omega) he (fun y' n' h1 h2 h3 => ⟨y', n', rfl, rfl, by rcases h1 with h1 | ⟨h1, _⟩ <;> omega, by omega, h3⟩)
 rintro _ _ ⟨y, n, rfl, rfl, hy, hn, he⟩
 refine ⟨fun p H' => ∃ y n : Nat, p = ((y : Int), (n : Int)) ∧ H = H' ∧ y < 256 ∧ n ≤ 56 ∧ bl y + n = bl x, ?_, ?_⟩
 ·exact step 8 y n (fun p H' => ∃ y n : Nat, p = ((y : Int), (n : Int)) ∧ H = H' ∧ y < 256 ∧ n ≤ 56 ∧ bl y + n = bl x) 256 rfl (by omega) (by omega) (by omega) he (fun y' n' h1 h2 h3 => ⟨y', n', rfl, rfl, by rcases h1 with h1 | ⟨h1, _⟩ <;> omega, by omega, h3⟩)
 rintro _ _ ⟨y, n, rfl, rfl, hy, hn, he⟩
 have ht := Qkt ⟨y, hy⟩
 have hb8 : bl y ≤ 8 := QeA hy
 dsimp only at ht ⊢
 rw [w_u8 (by omega) (by omega)]
 refine ⟨UInt8.ofNat (bl y), by omega, ?_, ?_⟩
 ·rw [Int.toNat_natCast, ← ht]; rfl
 ·have e : (UInt8.ofNat (bl y)).toNat = bl y := by rw [UInt8.toNat_ofNat']; omega
  dsimp only
  rw [e, Qac (x := (bl y : Int)) (by omega) (by omega), Qac (by omega) (by omega)]
  have : (n : Int) + (bl y : Int) = (bl x : Int) := by omega
  rw [this]; exact k
end
section
open Go Go.Proofs
/-- k bytes of a number, the highest first -/
def be : Nat → Nat → Str
 | 0, _ => []
 | k + 1, u => UInt8.ofNat (u / 2 ^ (8 * k)) :: be k u
theorem Qj6 : ∀ k u, (be k u).length = k
 | 0, _ => rfl
 | k + 1, u => by simp [be, Qj6 k u]
/-- how many bytes a number has -/
def kl (u : Nat) : Nat := (bl u + 7) / 8
theorem Qiq {u : Nat} (h : u < 18446744073709551616) : kl u ≤ 8 := by have : bl u ≤ 64 := QeA (n := 64) h; unfold kl; omega
theorem Qlc (u : Nat) : u < 2 ^ (8 * kl u) := Nat.lt_of_lt_of_le (Qjv u) (Nat.pow_le_pow_right (by omega) (by unfold kl; omega))
def numB (first : Nat) (u : Nat) : Str := UInt8.ofNat (first + kl u) :: be (kl u) u
theorem Qim (n : Nat) : w .u8 (n : Int) = ((UInt8.ofNat n).toNat : Int) := by
 rw [Qj2, UInt8.toNat_ofNat']; norm_cast
section
variable {C : Ctx} {H0 H : Heap}
theorem Qdk {b : Nat} {bs : Str} {t : UInt8} {first u : Nat} {K : Heap → Prop} (h : PenF H0 H b bs t) (hf : first ≤ 128) (hu : u < 18446744073709551616) (hm : bs.length + 9 ≤ 140737488355328)
 (k : ∀ H2, PenF H0 H2 b (bs ++ (numB first u).map (· ^^^ t)) t → K H2) : QaL C (some (b, 0)) (first : Int) (u : Int) K H := by
 apply Qev
 unfold Qcn
 refine QjH hu ?_
 have hb64 : bl u ≤ 64 := QeA (n := 64) hu
 have hk8 := Qiq hu
 have e1 : w .i64 (Int.tdiv (w .i64 ((bl u : Int) + 7)) 8) = (kl u : Int) := by
  rw [Qac (x := (bl u : Int) + 7) (by omega) (by omega), Int.tdiv_eq_ediv_of_nonneg (by omega)]
  have : ((bl u : Int) + 7) / 8 = (kl u : Int) := by unfold kl; omega
  rw [this]; exact Qac (by omega) (by omega)
 rw [e1]
 have e2 : w .u8 ((first : Int) + w .u8 (kl u : Int)) = ((UInt8.ofNat (first + kl u)).toNat : Int) := by
  rw [w_u8 (x := (kl u : Int)) (by omega) (by omega)]
  have : (first : Int) + (kl u : Int) = ((first + kl u : Nat) : Int) := by omega
  rw [this]; exact Qim _
 rw [e2]
 refine QU h (cs := [UInt8.ofNat (first + kl u)]) rfl rfl (by simp; omega) fun H2 h2 => ?_
 refine ⟨fun x H' => ∃ j : Nat, x = (j : Int) ∧ j ≤ kl u ∧ ∃ bs', PenF H0 H' b bs' t ∧ bs'.length + j = bs.length + 1 + kl u ∧ bs' ++ (be j u).map (· ^^^ t) = bs ++ (numB first u).map (· ^^^ t), fun x _ => x.toNat, ⟨kl u, rfl, Nat.le_refl _, _, h2, by simp <;> omega, by simp [numB]⟩, ?_⟩
 rintro x H' ⟨j, rfl, hj, bs', hp, hlen, heq⟩
 refine ift.of (fun hc => ?_) (fun hc => ?_)
 ·have hj0 : 0 < j := by have := of_decide_eq_true hc; omega
  obtain ⟨j, rfl⟩ : ∃ i, j = i + 1 := ⟨j - 1, by omega⟩
  have e3 : w .i64 (((j + 1 : Nat) : Int) - 1) = (j : Int) := by rw [Qac (by omega) (by omega)]; omega
  have e4 : w .i64 (8 * (j : Int)) = ((8 * j : Nat) : Int) := by rw [Qac (by omega) (by omega)]; omega
  rw [e3, e4, Qii u (8 * j) (by omega), Qim]
  refine ⟨by omega, ?_⟩
  refine QU hp (cs := [UInt8.ofNat (u / 2 ^ (8 * j))]) rfl rfl (by simp; omega) fun H3 h3 => ?_
  refine ⟨⟨j, rfl, by omega, _, h3, by simp; omega, ?_⟩, by dsimp only; omega⟩
  rw [← heq]; simp [be]
 ·have hj0 : j = 0 := by have := of_decide_eq_false hc; omega
  subst hj0
  simp only [be, List.map_nil, List.append_nil] at heq
  subst heq
  exact k _ hp
theorem Qjx {n : Int} (h0 : -9223372036854775808 ≤ n) (h1 : n ≤ 9223372036854775807) : bXor .i64 (-1) n = -1 - n := by
 show IntKind.i64.wrap (((BitVec.ofInt 64 (-1) ^^^ BitVec.ofInt 64 n : BitVec 64).toNat : Nat) : Int) = _
 have e : BitVec.ofInt 64 (-1) = BitVec.allOnes 64 := rfl
 rw [e, BitVec.allOnes_xor]
 have h2 := QhZ (~~~ BitVec.ofInt 64 n)
 have hx := QiS h0 h1
 generalize BitVec.ofInt 64 n = x at *
 have h3 : (~~~ x).toInt = -1 - x.toInt := by
  have hl := x.isLt
  rw [BitVec.toInt_eq_toNat_cond, BitVec.toInt_eq_toNat_cond, BitVec.toNat_not]
  split <;> split <;> omega
 rw [hx] at h3
 exact h2.trans h3
/-- a number's bytes -/
def Nm (n : Int) : Str := if n < 0 then (numB 128 (-1 - n).toNat).map (· ^^^ 255) else numB 128 n.toNat
def esc (s : Str) : Str := s.flatMap fun c => if c = 0 then [0, 255] else [c]
def Tx (s : Str) : Str := esc s ++ [0, 0]
theorem Qit {b : Nat} {bs : Str} {t : UInt8} {n : Int} {K : Heap → Prop} (h : PenF H0 H b bs t) (h0 : -9223372036854775808 ≤ n) (h1 : n ≤ 9223372036854775807) (hm : bs.length + 9 ≤ 140737488355328)
 (k : ∀ H2, PenF H0 H2 b (bs ++ (Nm n).map (· ^^^ t)) t → K H2) : QcA C (some (b, 0)) n K H := by
 apply QfD
 unfold QdN
 by_cases hn : n < 0
 ·refine ⟨fun x H' => x = -1 - n ∧ H = H', Qq (decide_eq_true hn) ⟨Qjx h0 h1, rfl⟩, ?_⟩
  rintro x _ ⟨rfl, rfl⟩
  refine Qbr h fun H2 h2 => ?_
  rw [decide_eq_true hn, if_pos rfl] at h2
  obtain ⟨u, hu⟩ := Int.eq_ofNat_of_zero_le (show 0 ≤ -1 - n by omega)
  rw [hu, QkJ (by omega) (by omega)]
  refine Qdk (first := 128) h2 (by omega) (by omega) hm fun H3 h3 => ?_
  refine Qbr h3 fun H4 h4 => k H4 ?_
  rw [decide_eq_true hn, if_pos rfl] at h4
  have e : t ^^^ 255 ^^^ 255 = t := by rw [UInt8.xor_assoc]; simp
  rw [e] at h4
  unfold Nm
  rw [if_pos hn, List.map_map]
  have e2 : (-1 - n).toNat = u := by omega
  rw [e2]
  have e3 : ((fun x => x ^^^ t) ∘ fun x : UInt8 => x ^^^ 255) = fun x => x ^^^ (t ^^^ 255) := by
   funext x; simp only [Function.comp]; rw [UInt8.xor_assoc, UInt8.xor_comm 255 t]
  rw [e3]; exact h4
 ·refine ⟨fun x H' => x = n ∧ H = H', Qh (decide_eq_false hn) ⟨rfl, rfl⟩, ?_⟩
  rintro x _ ⟨rfl, rfl⟩
  refine Qbr h fun H2 h2 => ?_
  rw [decide_eq_false hn, if_neg (by decide)] at h2
  obtain ⟨u, rfl⟩ := Int.eq_ofNat_of_zero_le (show 0 ≤ x by omega)
  rw [QkJ (by omega) (by omega)]
  refine Qdk (first := 128) h2 (by omega) (by omega) hm fun H3 h3 => ?_
  refine Qbr h3 fun H4 h4 => k H4 ?_
  rw [decide_eq_false hn, if_neg (by decide)] at h4
  unfold Nm
  rw [if_neg hn]; exact h4
theorem QgT (c : UInt8) (s : Str) : esc (c :: s) = (if c = 0 then [0, 255] else [c]) ++ esc s := rfl
theorem QjC {s : Str} {i : Nat} (h : i < s.length) : esc (s.take (i + 1)) = esc (s.take i) ++ (if s.getD i 0 = 0 then [0, 255] else [s.getD i 0]) := by
 rw [List.take_add_one, getD_some h]
 simp [esc]
theorem Qko (s : Str) : (esc s).length ≤ 2 * s.length := by
 induction s with
 | nil => simp [esc]
 | cons c s ih => rw [QgT]; simp only [List.length_append, List.length_cons]; split <;> simp <;> omega
theorem Qf0 {b : Nat} {bs : Str} {t : UInt8} {s : Str} {K : Heap → Prop} (h : PenF H0 H b bs t) (hm : bs.length + 2 * s.length + 2 ≤ 140737488355328)
 (k : ∀ H2, PenF H0 H2 b (bs ++ (Tx s).map (· ^^^ t)) t → K H2) : Qbc C (some (b, 0)) s K H := by
 apply Qfq
 unfold Qdy
 refine ⟨fun x H' => ∃ i : Nat, x = (i : Int) ∧ i ≤ s.length ∧ PenF H0 H' b (bs ++ (esc (s.take i)).map (· ^^^ t)) t, fun x _ => s.length - x.toNat, ⟨0, rfl, Nat.zero_le _, by simpa [esc] using h⟩, ?_⟩
 rintro x H' ⟨i, rfl, hi, hp⟩
 have hel := Qko (s.take i)
 have htl : (s.take i).length = i := by simp; omega
 refine ift.of (fun hc => ?_) (fun hc => ?_)
 ·have hlt : i < s.length := by simpa using hc
  refine ⟨fun _ H2 => PenF H0 H2 b (bs ++ (esc (s.take (i + 1))).map (· ^^^ t)) t, ?_, fun _ H2 h2 => ?_⟩
  ·refine ⟨s.getD i 0, by omega, getD_some hlt, ?_⟩
   refine QU hp (cs := [s.getD i 0]) rfl rfl (by simp; omega) fun H2 h2 => ?_
   refine ⟨s.getD i 0, by omega, getD_some hlt, ?_⟩
   rw [QjC hlt]
   refine ift.of (fun h0 => ?_) (fun h0 => ?_)
   ·have hz : s.getD i 0 = 0 := by
     have : (s.getD i 0).toNat = 0 := by simpa using h0
     exact UInt8.toNat_inj.1 this
    refine QU h2 (cs := [255]) rfl rfl (by simp; omega) fun H3 h3 => ?_
    rw [hz] at h3 ⊢
    rw [if_pos rfl]
    simpa using h3
   ·have hz : s.getD i 0 ≠ 0 := fun e => by rw [e] at h0; simp at h0
    rw [if_neg hz]
    simpa using h2
  ·rw [Qac (by omega) (by omega)]
   exact ⟨⟨i + 1, by omega, by omega, h2⟩, by simp; omega⟩
 ·have : i = s.length := by have := of_decide_eq_false hc; omega
  subst this
  rw [List.take_length] at hp hel
  refine QU hp (cs := [0, 0]) rfl rfl (by simp; omega) fun H2 h2 => k H2 ?_
  unfold Tx
  simpa using h2
/-- the pen's bytes, taken out -/
theorem PenF.take {b : Nat} {bs : Str} {t : UInt8} (h : PenF H0 H b bs t) : ∃ s : Sl, rd H (b, 0) = some (slv s) ∧ OwnF H0 H 1 s (bytesV bs) := by
 obtain ⟨s, h1, h2, h3, h4⟩ := h.row
 exact ⟨s, by rw [Qbh h1]; rfl, h.le, h2, h3⟩
theorem Qcb (s : Str) : s.map (· ^^^ 0) = s := by simp
end
end
section
open Go Go.Proofs
/-- a reader: what is left, its turn, whether it failed -/
structure RS where
 s : Str
 t : UInt8
 f : Bool
structure Rdr (H : Heap) (b : Nat) (r : RS) : Prop where
 ok : ∃ sl : Sl, H b = some (true, .row [slv sl, .int .u8 (r.t.toNat : Int), .bool r.f]) ∧ sl.len = r.s.length ∧ sl.len ≤ sl.cap ∧ Im H sl (bytesV r.s)
section
variable {C : Ctx} {H : Heap}
end
end
section
open Go Go.Proofs
section
variable {C : Ctx} {H : Heap}
/-- where the loop of Str stands -/
structure StrI (H H' : Heap) (b : Nat) (x : Sl) (acc : Str) (r : RS) : Prop where
 but : Heap.but b H H'
 rdr : Rdr H' b r
 own : Own H' 1 x (bytesV acc)
 fresh : Fresh H x
 ne : ∀ p, x.p = some p → p.1 ≠ b
end
end
section
open Go Go.Proofs
section
variable {C : Ctx} {H : Heap}
/-- how bytes stand -/
def cmpS : Str → Str → Int
 | [], [] => 0
 | [], _ :: _ => -1
 | _ :: _, [] => 1
 | a :: s, b :: t => if a < b then -1 else if b < a then 1 else cmpS s t
theorem QgD (a b : UInt8) : a < b ∨ b < a ∨ a = b := by
 rcases Nat.lt_trichotomy a.toNat b.toNat with h | h | h
 ·exact .inl h
 ·exact .inr (.inr (UInt8.toNat_inj.1 h))
 ·exact .inr (.inl h)
theorem QcX (a : UInt8) : ¬ a < a := fun h => Nat.lt_irrefl _ h
theorem Qe9 {a b : UInt8} (h : a < b) : ¬ b < a := fun h2 => Nat.lt_asymm h h2
theorem QjY (a b : UInt8) (s t : Str) : slt (a :: s) (b :: t) = (decide (a < b) || (decide (a = b) && slt s t)) := by
 simp only [slt, Op.bytesLess]
 by_cases h : a < b
 ·simp [h]
 ·by_cases h2 : a = b
  ·subst h2; simp [h]
  ·simp [h, h2]
theorem Qg8 : ∀ s t : Str, slt s t = decide (cmpS s t < 0) ∧ (cmpS s t = 0 ↔ s = t)
 | [], [] => ⟨rfl, by simp [cmpS]⟩
 | [], b :: t => ⟨rfl, by simp [cmpS]⟩
 | a :: s, [] => ⟨rfl, by simp [cmpS]⟩
 | a :: s, b :: t => by
  obtain ⟨h1, h2⟩ := Qg8 s t
  rw [QjY, h1]
  simp only [cmpS]
  rcases QgD a b with h | h | rfl
  ·have hne : a ≠ b := fun e => by subst e; exact QcX _ h
   simp [h, hne]
  ·have hne : a ≠ b := fun e => by subst e; exact QcX _ h
   simp [h, Qe9 h, hne]
  ·simp [QcX, h2]
end
end
section
open Go Go.Proofs
/-- less at a place that both have -/
inductive Lt : Str → Str → Prop
 | head {c d : UInt8} {s t : Str} (h : c < d) : Lt (c :: s) (d :: t)
 | tail {c : UInt8} {s t : Str} (h : Lt s t) : Lt (c :: s) (c :: t)
theorem Lt.app {s t : Str} (h : Lt s t) (x y : Str) : Lt (s ++ x) (t ++ y) := by
 induction h with
 | head h => exact .head h
 | tail _ ih => exact .tail ih
theorem Lt.pre (p : Str) {s t : Str} (h : Lt s t) : Lt (p ++ s) (p ++ t) := by
 induction p with
 | nil => exact h
 | cons c p ih => exact .tail ih
theorem Lt.cmp {s t : Str} (h : Lt s t) : cmpS s t = -1 ∧ cmpS t s = 1 := by
 induction h with
 | head h => simp [cmpS, h, Qe9 h]
 | tail _ ih => simp [cmpS, QcX, ih]
theorem xor255 : ∀ c : UInt8, (c ^^^ 255).toNat = 255 - c.toNat := by
 intro c
 have : ∀ i : Fin 256, ((UInt8.ofNat i.val) ^^^ 255).toNat = 255 - (UInt8.ofNat i.val).toNat := by decide +kernel
 have h := this ⟨c.toNat, QkH c⟩
 simpa using h
theorem Lt.flip {s t : Str} (h : Lt s t) : Lt (t.map (· ^^^ 255)) (s.map (· ^^^ 255)) := by
 induction h with
 | @head c d s t h =>
  refine .head ?_
  have h1 : c.toNat < d.toNat := h
  have := QkH c; have := QkH d
  show (d ^^^ 255).toNat < (c ^^^ 255).toNat
  rw [xor255, xor255]; omega
 | tail _ ih => exact .tail ih
theorem Qhq (n k : Nat) : n % 2 ^ (8 * (k + 1)) = (n / 2 ^ (8 * k) % 256) * 2 ^ (8 * k) + n % 2 ^ (8 * k) := by
 have e : 2 ^ (8 * (k + 1)) = 2 ^ (8 * k) * 256 := by rw [show 8 * (k + 1) = 8 * k + 8 by omega, Nat.pow_add]
 rw [e, Nat.mod_mul, Nat.add_comm, Nat.mul_comm (2 ^ (8 * k))]
theorem QkW : ∀ (k n m : Nat), n % 2 ^ (8 * k) < m % 2 ^ (8 * k) → Lt (be k n) (be k m)
 | 0, n, m, h => by simp [Nat.mod_one] at h
 | k + 1, n, m, h => by
  rw [Qhq, Qhq m] at h
  have hp : 0 < 2 ^ (8 * k) := Nat.two_pow_pos _
  have h1 := Nat.mod_lt n hp
  have h2 := Nat.mod_lt m hp
  by_cases he : n / 2 ^ (8 * k) % 256 = m / 2 ^ (8 * k) % 256
  ·rw [he] at h
   have hb : UInt8.ofNat (n / 2 ^ (8 * k)) = UInt8.ofNat (m / 2 ^ (8 * k)) := UInt8.toNat_inj.1 (by rw [UInt8.toNat_ofNat', UInt8.toNat_ofNat']; exact he)
   simp only [be]
   rw [hb]
   exact .tail (QkW k n m (by omega))
  ·refine .head ?_
   show (UInt8.ofNat _).toNat < (UInt8.ofNat _).toNat
   rw [UInt8.toNat_ofNat', UInt8.toNat_ofNat']
   rcases Nat.lt_or_ge (n / 2 ^ (8 * k) % 256) (m / 2 ^ (8 * k) % 256) with hlt | hge
   ·exact hlt
   ·exfalso
    have h3 : (m / 2 ^ (8 * k) % 256 + 1) * 2 ^ (8 * k) ≤ (n / 2 ^ (8 * k) % 256) * 2 ^ (8 * k) := Nat.mul_le_mul_right _ (by omega)
    rw [Nat.add_mul] at h3
    omega
theorem Qkm {n m : Nat} (h : n ≤ m) : bl n ≤ bl m := QeA (Nat.lt_of_le_of_lt h (Qjv m))
theorem Qks {n m : Nat} (h : n ≤ m) : kl n ≤ kl m := by have := Qkm h; unfold kl; omega
theorem Qg1 {f n m : Nat} (hf : f ≤ 128) (hm : m < 18446744073709551616) (h : n < m) : Lt (numB f n) (numB f m) := by
 have h1 := Qks (Nat.le_of_lt h)
 have h2 := Qiq hm
 unfold numB
 by_cases he : kl n = kl m
 ·rw [he]
  refine .tail (QkW _ _ _ ?_)
  have a := Qlc m
  rw [Nat.mod_eq_of_lt a, Nat.mod_eq_of_lt (by omega)]
  exact h
 ·refine .head ?_
  show (UInt8.ofNat _).toNat < (UInt8.ofNat _).toNat
  rw [UInt8.toNat_ofNat', UInt8.toNat_ofNat']; omega
theorem QkR {n m : Int} (h0 : -9223372036854775808 ≤ n) (h1 : m ≤ 9223372036854775807) (h : n < m) : Lt (Nm n) (Nm m) := by
 unfold Nm
 by_cases hn : n < 0
 ·rw [if_pos hn]
  by_cases hm : m < 0
  ·rw [if_pos hm]
   exact (Qg1 (by omega) (by omega) (by omega)).flip
  ·rw [if_neg hm]
   have k1 := Qiq (u := (-1 - n).toNat) (by omega)
   have k2 := Qiq (u := m.toNat) (by omega)
   unfold numB
   refine .head ?_
   show (_ ^^^ 255 : UInt8).toNat < (UInt8.ofNat _).toNat
   rw [xor255, UInt8.toNat_ofNat', UInt8.toNat_ofNat']; omega
 ·rw [if_neg hn, if_neg (by omega)]
  exact Qg1 (by omega) (by omega) (by omega)
theorem QhK (c : UInt8) (s : Str) : Tx (c :: s) = (if c = 0 then [0, 255] else [c]) ++ Tx s := by simp [Tx, QgT]
theorem Qhy {c : UInt8} (h : c ≠ 0) : (0 : UInt8) < c := by
 rcases QgD 0 c with h1 | h1 | h1
 ·exact h1
 ·exact absurd h1 (by show ¬ c.toNat < (0 : UInt8).toNat; exact Nat.not_lt_zero _)
 ·exact absurd h1.symm h
theorem Qkj : ∀ s t : Str, cmpS s t < 0 → Lt (Tx s) (Tx t)
 | [], [], h => by simp [cmpS] at h
 | [], d :: t, _ => by
  rw [QhK]
  by_cases hd : d = 0
  ·rw [if_pos hd]; exact .tail (.head (by decide))
  ·rw [if_neg hd]; exact .head (Qhy hd)
 | _ :: _, [], h => by simp [cmpS] at h
 | c :: s, d :: t, h => by
  rw [QhK, QhK]
  simp only [cmpS] at h
  rcases QgD c d with h1 | h1 | rfl
  ·have hd : d ≠ 0 := fun e => by subst e; exact absurd h1 (by show ¬ c.toNat < (0 : UInt8).toNat; exact Nat.not_lt_zero _)
   rw [if_neg hd]
   by_cases hc : c = 0
   ·rw [if_pos hc]; exact .head (Qhy hd)
   ·rw [if_neg hc]; exact .head h1
  ·rw [if_neg (Qe9 h1), if_pos h1] at h; omega
  ·rw [if_neg (QcX c), if_neg (QcX c)] at h
   exact (Qkj s t h).pre _
theorem Qhl : ∀ s t : Str, cmpS t s = - cmpS s t
 | [], [] => rfl
 | [], _ :: _ => rfl
 | _ :: _, [] => rfl
 | a :: s, b :: t => by
  simp only [cmpS]
  rcases QgD a b with h | h | rfl
  ·rw [if_neg (Qe9 h), if_pos h, if_pos h]; rfl
  ·rw [if_pos h, if_neg (Qe9 h), if_pos h]
  ·simp only [if_neg (QcX a)]; exact Qhl s t
theorem QfA (f u : Nat) : (numB f u).length = 1 + kl u := by simp [numB, Qj6]; omega
theorem QkQ {n : Int} (h0 : -9223372036854775808 ≤ n) (h1 : n ≤ 9223372036854775807) : 1 ≤ (Nm n).length ∧ (Nm n).length ≤ 9 := by
 unfold Nm
 split
 ·rw [List.length_map, QfA]; have := Qiq (u := (-1 - n).toNat) (by omega); omega
 ·rw [QfA]; have := Qiq (u := n.toNat) (by omega); omega
theorem Qka {n : Nat} (h : n ≤ 2147483647) : kl n ≤ 4 := by have : bl n ≤ 31 := QeA (n := 31) (by omega); unfold kl; omega
def zc (s : Str) : Nat := (s.filter (· == 0)).length
theorem Qgs : ∀ s : Str, (esc s).length = s.length + zc s
 | [] => rfl
 | c :: s => by
  rw [QgT, List.length_append, Qgs s]
  unfold zc
  by_cases h : c = 0
  ·simp [h]; omega
  ·simp [h]; omega
end
section
open Go Go.Proofs
def Bg (s : Str) : Str := if isMin s then (128 :: (numB 0 (unmin s).length ++ unmin s)).map (· ^^^ 255) else 128 :: (numB 0 (unmin s).length ++ unmin s)
mutual
def encV : V → Str
 | .mk k n s l => UInt8.ofNat k.toNat :: (if k = 1 then [if n = 1 then 1 else 0] else if k = 2 then Nm n else if k = 3 then Bg s else if k = 4 then Tx s else if k = 5 then encVs l else if k = 6 then Tx s ++ encVs l else [])
def encVs : List V → Str
 | [] => [0]
 | v :: l => 1 :: (encV v ++ encVs l)
end
theorem QfN (v : V) : encV v = UInt8.ofNat v.k.toNat :: (if v.k = 1 then [if v.n = 1 then 1 else 0] else if v.k = 2 then Nm v.n else if v.k = 3 then Bg v.s else if v.k = 4 then Tx v.s else if v.k = 5 then encVs v.l else if v.k = 6 then Tx v.s ++ encVs v.l else []) := by obtain ⟨k, n, s, l⟩ := v; simp only [encV]; rfl
/-- without the 0 behind -/
def encLs : List V → Str
 | [] => []
 | v :: l => 1 :: (encV v ++ encLs l)
theorem QgS : ∀ l : List V, encVs l = encLs l ++ [0]
 | [] => rfl
 | v :: l => by simp [encVs, encLs, QgS l]
theorem Qfb : ∀ a b : List V, encLs (a ++ b) = encLs a ++ encLs b
 | [], b => rfl
 | v :: a, b => by simp [encLs, Qfb a b]
theorem Qio {l : List V} {i : Nat} (h : i < l.length) : encLs (l.take (i + 1)) = encLs (l.take i) ++ 1 :: encV l[i] := by
 rw [List.take_add_one, List.getElem?_eq_getElem h, Option.toList_some, Qfb]; simp [encLs]
mutual
def vtot : V → Nat
 | .mk k n s l => vtots l + 2 * s.length + 13
def vtots : List V → Nat
 | [] => 0
 | v :: l => vtot v + vtots l
end
theorem Qf9 (v : V) : vtot v = vtots v.l + 2 * v.s.length + 13 := by obtain ⟨k, n, s, l⟩ := v; rfl
theorem QdV : ∀ a b : List V, vtots (a ++ b) = vtots a + vtots b
 | [], b => by simp [vtots]
 | v :: a, b => by simp only [List.cons_append, vtots, QdV a b]; omega
theorem QgG (l : List V) (i : Nat) : vtots (l.take i) ≤ vtots l := by
 have := QdV (l.take i) (l.drop i)
 rw [List.take_append_drop] at this; omega
theorem QcY : ∀ {l : List V} {v : V}, v ∈ l → vtot v ≤ vtots l
 | w :: l, v, h => by
  simp only [vtots]
  rcases List.mem_cons.1 h with rfl | h
  ·omega
  ·have := QcY h; omega
theorem QkL (s : Str) (h : s.length < 2147483648) : (Bg s).length ≤ s.length + 6 := by
 have hu : (unmin s).length ≤ s.length := by unfold unmin; split <;> simp
 have hk := Qka (n := (unmin s).length) (by omega)
 unfold Bg
 split <;> simp [QfA] <;> omega
theorem QfM : ∀ (l : List V), (∀ v ∈ l, (encV v).length + 1 ≤ vtot v) → (encLs l).length ≤ vtots l
 | [], _ => by simp [encLs]
 | v :: l, h => by
  have h1 := h v (List.mem_cons_self ..)
  have h2 := QfM l fun w hw => h w (List.mem_cons_of_mem _ hw)
  simp only [encLs, vtots, List.length_cons, List.length_append]; omega
theorem Qk9 (s : Str) : zc s ≤ s.length := List.length_filter_le _ _
theorem Qj5 (s : Str) : (Tx s).length = s.length + zc s + 2 := by simp [Tx, Qgs]
theorem Qh4 (v : V) (hB : VB v) (hs : vtot v < 2147483648) : (encV v).length + 1 ≤ vtot v := by
 refine V.rec_ (P := fun v => VB v → vtot v < 2147483648 → (encV v).length + 1 ≤ vtot v) (fun v ih hB hs => ?_) v hB hs
 rw [Qf9] at hs ⊢
 have hl := QfM v.l fun w hw => ih w hw (hB.ls.mem hw) (by have := QcY hw; omega)
 have hb := hB.n
 have h1 := (QkQ hb.1 hb.2).2
 have h2 := QkL v.s (by omega)
 have h3 := Qj5 v.s
 have h4 := Qk9 v.s
 rw [QfN]
 have h5 : (encVs v.l).length = (encLs v.l).length + 1 := by rw [QgS]; simp
 simp only [List.length_cons]
 split
 ·simp
 split
 ·omega
 split
 ·omega
 split
 ·omega
 split
 ·omega
 split
 ·rw [List.length_append]; omega
 ·simp
section
variable {C : Ctx} {H : Heap}
end
end
section
open Go Go.Proofs
theorem QgX {s : Str} (h : isMin s = false) : unmin s = s := by
 unfold isMin at h
 unfold unmin
 rw [if_neg (of_decide_eq_false h)]
theorem QfQ {s : Str} (h : isMin s = true) : unmin s = s.tail ∧ s = 45 :: s.tail := by
 unfold isMin at h
 have h := of_decide_eq_true h
 unfold unmin
 rw [if_pos h]
 cases s with
 | nil => simp at h
 | cons c t => simp at h; subst h; exact ⟨rfl, rfl⟩
theorem Qhb (s : Str) : (unmin s).length ≤ s.length := by unfold unmin; split <;> simp
section
variable {C : Ctx} {H : Heap}
theorem mayN (v : V) (h : formV v = true) : okN v.k v.n v.s v.l.length = true ∧ formVs v.l = true := by rw [Qfy, Bool.and_eq_true] at h; exact h
theorem Qk2 {k n : Int} {s : Str} {m : Nat} (h : okN k n s m = true) : k = 1 ∨ k = 2 ∨ k = 3 ∨ k = 4 ∨ k = 5 ∨ k = 6 := by
 unfold okN at h
 by_cases h1 : k = 1
 ·exact .inl h1
 by_cases h2 : k = 2
 ·exact .inr (.inl h2)
 by_cases h3 : k = 3
 ·exact .inr (.inr (.inl h3))
 by_cases h4 : k = 4
 ·exact .inr (.inr (.inr (.inl h4)))
 by_cases h5 : k = 5
 ·exact .inr (.inr (.inr (.inr (.inl h5))))
 by_cases h6 : k = 6
 ·exact .inr (.inr (.inr (.inr (.inr h6))))
 rw [if_neg h1, if_neg h2, if_neg h3, if_neg h4, if_neg h5, if_neg h6] at h; cases h
theorem Qg2 {k n : Int} {s : Str} {m : Nat} (h : okN k n s m = true) (hk : k = 1) : n = 0 ∨ n = 1 := by
 unfold okN at h
 rw [if_pos hk] at h
 simp only [Bool.and_eq_true, Bool.or_eq_true, beq_iff_eq] at h
 exact h.1.1
end
end
section
open Go Go.Proofs
section
variable {C : Ctx} {H0 H : Heap}
theorem QiI {s : Str} {K : Str → Bool → Heap → Prop} (k : K (unmin s) (isMin s) H) : Qa0 C s [45] K H := by
 apply Qd2
 unfold QbG
 apply Qa7
 unfold Q6
 refine QdH ?_
 have e : ([45] : Str).isPrefixOf s = isMin s := by
  unfold isMin
  cases s with
  | nil => rfl
  | cons c t =>
   by_cases hc : c = 45
   ·subst hc; simp [List.isPrefixOf]
   ·simp [List.isPrefixOf, hc, Ne.symm hc]
 rw [e]
 cases hm : isMin s with
 | false =>
  rw [hm, QgX hm] at k
  exact Qq rfl k
 | true =>
  obtain ⟨h1, h2⟩ := QfQ hm
  rw [hm, h1] at k
  generalize s.tail = t at *
  subst h2
  refine Qh rfl ⟨by simp, by simp only [List.length_cons, List.length_nil]; omega, by omega, t, ?_, k⟩
  rw [List.take_of_length_le (by omega)]; rfl
theorem Qhu {b : Nat} {bs : Str} {v : V} {x : TV} {K : Heap → Prop} (h : PenF H0 H b bs 0) (hv : VIs H0 v x) (hn : v.n = 0 ∨ v.n = 1) (hm : bs.length + 1 ≤ 140737488355328)
 (k : ∀ H2, PenF H0 H2 b (bs ++ [if v.n = 1 then 1 else 0]) 0 → K H2) : Qby C (some (b, 0)) x K H := by
 apply QeV
 unfold QcR
 intro b1 n1
 refine bxN (Heap.put_same ..) ?_
 rw [hv.num]
 have hh := h.beside n1 (g := .row (Qa.c x)) (m := true)
 have hd := fun {H2 : Heap} {bs : Str} {t : UInt8} (h2 : PenF (H0.put b1 (.row (Qa.c x))) H2 b bs t) => h2.down (Heap.le_put (h.le.none n1))
 rcases hn with hn | hn
 ·rw [hn] at k ⊢
  exact QU hh (cs := [0]) rfl rfl (by simpa using hm) fun H2 h2 => k H2 (by simpa using hd h2)
 ·rw [hn] at k ⊢
  exact QU hh (cs := [1]) rfl rfl (by simpa using hm) fun H2 h2 => k H2 (by simpa using hd h2)
theorem Qhw {b : Nat} {bs : Str} {v : V} {x : TV} {K : Heap → Prop} (h : PenF H0 H b bs 0) (hv : VIs H0 v x) (hB : VB v) (hm : bs.length + 9 ≤ 140737488355328)
 (k : ∀ H2, PenF H0 H2 b (bs ++ Nm v.n) 0 → K H2) : Qbz C (some (b, 0)) x K H := by
 apply QeX
 unfold QcT
 intro b1 n1
 refine bxN (Heap.put_same ..) ?_
 rw [hv.num]
 have hb := hB.n
 refine Qit (h.beside n1) hb.1 hb.2 hm fun H2 h2 => k H2 ?_
 rw [Qcb] at h2
 exact h2.down (Heap.le_put (h.le.none n1))
theorem Qhx {b : Nat} {bs : Str} {v : V} {x : TV} {K : Heap → Prop} (h : PenF H0 H b bs 0) (hv : VIs H0 v x) (hm : bs.length + 2 * v.s.length + 2 ≤ 140737488355328)
 (k : ∀ H2, PenF H0 H2 b (bs ++ Tx v.s) 0 → K H2) : QbA C (some (b, 0)) x K H := by
 apply QeY
 unfold QcU
 intro b1 n1
 refine bxS (Heap.put_same ..) ?_
 rw [hv.txt]
 refine Qf0 (h.beside n1) hm fun H2 h2 => k H2 ?_
 rw [Qcb] at h2
 exact h2.down (Heap.le_put (h.le.none n1))
theorem Qis {b : Nat} {bs : Str} {v : V} {x : TV} {K : Heap → Prop} (h : PenF H0 H b bs 0) (hv : VIs H0 v x) (hs : v.s.length < 2147483648) (hm : bs.length + v.s.length + 10 ≤ 140737488355328)
 (k : ∀ H2, PenF H0 H2 b (bs ++ Bg v.s) 0 → K H2) : Qcz C (some (b, 0)) x K H := by
 apply QfC
 unfold QdM
 intro b1 n1
 refine bxS (Heap.put_same ..) ?_
 rw [hv.txt]
 refine QiI ?_
 have hul := Qhb v.s
 have hk := Qka (n := (unmin v.s).length) (by omega)
 have hh := h.beside n1 (g := .row (Qa.c x)) (m := true)
 refine Qbr hh fun H2 h2 => ?_
 refine QU h2 (cs := [128]) rfl rfl (by simp; omega) fun H3 h3 => ?_
 rw [QkJ (by omega) (by omega)]
 refine Qdk (first := 0) h3 (by omega) (by omega) (by simp; omega) fun H4 h4 => ?_
 refine Qk6 fun b2 cap H5 hb2 hH5 hcap hr5 => ?_
 subst hH5
 have h5 := h4.beside hb2 (g := .row (bytesV (unmin v.s) ++ List.replicate (cap - (unmin v.s).length) (.int .u8 0))) (m := true)
 refine Qgx h5 (.inr ⟨rfl, (b2, 0), rfl, QdK (Heap.put_same ..) fun j v' hj => ?_⟩) rfl (by simp [QfA]; omega) fun H6 h6 => ?_
 ·have := (List.getElem?_eq_some_iff.1 hj).1
  rw [Nat.zero_add, List.getElem?_append_left this]; exact hj
 refine Qbr h6 fun H7 h7 => k H7 ?_
 have h8 := (h7.down (Heap.le_put (h4.le.none hb2))).down (Heap.le_put (h.le.none n1))
 unfold Bg
 cases hmn : isMin v.s with
 | false => rw [hmn] at h8; simpa using h8
 | true => rw [hmn] at h8; simpa using h8
/-- the pen writes a value -/
def PenV (C : Ctx) (b : Nat) (w : V) : Prop := ∀ {H0 H : Heap} {bs : Str} {x : TV} {K : Heap → Prop}, PenF H0 H b bs 0 → VIs H0 w x → VB w → formV w = true → vtot w < 2147483648 → bs.length + vtot w ≤ 140737488355328 → (∀ H2, PenF H0 H2 b (bs ++ encV w) 0 → K H2) → QaU C (some (b, 0)) x K H
theorem QfZ {b : Nat} {bs : Str} {v : V} {x : TV} {K : Heap → Prop} (ih : ∀ w ∈ v.l, PenV C b w) (h : PenF H0 H b bs 0) (hv : VIs H0 v x) (hB : VB v) (hF : formVs v.l = true) (hs : vtot v < 2147483648) (hm : bs.length + vtots v.l + 10 ≤ 140737488355328)
 (k : ∀ H2, PenF H0 H2 b (bs ++ encVs v.l) 0 → K H2) : Qbb C (some (b, 0)) x K H := by
 apply Qfp
 unfold Qdx
 intro b1 n1
 have hh := h.beside n1 (g := .row (Qa.c x)) (m := true)
 have hle0 := Heap.le_put (h.le.none n1) (g := .row (Qa.c x)) (m := true)
 refine bxL (Heap.put_same ..) ?_
 have hr := hv.row
 have hl := hr.len
 have hbl := hB.l
 rw [Qf9] at hs
 generalize H0.put b1 (.row (Qa.c x)) = B at *
 generalize H.put b1 (.row (Qa.c x)) = H1 at *
 refine ⟨fun y H' => ∃ i : Nat, y = (i : Int) ∧ i ≤ v.l.length ∧ PenF B H' b (bs ++ encLs (v.l.take i)) 0, fun y _ => v.l.length - y.toNat, ⟨0, rfl, Nat.zero_le _, by simpa [encLs] using hh⟩, ?_⟩
 rintro y H2 ⟨i, rfl, hi, h2⟩
 have hlt3 := QfM (v.l.take i) fun w hw => Qh4 w (hB.ls.mem (List.mem_of_mem_take hw)) (by have := QcY (List.mem_of_mem_take hw); omega)
 have hvt := QgG v.l i
 rw [hl]
 refine ift.of (fun hc => ?_) (fun hc => ?_)
 ·have hlt : i < v.l.length := by have := of_decide_eq_true hc; omega
  have hmem := List.getElem_mem hlt
  have hmv := QcY hmem
  have hets := Qio hlt
  have hvt1 : vtots (v.l.take i) + vtot v.l[i] ≤ vtots v.l := by
   have h1 := QgG v.l (i + 1)
   have h3 : v.l.take (i + 1) = v.l.take i ++ [v.l[i]] := by rw [List.take_add_one, List.getElem?_eq_getElem hlt]; rfl
   rw [h3, QdV] at h1
   simpa [vtots] using h1
  refine hr.ld (hle0.trans h2.le) rfl hlt fun z hz => ?_
  intro b6 n6
  refine ⟨_, Heap.put_same .., by simp [Qa.c], ?_⟩
  rw [Heap.put_put]
  have esp : splice (Qa.c Qa.zero) (b6, 0).2 (Qa.c z) = Qa.c z := rfl
  rw [esp]
  have h3 := h2.beside n6 (g := .row (Qa.c z)) (m := true)
  have hle6 := Heap.le_put (h2.le.none n6) (g := .row (Qa.c z)) (m := true)
  refine QU h3 (cs := [1]) rfl rfl (by simp; omega) fun H4 h4 => ?_
  refine bxV (h4.le _ _ (Heap.put_same ..)) ?_
  refine ih _ hmem h4 (hz.le (hle0.trans hle6)) (hB.at hlt) (QcM hmem hF) (by omega) (by simp; omega) fun H5 h5 => ?_
  rw [Qac (by omega) (by omega)]
  refine ⟨⟨i + 1, by omega, by omega, ?_⟩, by first | omega | (dsimp only; omega)⟩
  rw [hets]
  simpa using h5.down hle6
 ·have hie : i = v.l.length := by have := of_decide_eq_false hc; omega
  subst hie
  rw [List.take_length] at h2 hlt3
  refine QU h2 (cs := [0]) rfl rfl (by simp; omega) fun H4 h4 => k H4 ?_
  rw [QgS]
  simpa using h4.down hle0
theorem QhV {b : Nat} {bs : Str} {v : V} {x : TV} {K : Heap → Prop} (ih : ∀ w ∈ v.l, PenV C b w) (h : PenF H0 H b bs 0) (hv : VIs H0 v x) (hB : VB v) (hF : formVs v.l = true) (hs : vtot v < 2147483648) (hm : bs.length + vtots v.l + 2 * v.s.length + 12 ≤ 140737488355328)
 (k : ∀ H2, PenF H0 H2 b (bs ++ (Tx v.s ++ encVs v.l)) 0 → K H2) : QbO C (some (b, 0)) x K H := by
 apply Qfn
 unfold Qdv
 intro b1 n1
 have hh := h.beside n1 (g := .row (Qa.c x)) (m := true)
 have hle0 := Heap.le_put (h.le.none n1) (g := .row (Qa.c x)) (m := true)
 have hvt := Qf9 v
 have htl := Qj5 v.s
 have hzc := Qk9 v.s
 refine bxS (Heap.put_same ..) ?_
 rw [hv.txt]
 refine Qf0 hh (by omega) fun H2 h2 => ?_
 rw [Qcb] at h2
 refine bxV (h2.le _ _ (Heap.put_same ..)) ?_
 refine QfZ ih h2 (hv.le hle0) hB hF hs (by rw [List.length_append]; omega) fun H3 h3 => k H3 ?_
 rw [← List.append_assoc]
 exact h3.down hle0
theorem Qhv {b : Nat} : ∀ v : V, PenV C b v := by
 refine V.rec_ fun v ih => ?_
 intro H0 H bs x K h hv hB hF hs hm k
 obtain ⟨hok, hfl⟩ := mayN v hF
 have hkk := hB.k
 have hk6 := Qk2 hok
 have hvt := Qf9 v
 apply QeW
 unfold QcS
 intro b1 n1
 have hh := h.beside n1 (g := .row (Qa.c x)) (m := true)
 have hle1 := Heap.le_put (h.le.none n1) (g := .row (Qa.c x)) (m := true)
 have hb1 : (H0.put b1 (.row (Qa.c x))) b1 = some (true, .row (Qa.c x)) := Heap.put_same ..
 intro b3 n3
 refine ⟨rfl, rfl, _, Heap.put_same .., by simp, ?_⟩
 rw [Heap.put_put]
 have esp : ∀ vs : List Value, vs.length = 7 → splice (List.replicate 7 (.nilFunc : Value)) (b3, 0).2 vs = vs := fun vs hl => by unfold splice; simp [hl]
 rw [esp _ rfl]
 generalize hfs : ([.nilFunc, .func (.func 78) (List.toArray []) (List.toArray []), .func (.func 79) (List.toArray []) (List.toArray []), .func (.func 80) (List.toArray []) (List.toArray []), .func (.func 81) (List.toArray []) (List.toArray []), .func (.func 82) (List.toArray []) (List.toArray []), .func (.func 83) (List.toArray []) (List.toArray [])] : List Value) = fs
 have hh3 := hh.beside n3 (g := .row fs) (m := true)
 have hle3 := Heap.le_put (hh.le.none n3) (g := .row fs) (m := true)
 have hb13 := hle3 _ _ hb1
 have hb3 : ((H0.put b1 (.row (Qa.c x))).put b3 (.row fs)) b3 = some (true, .row fs) := Heap.put_same ..
 generalize H0.put b1 (.row (Qa.c x)) = B1 at *
 generalize B1.put b3 (.row fs) = B at *
 have hleB := hle1.trans hle3
 refine bxK (hh3.le _ _ hb13) ?_
 rw [hv.kind]
 have hkc : v.k = ((UInt8.ofNat v.k.toNat).toNat : Int) := by rw [UInt8.toNat_ofNat']; omega
 refine QU hh3 (cs := [UInt8.ofNat v.k.toNat]) (by simp only [bytesV, List.map_cons, List.map_nil]; rw [← hkc]) rfl (by simp; omega) fun H4 h4 => ?_
 rw [Qcb] at h4
 refine ⟨B, h4.le, bxK hb13 ?_⟩
 rw [hv.kind]
 refine ⟨by omega, by omega, ?_⟩
 have hvB := hv.le hleB
 have hfin : ∀ {e : Str} {H2 : Heap}, PenF B H2 b (bs ++ [UInt8.ofNat v.k.toNat] ++ e) 0 → encV v = UInt8.ofNat v.k.toNat :: e → Heap.le B H2 ∧ K H2 := fun {e H2} h2 he => ⟨h2.le, k H2 (by rw [he]; simpa using h2.down hleB)⟩
 have hev := QfN v
 have hrd : ∀ {o : Nat} {u : Value}, fs[o]? = some u → rd B ((b3, 0).1, (b3, 0).2 + (o : Int).toNat * 1) = some u := fun {o u} hu => by
  rw [Qbh hb3]; simpa using hu
 have hl1 : (bs ++ [UInt8.ofNat v.k.toNat]).length = bs.length + 1 := by simp
 rcases hk6 with h1 | h1 | h1 | h1 | h1 | h1
 ·rw [h1] at hev ⊢
  refine ⟨_, hrd (o := 1) (by rw [← hfs]; rfl), bxV hb13 ?_⟩
  have hc : Qby C (some (b, 0)) x (fun H24 => Heap.le B H24 ∧ K H24) H4 := Qhu h4 hvB (Qg2 hok h1) (by omega) fun H2 h2 => hfin h2 (by rw [hev, h1]; rfl)
  exact ⟨_, [], [], rfl, Qe2, hc⟩
 ·rw [h1] at hev ⊢
  refine ⟨_, hrd (o := 2) (by rw [← hfs]; rfl), bxV hb13 ?_⟩
  have hc : Qbz C (some (b, 0)) x (fun H24 => Heap.le B H24 ∧ K H24) H4 := Qhw h4 hvB hB (by omega) fun H2 h2 => hfin h2 (by rw [hev, h1]; rfl)
  exact ⟨_, [], [], rfl, Qe3, hc⟩
 ·rw [h1] at hev ⊢
  refine ⟨_, hrd (o := 3) (by rw [← hfs]; rfl), bxV hb13 ?_⟩
  have hc : Qcz C (some (b, 0)) x (fun H24 => Heap.le B H24 ∧ K H24) H4 := Qis h4 hvB (by omega) (by omega) fun H2 h2 => hfin h2 (by rw [hev, h1]; rfl)
  exact ⟨_, [], [], rfl, QfS, hc⟩
 ·rw [h1] at hev ⊢
  refine ⟨_, hrd (o := 4) (by rw [← hfs]; rfl), bxV hb13 ?_⟩
  have hc : QbA C (some (b, 0)) x (fun H24 => Heap.le B H24 ∧ K H24) H4 := Qhx h4 hvB (by omega) fun H2 h2 => hfin h2 (by rw [hev, h1]; rfl)
  exact ⟨_, [], [], rfl, Qe4, hc⟩
 ·rw [h1] at hev ⊢
  refine ⟨_, hrd (o := 5) (by rw [← hfs]; rfl), bxV hb13 ?_⟩
  have hc : Qbb C (some (b, 0)) x (fun H24 => Heap.le B H24 ∧ K H24) H4 := QfZ ih h4 hvB hB hfl hs (by omega) fun H2 h2 => hfin h2 (by rw [hev, h1]; rfl)
  exact ⟨_, [], [], rfl, Qdr, hc⟩
 ·rw [h1] at hev ⊢
  refine ⟨_, hrd (o := 6) (by rw [← hfs]; rfl), bxV hb13 ?_⟩
  have hc : QbO C (some (b, 0)) x (fun H24 => Heap.le B H24 ∧ K H24) H4 := QhV ih h4 hvB hB hfl hs (by omega) fun H2 h2 => hfin h2 (by rw [hev, h1]; rfl)
  exact ⟨_, [], [], rfl, Qfv, hc⟩
theorem QgR {s : Sl} {a : Str} {v : V} {x : TV} {K : Sl → Heap → Prop} (hr : rdsl H s (bytesV a)) (hl : s.len = a.length) (hv : VIs H v x) (hB : VB v) (hs : mayV v = true → vtot v < 2147483648) (hm : a.length ≤ 1000000000000)
 (k : ∀ r H2, OwnF H H2 1 r (bytesV (a ++ if mayV v then encV v else [])) → K r H2) : QdF C s x K H := by
 apply QgJ
 unfold QeO
 intro b1 n1
 have hb1 : (H.put b1 (.row (Qa.c x))) b1 = some (true, .row (Qa.c x)) := Heap.put_same ..
 have hle1 := Heap.le_put n1 (g := .row (Qa.c x)) (m := true)
 generalize H.put b1 (.row (Qa.c x)) = H1 at *
 refine Qgl (QbW hle1 hr) hl (by omega) fun b H2 h2 => ?_
 refine ⟨fun _ H3 => PenF H1 H3 b (a ++ if mayV v then encV v else []) 0, ?_, ?_⟩
 ·refine bxV (h2.le _ _ hb1) ?_
  refine QcK (hv.le (hle1.trans h2.le)) hB ?_
  rw [Qib]
  refine ift.of (fun h => ?_) (fun h => ?_)
  ·rw [if_pos h]
   exact bxV (h2.le _ _ hb1) (Qhv v h2 (hv.le hle1) hB (QbQ h) (hs h) (by have := hs h; omega) fun H3 h3 => h3)
  ·rw [if_neg (by rw [h]; decide), List.append_nil]; exact h2
 ·rintro _ H3 h3
  obtain ⟨r, h4, h5⟩ := h3.take
  exact ⟨_, rfl, r, h4, k r H3 (h5.down hle1)⟩
end
end
section
open Go Go.Proofs
/-- c tells how s and t stand, at a place that both have; 0: P -/
def Ord (c : Int) (s t : Str) (P : Prop) : Prop := (c = -1 ∧ Lt s t) ∨ (c = 1 ∧ Lt t s) ∨ (c = 0 ∧ P)
theorem Ord.pre {c : Int} {s t : Str} {P : Prop} (p : Str) (h : Ord c s t P) : Ord c (p ++ s) (p ++ t) P := by
 rcases h with ⟨h1, h2⟩ | ⟨h1, h2⟩ | h
 ·exact .inl ⟨h1, h2.pre p⟩
 ·exact .inr (.inl ⟨h1, h2.pre p⟩)
 ·exact .inr (.inr h)
theorem Ord.cons {c : Int} {s t : Str} {P : Prop} (p : UInt8) (h : Ord c s t P) : Ord c (p :: s) (p :: t) P := h.pre [p]
theorem Ord.mono {c : Int} {s t : Str} {P Q : Prop} (h : Ord c s t P) (hpq : P → Q) : Ord c s t Q := by
 rcases h with h | h | ⟨h1, h2⟩
 ·exact .inl h
 ·exact .inr (.inl h)
 ·exact .inr (.inr ⟨h1, hpq h2⟩)
theorem Qil : ∀ s t : Str, vcmpS s t = cmpS s t
 | [], [] => rfl
 | [], _ :: _ => rfl
 | _ :: _, [] => rfl
 | a :: s, b :: t => by
  simp only [vcmpS, cmpS]
  rcases QgD a b with h | h | rfl
  ·have hne : a ≠ b := fun e => by subst e; exact QcX _ h
   have : a.toNat < b.toNat := h
   rw [if_neg hne, if_pos h]; unfold sgn; rw [if_pos (by omega)]
  ·have hne : a ≠ b := fun e => by subst e; exact QcX _ h
   have h' : b.toNat < a.toNat := h
   rw [if_neg hne, if_neg (Qe9 h), if_pos h]; unfold sgn; rw [if_neg (by omega), if_pos (by omega)]
  ·rw [if_pos rfl, if_neg (QcX a), if_neg (QcX a)]; exact Qil s t
theorem QjA (s t : Str) : cmpS s t = -1 ∨ cmpS s t = 1 ∨ cmpS s t = 0 := by
 induction s generalizing t with
 | nil => cases t <;> simp [cmpS]
 | cons a s ih =>
  cases t with
  | nil => simp [cmpS]
  | cons b t =>
   simp only [cmpS]
   split
   ·simp
   ·split
    ·simp
    ·exact ih t
theorem Qkd (s t : Str) : Ord (vcmpS s t) (Tx s) (Tx t) (s = t) := by
 rw [Qil]
 rcases QjA s t with h | h | h
 ·exact .inl ⟨h, Qkj s t (by omega)⟩
 ·exact .inr (.inl ⟨h, Qkj t s (by rw [Qhl]; omega)⟩)
 ·exact .inr (.inr ⟨h, (Qg8 s t).2.1 h⟩)
theorem Qi3 : ∀ {s t : Str}, s.length = t.length → Ord (vcmpS s t) s t (s = t)
 | [], [], _ => .inr (.inr ⟨rfl, rfl⟩)
 | a :: s, b :: t, h => by
  have ih := Qi3 (s := s) (t := t) (by simpa using h)
  simp only [vcmpS]
  rcases QgD a b with h | h | rfl
  ·have hne : a ≠ b := fun e => by subst e; exact QcX _ h
   have h' : a.toNat < b.toNat := h
   rw [if_neg hne]
   exact .inl ⟨by unfold sgn; rw [if_pos (by omega)], .head h⟩
  ·have hne : a ≠ b := fun e => by subst e; exact QcX _ h
   have h' : b.toNat < a.toNat := h
   rw [if_neg hne]
   exact .inr (.inl ⟨by unfold sgn; rw [if_neg (by omega), if_pos (by omega)], .head h⟩)
  ·rw [if_pos rfl]
   exact (ih.cons a).mono fun e => by rw [e]
theorem Qg6 {a b : Int} {s t : Str} (h1 : a < b → Lt s t) (h2 : b < a → Lt t s) : Ord (sgn a b) s t (a = b) := by
 unfold sgn
 by_cases h : a < b
 ·rw [if_pos h]; exact .inl ⟨rfl, h1 h⟩
 ·rw [if_neg h]
  by_cases h' : b < a
  ·rw [if_pos h']; exact .inr (.inl ⟨rfl, h2 h'⟩)
  ·rw [if_neg h']; exact .inr (.inr ⟨rfl, by omega⟩)
/-- digits behind how many they are -/
theorem Qk4 {a b : Str} (ha : a.length < 2147483648) (hb : b.length < 2147483648) : Ord (cmpD a b) (numB 0 a.length ++ a) (numB 0 b.length ++ b) (a = b) := by
 unfold cmpD
 by_cases h : a.length = b.length
 ·rw [if_pos h, h]
  exact (Qi3 h).pre _
 ·rw [if_neg h]
  have := Qg6 (a := (a.length : Int)) (b := (b.length : Int)) (s := numB 0 a.length ++ a) (t := numB 0 b.length ++ b) (fun hl => (Qg1 (by omega) (by omega) (by omega)).app a b) (fun hl => (Qg1 (by omega) (by omega) (by omega)).app b a)
  exact this.mono fun e => absurd e (by omega)
theorem Qk3 {a b : Str} (ha : a.length < 2147483648) (hb : b.length < 2147483648) : Ord (cmpB a b) (Bg a) (Bg b) (a = b) := by
 unfold cmpB Bg
 have hua := Qhb a
 have hub := Qhb b
 cases hma : isMin a with
 | false =>
  cases hmb : isMin b with
  | false =>
   rw [QgX hma, QgX hmb]
   exact (Qk4 ha hb).cons 128
  | true => exact .inr (.inl ⟨rfl, .head (by decide)⟩)
 | true =>
  cases hmb : isMin b with
  | false => exact .inl ⟨rfl, .head (by decide)⟩
  | true =>
   obtain ⟨h1, h2⟩ := QfQ hma
   obtain ⟨h3, h4⟩ := QfQ hmb
   rw [h1] at hua ⊢
   rw [h3] at hub ⊢
   have := (Qk4 (a := b.tail) (b := a.tail) (by omega) (by omega)).cons 128
   rcases this with ⟨g1, g2⟩ | ⟨g1, g2⟩ | ⟨g1, g2⟩
   ·exact .inl ⟨g1, g2.flip⟩
   ·exact .inr (.inl ⟨g1, g2.flip⟩)
   ·exact .inr (.inr ⟨g1, by rw [h2, h4, g2]⟩)
theorem QhP (v : V) : encV v ≠ [] := by rw [QfN]; simp
theorem Qic : ∀ (l m : List V), (∀ v ∈ l, ∀ w ∈ m, Ord (cmpV v w) (encV v) (encV w) (v = w)) → Ord (cmpVs l m) (encVs l) (encVs m) (l = m)
 | [], [], _ => .inr (.inr ⟨rfl, rfl⟩)
 | [], w :: m, _ => .inl ⟨rfl, .head (by decide)⟩
 | v :: l, [], _ => .inr (.inl ⟨rfl, .head (by decide)⟩)
 | v :: l, w :: m, h => by
  have h1 := h v (List.mem_cons_self ..) w (List.mem_cons_self ..)
  have h2 := Qic l m fun a ha b hb => h a (List.mem_cons_of_mem _ ha) b (List.mem_cons_of_mem _ hb)
  simp only [cmpVs, encVs]
  rcases h1 with ⟨g1, g2⟩ | ⟨g1, g2⟩ | ⟨g1, g2⟩
  ·rw [g1]; exact .inl ⟨by simp, .tail (g2.app _ _)⟩
  ·rw [g1]; exact .inr (.inl ⟨by simp, .tail (g2.app _ _)⟩)
  ·subst g2
   rw [g1]
   simp only [ne_eq, not_true_eq_false, if_false]
   exact ((h2.pre (encV v)).cons 1).mono fun e => by rw [e]
theorem V.ext {v w : V} (h1 : v.k = w.k) (h2 : v.n = w.n) (h3 : v.s = w.s) (h4 : v.l = w.l) : v = w := by
 obtain ⟨k, n, s, l⟩ := v
 obtain ⟨k', n', s', l'⟩ := w
 simp only [V.k, V.n, V.s, V.l] at h1 h2 h3 h4
 rw [h1, h2, h3, h4]
theorem Qkc {k n : Int} {s : Str} {m : Nat} (h : okN k n s m = true) : (k = 1 ∨ k = 2 → s = [] ∧ m = 0) ∧ (k = 3 ∨ k = 4 → n = 0 ∧ m = 0) ∧ (k = 5 → n = 0 ∧ s = []) ∧ (k = 6 → n = 0) := by
 unfold okN at h
 refine ⟨fun hk => ?_, fun hk => ?_, fun hk => ?_, fun hk => ?_⟩
 ·rcases hk with rfl | rfl
  ·simp at h; exact ⟨h.1.2, h.2⟩
  ·simp at h; exact h
 ·rcases hk with rfl | rfl
  ·simp at h; exact ⟨h.1.2, h.2⟩
  ·simp at h; exact h
 ·subst hk; simp at h; exact h.1
 ·subst hk; simp at h; exact h.1
theorem Qle (v w : V) (hB : VB v) (hB2 : VB w) (hF : formV v = true) (hF2 : formV w = true) (hs : vtot v < 2147483648) (hs2 : vtot w < 2147483648) : Ord (cmpV v w) (encV v) (encV w) (v = w) := by
 refine V.rec_ (P := fun v => ∀ w, VB v → VB w → formV v = true → formV w = true → vtot v < 2147483648 → vtot w < 2147483648 → Ord (cmpV v w) (encV v) (encV w) (v = w)) (fun v ih => ?_) v w hB hB2 hF hF2 hs hs2
 clear hB hB2 hF hF2 hs hs2
 intro w hB hB2 hF hF2 hs hs2
 obtain ⟨ok1, fl1⟩ := mayN v hF
 obtain ⟨ok2, fl2⟩ := mayN w hF2
 obtain ⟨a1, a2, a3, a4⟩ := Qkc ok1
 obtain ⟨b1, b2, b3, b4⟩ := Qkc ok2
 have hk1 := hB.k
 have hk2 := hB2.k
 rw [Qf9] at hs hs2
 rw [QgQ, QfN, QfN]
 by_cases hkk : v.k = w.k
 rotate_left
 ·rw [if_pos hkk]
  refine (Qg6 (fun h => .head ?_) (fun h => .head ?_)).mono fun e => absurd e hkk
  ·show (UInt8.ofNat _).toNat < (UInt8.ofNat _).toNat
   rw [UInt8.toNat_ofNat', UInt8.toNat_ofNat']; omega
  ·show (UInt8.ofNat _).toNat < (UInt8.ofNat _).toNat
   rw [UInt8.toNat_ofNat', UInt8.toNat_ofNat']; omega
 rw [if_neg (by simp [hkk]), ← hkk]
 refine Ord.cons _ ?_
 have hl : Ord (cmpVs v.l w.l) (encVs v.l) (encVs w.l) (v.l = w.l) := Qic v.l w.l fun p hp q hq => ih p hp q (hB.ls.mem hp) (hB2.ls.mem hq) (QcM hp fl1) (QcM hq fl2) (by have := QcY hp; omega) (by have := QcY hq; omega)
 have nil0 : ∀ {l : List V}, l.length = 0 → l = [] := fun h => List.length_eq_zero_iff.1 h
 rcases Qk2 ok1 with h | h | h | h | h | h
 ·obtain ⟨c1, c2⟩ := a1 (.inl h)
  obtain ⟨d1, d2⟩ := b1 (.inl (by omega))
  rw [if_neg (by omega), if_neg (by omega), if_neg (by omega), if_neg (by omega), if_pos h, if_pos h]
  have n1 := Qg2 ok1 h
  have n2 := Qg2 ok2 (by omega)
  refine (Qg6 (fun hh => ?_) (fun hh => ?_)).mono fun e => V.ext hkk e (by rw [c1, d1]) (by rw [nil0 c2, nil0 d2])
  ·have e1 : v.n = 0 := by omega
   have e2 : w.n = 1 := by omega
   rw [e1, e2]; exact .head (by decide)
  ·have e1 : v.n = 1 := by omega
   have e2 : w.n = 0 := by omega
   rw [e1, e2]; exact .head (by decide)
 ·obtain ⟨c1, c2⟩ := a1 (.inr h)
  obtain ⟨d1, d2⟩ := b1 (.inr (by omega))
  rw [if_neg (by omega), if_neg (by omega), if_neg (by omega), if_neg (by omega), if_neg (by omega), if_pos h, if_neg (by omega), if_pos h]
  exact (Qg6 (fun hh => QkR hB.n.1 hB2.n.2 hh) (fun hh => QkR hB2.n.1 hB.n.2 hh)).mono fun e => V.ext hkk e (by rw [c1, d1]) (by rw [nil0 c2, nil0 d2])
 ·obtain ⟨c1, c2⟩ := a2 (.inl h)
  obtain ⟨d1, d2⟩ := b2 (.inl (by omega))
  rw [if_pos h, if_neg (by omega), if_neg (by omega), if_pos h, if_neg (by omega), if_neg (by omega), if_pos h]
  exact (Qk3 (by omega) (by omega)).mono fun e => V.ext hkk (by rw [c1, d1]) e (by rw [nil0 c2, nil0 d2])
 ·obtain ⟨c1, c2⟩ := a2 (.inr h)
  obtain ⟨d1, d2⟩ := b2 (.inr (by omega))
  rw [if_neg (by omega), if_pos h, if_neg (by omega), if_neg (by omega), if_neg (by omega), if_pos h, if_neg (by omega), if_neg (by omega), if_neg (by omega), if_pos h]
  exact (Qkd v.s w.s).mono fun e => V.ext hkk (by rw [c1, d1]) e (by rw [nil0 c2, nil0 d2])
 ·obtain ⟨c1, c2⟩ := a3 h
  obtain ⟨d1, d2⟩ := b3 (by omega)
  rw [if_neg (by omega), if_neg (by omega), if_pos h, if_neg (by omega), if_neg (by omega), if_neg (by omega), if_neg (by omega), if_pos h, if_neg (by omega), if_neg (by omega), if_neg (by omega), if_neg (by omega), if_pos h]
  exact hl.mono fun e => V.ext hkk (by rw [c1, d1]) (by rw [c2, d2]) e
 ·have c1 := a4 h
  have d1 := b4 (by omega)
  rw [h]
  show Ord (if vcmpS v.s w.s ≠ 0 then vcmpS v.s w.s else cmpVs v.l w.l) (Tx v.s ++ encVs v.l) (Tx w.s ++ encVs w.l) (v = w)
  rcases Qkd v.s w.s with ⟨g1, g2⟩ | ⟨g1, g2⟩ | ⟨g1, g2⟩
  ·rw [g1]; exact .inl ⟨by simp, g2.app _ _⟩
  ·rw [g1]; exact .inr (.inl ⟨by simp, g2.app _ _⟩)
  ·rw [g1, g2]
   simp only [ne_eq, not_true_eq_false, if_false]
   exact (hl.pre _).mono fun e => V.ext hkk (by rw [c1, d1]) g2 e
/-- how the bytes stand, whatever stands behind -/
theorem Ord.cmp {c : Int} {s t : Str} {P : Prop} (h : Ord c s t P) (hp : P → s = t) : cmpS s t = c ∧ (c ≠ 0 → ∀ x y, cmpS (s ++ x) (t ++ y) = c) := by
 rcases h with ⟨rfl, h⟩ | ⟨rfl, h⟩ | ⟨rfl, h⟩
 ·exact ⟨h.cmp.1, fun _ x y => (h.app x y).cmp.1⟩
 ·exact ⟨h.cmp.2, fun _ x y => (h.app y x).cmp.2⟩
 ·exact ⟨(Qg8 s t).2.2 (hp h), fun h => absurd rfl h⟩
end
section
open Go Go.Proofs
section
variable {C : Ctx} {H : Heap}
theorem Qky {A D : Heap} {v : V} {x : TV} {K : TV → Heap → Prop} (ho : ∀ (t : Sl) (H : Heap) (K : Sl → Heap → Prop), VRow A t v.l → A.le H → (∀ t2 H2, Made H H2 v.l t2 → K t2 H2) → QY C t K H) (hx : VIs A v x) (hA : A.le D)
 (k : ∀ t2 H2, Made D H2 v.l t2 → K { x with L := t2 } H2) : QaZ C x K D := by
 apply QaZ.gh
 apply Qhf
 unfold Qfi
 intro b1 n1 b3 n3
 have ne : b3 ≠ b1 := fun e => by rw [e, Heap.put_same] at n3; cases n3
 have n3' : D b3 = none := by rw [Heap.put_ne _ _ _ ne] at n3; exact n3
 have l1 := Heap.le_put n1 (g := .row (Qa.c x)) (m := true)
 have l3 := Heap.le_put n3 (g := .row (Qa.c Qa.zero)) (m := true)
 have lE := l1.trans l3
 have c1 : ((D.put b1 (.row (Qa.c x))).put b3 (.row (Qa.c Qa.zero))) b1 = some (true, .row (Qa.c x)) := by rw [Heap.put_ne _ _ _ ne.symm, Heap.put_same]
 have c3 : ((D.put b1 (.row (Qa.c x))).put b3 (.row (Qa.c Qa.zero))) b3 = some (true, .row (Qa.c Qa.zero)) := Heap.put_same ..
 generalize (D.put b1 (.row (Qa.c x))).put b3 (.row (Qa.c Qa.zero)) = E at *
 refine fL c1 (t := x.L) rfl ?_
 refine ho _ _ _ (Qei.1 hx).2.2.2 (hA.trans lE) fun t2 H2 hm => ?_
 refine ⟨_, hm.le _ _ c1, by show 0 + 3 < 4; omega, ?_⟩
 show ldT (H2.put b1 (.row ((Qa.c x).set (0 + 3) (slv t2)))) Qa.c (b1, 0) _
 have hc2 : (Qa.c x).set (0 + 3) (slv t2) = Qa.c { x with L := t2 } := rfl
 rw [hc2]
 refine bxT (c := Qa.c) (x := { x with L := t2 }) (Heap.put_same ..) ?_
 refine ⟨Qa.c Qa.zero, by rw [Heap.put_ne _ _ _ ne]; exact hm.le _ _ c3, by simp [Qa.c], ?_⟩
 have hc3 : splice (Qa.c Qa.zero) (b3, 0).2 (Qa.c { x with L := t2 }) = Qa.c { x with L := t2 } := rfl
 rw [hc3]
 refine bxT (c := Qa.c) (x := { x with L := t2 }) (Heap.put_same ..) ?_
 have keep : ∀ {z : Nat} {e : Bool × GO}, z ≠ b1 → z ≠ b3 → H2 z = some e → ((H2.del b1).del b3) z = some e := fun h1 h3 hz => by
  rw [Heap.del_ne _ h3, Heap.del_ne _ h1]; exact hz
 have neE : ∀ {z : Nat}, E z = none → z ≠ b1 ∧ z ≠ b3 := fun hz => ⟨fun e => (by rw [e, c1] at hz; cases hz), fun e => (by rw [e, c3] at hz; cases hz)⟩
 have neD : ∀ {z : Nat} {e : Bool × GO}, D z = some e → z ≠ b1 ∧ z ≠ b3 := fun hz => ⟨fun e => (by rw [e, n1] at hz; cases hz), fun e => (by rw [e, n3'] at hz; cases hz)⟩
 refine ⟨(H2.del b1).del b3, Gh.le fun z e hz => ?_, k t2 _ ⟨fun z e hz => ?_, hm.row.le fun z e hz => ?_, ?_, hm.cp⟩⟩
 ·have h3 : z ≠ b3 := fun e => by rw [e, Heap.del_same] at hz; cases hz
  rw [Heap.del_ne _ h3] at hz
  have h1 : z ≠ b1 := fun e => by rw [e, Heap.del_same] at hz; cases hz
  rw [Heap.del_ne _ h1] at hz
  rw [Heap.put_ne _ _ _ h3, Heap.put_ne _ _ _ h1]; exact hz
 ·obtain ⟨h1, h3⟩ := neD hz
  exact keep h1 h3 (hm.le _ _ (lE _ _ hz))
 ·obtain ⟨q1, q2⟩ := Heap.new_inv hz
  obtain ⟨h1, h3⟩ := neE q1
  exact Heap.new_some (keep h1 h3 q2) (lE.none q1)
 ·obtain ⟨j, hj⟩ := hm.sp
  refine ⟨j, hj.to fun z e hz he => ?_⟩
  obtain ⟨h1, h3⟩ := neE hz
  exact ⟨lE.none hz, keep h1 h3 he⟩
theorem Qid {A : Heap} {l : List V} {t : Sl} {H : Heap} {K : Sl → Heap → Prop} (hv : VRow A t l) (hle : A.le H) (hz : vsizes l ≤ 1000000) (k : ∀ t2 H2, Made H H2 l t2 → K t2 H2) : QY C t K H := by
 have main : ∀ v : V, ∀ (A : Heap) (t : Sl) (H : Heap) (K : Sl → Heap → Prop), VRow A t v.l → A.le H → vsizes v.l ≤ 1000000 → (∀ t2 H2, Made H H2 v.l t2 → K t2 H2) → QY C t K H := by
  refine fun v => V.rec_ (P := fun v => ∀ (A : Heap) (t : Sl) (H : Heap) (K : Sl → Heap → Prop), VRow A t v.l → A.le H → vsizes v.l ≤ 1000000 → (∀ t2 H2, Made H H2 v.l t2 → K t2 H2) → QY C t K H) (fun v ih => ?_) v
  intro A t H K hv hle hz k
  apply Qgf
  unfold Qec
  have hl := hv.len
  have hll := QgF v.l
  refine ⟨fun x D => ∃ (s : Sl) (ys : List TV), x = (s, (ys.length : Int)) ∧ Od H D v.l s ys, fun x _ => v.l.length - x.2.toNat,
   ⟨Sl.nil, [], rfl, Od.nil⟩, ?_⟩
  rintro _ D ⟨s, ys, rfl, ho⟩
  rw [hl]
  refine ift.of (fun h => ?_) (fun h => ?_)
  ·have hlt : ys.length < v.l.length := by have := of_decide_eq_true h; dsimp only at this; omega
   have hleD := hle.trans ho.own.le
   refine hv.ld hleD rfl hlt fun x hx => ?_
   have hmem := List.getElem_mem hlt
   have hsz := Qf8 hmem
   have hszl : vsize v.l[ys.length] = vsizes v.l[ys.length].l + 1 := by cases v.l[ys.length]; rfl
   have hxi := Qei.1 hx
   intro b12 n12
   refine nwT rfl ?_
   have l12 := Heap.le_put n12 (g := .row (Qa.c x)) (m := true)
   refine bxT (c := Qa.c) (x := x) (Heap.put_same ..) ?_
   refine Qky (A := A) (fun t H K q1 q2 q3 => ih _ hmem A t H K q1 q2 (by omega) q3) hx (hleD.trans l12) fun t2 H2 hm => ?_
   have hown : Own H2 4 s (ys.flatMap Qa.c) := ho.own.own.le (l12.trans hm.le)
   have hf := flat4 ys
   have hsl : s.len = ys.length := by have := ho.own.own.1; omega
   refine QdX (zc := Qa.c Qa.zero) hown.off rfl (by dsimp only; omega) (by dsimp only; omega) fun r H3 h4 hr => ?_
   rw [Qac (by omega) (by omega)]
   have hs := ho.step n12 hlt hm (x := { x with L := t2 }) ⟨hxi.1, hxi.2.1, hxi.2.2.1⟩ rfl (Heap.but.refl _ _) (by rw [List.append_nil] at h4; exact h4)
   refine ⟨⟨r, ys ++ [{ x with L := t2 }], ?_, hs⟩, by first | omega | (dsimp only; omega)⟩
   rw [List.length_append, List.length_singleton]; rfl
  ·have hn : ys.length = v.l.length := by
    have := of_decide_eq_false h; dsimp only at this
    have := ho.le
    omega
   exact k _ _ (ho.fin hn (by omega))
 exact main (.mk 0 0 [] l) A t H K hv hle hz k
end
end
section
open Go Go.Proofs
/-- the bytes of a row's values, one behind the other -/
def keyB (l : List V) : Str := l.flatMap encV
theorem QiV {l : List V} {i : Nat} (h : i < l.length) : keyB (l.take (i + 1)) = keyB (l.take i) ++ encV l[i] := by
 unfold keyB
 rw [List.take_add_one, List.getElem?_eq_getElem h, Option.toList_some, List.flatMap_append, List.flatMap_singleton]
theorem Qh8 {m : Nat} : ∀ (l : List V), (∀ v ∈ l, (encV v).length ≤ m) → (keyB l).length ≤ l.length * m
 | [], _ => by simp [keyB]
 | v :: l, h => by
  have h1 := h v (List.mem_cons_self ..)
  have h2 := Qh8 l fun w hw => h w (List.mem_cons_of_mem _ hw)
  unfold keyB at *
  rw [List.flatMap_cons, List.length_append, List.length_cons, Nat.add_mul]; omega
/-- values that a key may be made of -/
def fineV (l : List V) : Prop := VBs l ∧ l.length ≤ 10000 ∧ ∀ v ∈ l, vtot v ≤ 14000000
section
variable {C : Ctx} {H A : Heap}
theorem Qhn {s : Sl} {l : List V} {K : Str → Bool → Heap → Prop} (hv : VRow A s l) (hA : A.le H) (hf : fineV l) (k1 : mayR l = true → ∀ H2, H.le H2 → K (keyB l) true H2) (k0 : mayR l = false → ∀ H2, H.le H2 → K [] false H2) : QaY C s K H := by
 obtain ⟨hB, hn, hz⟩ := hf
 apply Qhe
 unfold Qfh
 have henc : ∀ v, VB v → vtot v ≤ 14000000 → (encV v).length ≤ 14000000 := fun v hv h => by have := Qh4 v hv (by omega); omega
 have hcl : ∀ i, (keyB (l.take i)).length ≤ 140000000000 := fun i => by
  have h1 := Qh8 (m := 14000000) (l.take i) fun w hw => henc w (hB.mem (List.mem_of_mem_take hw)) (hz w (List.mem_of_mem_take hw))
  have h2 : (l.take i).length ≤ 10000 := by rw [List.length_take]; omega
  have h3 := Nat.mul_le_mul_right 14000000 h2
  omega
 refine ⟨fun y D => ∃ i : Nat, y.2 = (i : Int) ∧ i ≤ l.length ∧ OwnF H D 1 y.1 (bytesV (keyB (l.take i))) ∧ (l.take i).all mayV = true, fun y _ => l.length - y.2.toNat, ⟨0, rfl, Nat.zero_le _, OwnF.nil H 1, rfl⟩, ?_⟩
 rintro ⟨a, _⟩ D ⟨i, rfl, hi, ho, hmay⟩
 have hAD := hA.trans ho.le
 rw [hv.len]
 refine ift.of (fun h => ?_) (fun h => ?_)
 ·have hlt : i < l.length := by have := of_decide_eq_true h; dsimp only at this; omega
  have hmem := List.getElem_mem hlt
  have hzi := hz _ hmem
  have hBi := hB.mem hmem
  have hct := QiV hlt
  have hll := hcl i
  refine hv.ld hAD rfl hlt fun z hz => ?_
  intro b6 n6
  refine nwT rfl ?_
  have hle6 := Heap.le_put n6 (g := .row (Qa.c z)) (m := true)
  have hb6 : (D.put b6 (.row (Qa.c z))) b6 = some (true, .row (Qa.c z)) := Heap.put_same ..
  have hz6 := hz.le (hAD.trans hle6)
  have ho6 := ho.up hle6
  generalize D.put b6 (.row (Qa.c z)) = H3 at *
  refine bxV hb6 (QcK hz6 hBi ?_)
  have hck : ((checkV l[i] : Int) != 0) = !(mayV l[i]) := by unfold mayV; rfl
  rw [hck]
  refine ift.of (fun h2 => ?_) (fun h2 => ?_)
  ·have h2 : mayV l[i] = false := by simpa using h2
   refine k0 ?_ H3 ho6.le
   unfold mayR
   rw [List.all_eq_false]
   exact ⟨l[i], hmem, by simp [h2]⟩
  ·have hmv : mayV l[i] = true := by simpa using h2
   refine bxV hb6 (QgR ho6.own.rdsl ho6.lenB hz6 hBi (fun _ => by omega) (by omega) fun r H4 h4 => ?_)
   rw [if_pos hmv, ← hct] at h4
   rw [Qac (by dsimp only; omega) (by dsimp only; omega)]
   refine ⟨⟨i + 1, by dsimp only; omega, by omega, h4.down ho6.le, ?_⟩, by first | omega | (dsimp only; omega)⟩
   rw [List.take_add_one, List.getElem?_eq_getElem hlt, List.all_append, hmay]
   simp [hmv]
 ·have hie : i = l.length := by have := of_decide_eq_false h; dsimp only at this; omega
  subst hie
  rw [List.take_length] at ho hmay
  exact QkV ho.own.rdsl ho.lenB (k1 hmay D ho.le)
end
end
section
open Go Go.Proofs
theorem QiM {v w : V} {x y : Str} (hB : VB v) (hB2 : VB w) (hF : formV v = true) (hF2 : formV w = true) (hs : vtot v < 2147483648) (hs2 : vtot w < 2147483648) (h : encV v ++ x = encV w ++ y) : v = w ∧ x = y := by
 have ho := Qle v w hB hB2 hF hF2 hs hs2
 by_cases hc : cmpV v w = 0
 ·have hvw : v = w := by
   rcases ho with ⟨h1, _⟩ | ⟨h1, _⟩ | ⟨_, h1⟩
   ·omega
   ·omega
   ·exact h1
  subst hvw
  exact ⟨rfl, List.append_cancel_left h⟩
 ·have h1 := (ho.cmp fun e => by rw [e]).2 hc x y
  rw [h, (Qg8 (encV w ++ y) (encV w ++ y)).2.2 rfl] at h1
  exact absurd h1.symm hc
theorem QgZ : ∀ {l m : List V}, VBs l → VBs m → mayR l = true → mayR m = true → (∀ v ∈ l, vtot v ≤ 14000000) → (∀ v ∈ m, vtot v ≤ 14000000) → keyB l = keyB m → l = m
 | [], [], _, _, _, _, _, _, _ => rfl
 | [], w :: m, _, _, _, _, _, _, h => by
  have := congrArg List.length h
  have h2 : 0 < (encV w).length := List.length_pos_iff.2 (QhP w)
  simp [keyB] at this
  omega
 | v :: l, [], _, _, _, _, _, _, h => by
  have := congrArg List.length h
  have h2 : 0 < (encV v).length := List.length_pos_iff.2 (QhP v)
  simp [keyB] at this
  exact absurd this.1 (QhP v)
 | v :: l, w :: m, hB, hB2, hm, hm2, hz, hz2, h => by
  have e : ∀ (v : V) (l : List V), keyB (v :: l) = encV v ++ keyB l := fun v l => by simp [keyB]
  rw [e, e] at h
  unfold mayR at hm hm2
  rw [List.all_cons, Bool.and_eq_true] at hm hm2
  have z1 := hz v (List.mem_cons_self ..)
  have z2 := hz2 w (List.mem_cons_self ..)
  obtain ⟨e1, e2⟩ := QiM hB.1 hB2.1 (QbQ hm.1) (QbQ hm2.1) (by omega) (by omega) h
  rw [e1, QgZ hB.2 hB2.2 hm.2 hm2.2 (fun x hx => hz x (List.mem_cons_of_mem _ hx)) (fun x hx => hz2 x (List.mem_cons_of_mem _ hx)) e2]
end
section
open Go Go.Proofs
def pick (row : List V) (p : Int) : Option V := if p < 0 then none else row[p.toNat]?
def picks (row : List V) : List Int → Option (List V)
 | [] => some []
 | p :: ps => match pick row p, picks row ps with
  | some v, some vs => some (v :: vs)
  | _, _ => none
theorem Qgz {row : List V} {p : Int} : ∀ {ps : List Int}, picks row (ps ++ [p]) = (match picks row ps, pick row p with
 | some vs, some v => some (vs ++ [v])
 | _, _ => none)
 | [] => by simp only [List.nil_append, picks]; cases pick row p <;> rfl
 | q :: ps => by
  simp only [List.cons_append, picks, Qgz (ps := ps)]
  cases pick row q <;> cases picks row ps <;> cases pick row p <;> rfl
theorem Qgy {row : List V} {p : Int} : ∀ {ps : List Int}, p ∈ ps → pick row p = none → picks row ps = none
 | q :: ps, h, hn => by
  rcases List.mem_cons.1 h with rfl | h
  ·simp only [picks, hn]
  ·simp only [picks, Qgy h hn]
   cases pick row q <;> rfl
theorem QeL {row : List V} : ∀ {ps : List Int} {vs : List V}, picks row ps = some vs → vs.length = ps.length ∧ ∀ v ∈ vs, v ∈ row
 | [], vs, h => by simp [picks] at h; subst h; exact ⟨rfl, fun v hv => by simp at hv⟩
 | p :: ps, vs, h => by
  simp only [picks] at h
  split at h
  ·rename_i w ws h1 h2
   injection h with h; subst h
   obtain ⟨q1, q2⟩ := QeL h2
   refine ⟨by simp [q1], fun v hv => ?_⟩
   rcases List.mem_cons.1 hv with rfl | hv
   ·unfold pick at h1
    split at h1
    ·cases h1
    ·exact List.mem_of_getElem? h1
   ·exact q2 v hv
  ·cases h
def cI (x : Int) : List Value := [.int .i64 x]
def IL (A : Heap) := SlIs (fun v x : Int => x = v) cI A
theorem QgE {A : Heap} {v : V} {y : TV} : ∀ {l : List V} {xs : List TV}, VsAre A l xs → VIs A v y → VsAre A (l ++ [v]) (xs ++ [y])
 | [], [], _, h => ⟨h, trivial⟩
 | a :: l, x :: xs, h1, h2 => ⟨h1.1, QgE h1.2 h2⟩
 | [], x :: xs, h1, _ => h1.elim
 | a :: l, [], h1, _ => h1.elim
theorem QjD {l q : List V} (h : fineV l) (hq : ∀ v ∈ q, v ∈ l) (hn : q.length ≤ 10000) : fineV q :=
 ⟨VBs.of fun v hv => h.1.mem (hq v hv), hn, fun v hv => h.2.2 v (hq v hv)⟩
/-- the key of some places, where all are there and may be -/
def keyAt (ps : List Int) (l : List V) : Option Str := match picks l ps with
 | some q => if mayR q then some (keyB q) else none
 | none => none
section
variable {C : Ctx} {H A : Heap}
theorem QkU {b : Nat × Nat} {t s : Sl} {ps : List Int} {l : List V} {K : Str → Bool → Heap → Prop} (hb : rd H (b.1, b.2 + 0) = some (slv t)) (hp : IL A t ps) (hv : VRow A s l) (hA : A.le H) (hf : fineV l) (hn : ps.length ≤ 10000)
 (k1 : ∀ key, keyAt ps l = some key → ∀ H2, H.le H2 → K key true H2) (k0 : keyAt ps l = none → ∀ H2, H.le H2 → K [] false H2) : Qbe C (some b) s K H := by
 apply Qge
 unfold Qeb
 refine ⟨b, rfl, t, hb, ?_⟩
 have hl := hv.len
 have hln := hf.2.1
 refine ⟨fun y D => ∃ (i : Nat) (q : List V) (ys : List TV), y.2 = (i : Int) ∧ i ≤ ps.length ∧ picks l (ps.take i) = some q ∧ VsAre A q ys ∧ OwnF H D 4 y.1 (ys.flatMap Qa.c), fun y _ => ps.length - y.2.toNat, ⟨0, [], [], rfl, Nat.zero_le _, rfl, trivial, OwnF.nil H 4⟩, ?_⟩
 rintro ⟨r, _⟩ D ⟨i, q, ys, rfl, hi, hq, hys, ho⟩
 have hAD := hA.trans ho.le
 obtain ⟨hql, hqm⟩ := QeL hq
 rw [List.length_take, Nat.min_eq_left hi] at hql
 have hyl := hys.len
 have hf4 := flat4 ys
 have hrl : r.len = i := by have h1 : (ys.flatMap Qa.c).length = r.len * 4 := ho.own.1; omega
 rw [SlIs.len hp]
 refine ift.of (fun hc => ?_) (fun hc => ?_)
 ·have hlt : i < ps.length := by have := of_decide_eq_true hc; dsimp only at this; omega
  refine SlIs.fI hp hAD (z := 1) (fun _ => rfl) (by omega) rfl hlt (j := 0) (f := fun x => x) (fun _ => rfl) fun y hy => ?_
  rw [hy, hl]
  have hkn : pick l ps[i] = none → keyAt ps l = none := fun h => by unfold keyAt; rw [Qgy (List.getElem_mem hlt) h]
  refine ift.of (fun h2 => ?_) (fun h2 => ?_)
  ·refine k0 (hkn ?_) D ho.le
   rw [Bool.or_eq_true] at h2
   unfold pick
   rcases h2 with h2 | h2
   ·rw [if_pos (of_decide_eq_true h2)]
   ·have := of_decide_eq_true h2
    rw [if_neg (by omega)]
    exact List.getElem?_eq_none (by omega)
  ·rw [Bool.or_eq_false_iff] at h2
   have h3 := of_decide_eq_false h2.1
   have h4 := of_decide_eq_false h2.2
   have hil : ps[i].toNat < l.length := by omega
   have hpk : pick l ps[i] = some l[ps[i].toNat] := by unfold pick; rw [if_neg h3, List.getElem?_eq_getElem hil]
   refine hv.ld hAD (i := ps[i].toNat) (by omega) hil fun z hz => ?_
   refine QdX (zc := Qa.c Qa.zero) ho rfl (by dsimp only; omega) (by dsimp only; omega) fun r2 D2 q1 q2 => ?_
   rw [Qac (by dsimp only; omega) (by dsimp only; omega)]
   refine ⟨⟨i + 1, q ++ [l[ps[i].toNat]], ys ++ [z], by dsimp only; omega, by omega, ?_, QgE hys hz, ?_⟩, by first | omega | (dsimp only; omega)⟩
   ·rw [List.take_add_one, List.getElem?_eq_getElem hlt, Option.toList_some, Qgz, hq, hpk]
   ·rw [List.flatMap_append, List.flatMap_singleton]
    rw [List.append_nil] at q1
    exact q1
 ·have hie : i = ps.length := by have := of_decide_eq_false hc; dsimp only at this; omega
  subst hie
  rw [List.take_length] at hq
  have hr : VRow D r q := ⟨ys, ho.own.rdsl, by omega, hys.le hAD⟩
  refine Qhn hr (Heap.le.refl _) (QjD hf hqm (by omega)) (fun hm H2 h2 => k1 _ ?_ H2 (ho.le.trans h2)) fun hm H2 h2 => k0 ?_ H2 (ho.le.trans h2)
  ·unfold keyAt; rw [hq]; simp [hm]
  ·unfold keyAt; rw [hq]; simp [hm]
end
end
section
open Go Go.Proofs
/-- whose a map's block is -/
inductive Wh where
 | rows : Wh
 | bys : Wh
 | inn : Str → Wh
 | leaf : Str → Str → Wh
def Wh.of : Wh → Option Str
 | .rows => none
 | .bys => none
 | .inn s => some s
 | .leaf s _ => some s
abbrev Own_ := Nat → Option Wh
theorem QhT {α : Type} {l : List (Str × α)} (h : l.Pairwise fun p q => p.1 ≠ q.1) {p : Str × α} : p ∈ l ↔ lkL p.1 l = some p.2 :=
 ⟨fun hp => Qbm h hp, fun hp => Qa1 hp⟩
/-- a map of rows by their keys -/
def RM (A H : Heap) (m : Nat) (R : List (List V)) : Prop := ∃ l : List (Str × Sl), MapS slv H m l ∧ (∀ p ∈ l, ∃ r ∈ R, p.1 = keyB r ∧ VRow A p.2 r) ∧ ∀ r ∈ R, ∃ s, (keyB r, s) ∈ l
section
variable {A B H H2 : Heap} {m : Nat} {R R2 : List (List V)}
theorem RM.same (h : RM A H m R) (hb : H2 m = H m) : RM A H2 m R := by
 obtain ⟨l, h1, h2, h3⟩ := h
 exact ⟨l, h1.same hb, h2, h3⟩
theorem RM.up (h : RM A H m R) (hle : A.le B) : RM B H m R := by
 obtain ⟨l, h1, h2, h3⟩ := h
 exact ⟨l, h1, fun p hp => (h2 p hp).imp fun r ⟨q1, q2, q3⟩ => ⟨q1, q2, q3.le hle⟩, h3⟩
theorem RM.congr (h : RM A H m R) (he : ∀ r, r ∈ R ↔ r ∈ R2) : RM A H m R2 := by
 obtain ⟨l, h1, h2, h3⟩ := h
 exact ⟨l, h1, fun p hp => (h2 p hp).imp fun r ⟨q1, q2⟩ => ⟨(he r).1 q1, q2⟩, fun r hr => h3 r ((he r).2 hr)⟩
theorem RM.isS (h : RM A H m R) : ∃ g, H m = some (true, g) := by
 obtain ⟨l, ⟨es, ck, h1⟩, _⟩ := h
 exact ⟨_, h1.at_⟩
theorem RM.new {b : Nat} : RM A (H.put b (.obj (.map #[] 0))) b [] := ⟨[], MapS.new, (fun p hp => by cases hp), fun r hr => by cases hr⟩
theorem RM.put {r : List V} {s : Sl} {K : Heap → Prop} (h : RM A H m R) (hs : VRow A s r) (k : ∀ g, RM A (H.put m g) m (R ++ [r]) → K (H.put m g)) : upS slv (some m) (keyB r) s K H := by
 obtain ⟨l, h1, h2, h3⟩ := h
 refine ⟨m, l, rfl, h1, fun g l2 q1 q2 _ => k g ⟨l2, q1, fun p hp => ?_, fun r' hr' => ?_⟩⟩
 ·have hl := (QhT q1.is.nd).1 hp
  rw [q2] at hl
  split at hl
  ·rename_i he
   injection hl with hl
   exact ⟨r, by simp, he, hl ▸ hs⟩
  ·obtain ⟨r', a, b⟩ := h2 p (Qa1 hl)
   exact ⟨r', List.mem_append_left _ a, b⟩
 ·by_cases he : keyB r' = keyB r
  ·exact ⟨s, Qa1 (by rw [q2, if_pos he])⟩
  ·have hr : r' ∈ R := by
    rcases List.mem_append.1 hr' with hr | hr
    ·exact hr
    ·rw [List.mem_singleton] at hr; exact absurd (by rw [hr]) he
   obtain ⟨s', hs'⟩ := h3 r' hr
   exact ⟨s', Qa1 (by rw [q2, if_neg he]; exact Qbm h1.is.nd hs')⟩
theorem RM.del {r : List V} {K : Heap → Prop} (h : RM A H m R) (k : ∀ g, RM A (H.put m g) m (R.filter fun r' => decide (keyB r' ≠ keyB r)) → K (H.put m g)) : delS slv (some m) (keyB r) K H := by
 obtain ⟨l, h1, h2, h3⟩ := h
 refine .inr ⟨m, l, rfl, h1, fun g l2 q1 q2 => k g ⟨l2, q1, fun p hp => ?_, fun r' hr' => ?_⟩⟩
 ·obtain ⟨a, b⟩ := (q2 p).1 hp
  obtain ⟨r', c, d, e⟩ := h2 p a
  exact ⟨r', List.mem_filter.2 ⟨c, by rw [← d]; simpa using b⟩, d, e⟩
 ·obtain ⟨a, b⟩ := List.mem_filter.1 hr'
  obtain ⟨s, hs⟩ := h3 r' a
  exact ⟨s, (q2 _).2 ⟨hs, by simpa using b⟩⟩
/-- rows whose keys are one to one -/
def Fine (R : List (List V)) : Prop := ∀ r ∈ R, fineV r ∧ mayR r = true
theorem Fine.inj (h : Fine R) {r r' : List V} (hr : r ∈ R) (hf : fineV r') (hm : mayR r' = true) (e : keyB r = keyB r') : r = r' :=
 QgZ (h r hr).1.1 hf.1 (h r hr).2 hm (h r hr).1.2.2 hf.2.2 e
theorem RM.look {r : List V} {K : Sl → Bool → Prop} (h : RM A H m R) (hF : Fine R) (hf : fineV r) (hm : mayR r = true) (k1 : r ∈ R → ∀ s, VRow A s r → K s true) (k0 : r ∉ R → K Sl.nil false) : lkM slv Sl.nil (some m) (keyB r) K H := by
 obtain ⟨l, h1, h2, h3⟩ := h
 refine h1.is.lk (fun x hx => ?_) (fun hx => k0 fun hr => ?_)
 ·obtain ⟨r', a, b, c⟩ := h2 _ (Qa1 hx)
  have := hF.inj a hf hm b.symm
  subst this
  exact k1 a x c
 ·obtain ⟨s, hs⟩ := h3 r hr
  rw [Qbm h1.is.nd hs] at hx; cases hx
theorem RM.perm (h : RM A H m R) (hn : R.Nodup) (hF : Fine R) {l : List (Str × Sl)} (h1 : MapS slv H m l) (h2 : ∀ p ∈ l, ∃ r ∈ R, p.1 = keyB r ∧ VRow A p.2 r) (h3 : ∀ r ∈ R, ∃ s, (keyB r, s) ∈ l) : (l.map fun p => p.1).Perm (R.map keyB) := by
 refine (List.perm_ext_iff_of_nodup ?_ ?_).2 fun k => ⟨fun hk => ?_, fun hk => ?_⟩
 ·have := h1.is.nd
  rw [List.Nodup, List.pairwise_map]; exact this
 ·rw [List.Nodup, List.pairwise_map]
  refine List.Pairwise.imp_of_mem (fun {a b} ha hb hab e => hab (hF.inj ha (hF b hb).1 (hF b hb).2 e)) hn
 ·obtain ⟨p, hp, rfl⟩ := List.mem_map.1 hk
  obtain ⟨r, hr, e, _⟩ := h2 p hp
  exact List.mem_map.2 ⟨r, hr, e.symm⟩
 ·obtain ⟨r, hr, rfl⟩ := List.mem_map.1 hk
  obtain ⟨s, hs⟩ := h3 r hr
  exact List.mem_map.2 ⟨_, hs, rfl⟩
theorem RM.ln {K : Nat → Prop} (h : RM A H m R) (hn : R.Nodup) (hF : Fine R) (k : K R.length) : lnM (some m) K H := by
 obtain ⟨l, h1, h2, h3⟩ := h
 have := (RM.perm ⟨l, h1, h2, h3⟩ hn hF h1 h2 h3).length_eq
 rw [List.length_map, List.length_map] at this
 exact h1.is.ln (by rw [this]; exact k)
end
/-- what has changed: blocks of some owners, and new ones -/
structure Chg (P : Wh → Prop) (o : Own_) (H : Heap) (o2 : Own_) (H2 : Heap) : Prop where
 kp : ∀ c e, H c = some e → (∀ w, o c = some w → ¬ P w) → H2 c = some e
 up : ∀ c w, o c = some w → o2 c = some w
 dn : ∀ c w, o2 c = some w → o c = some w ∨ (H c = none ∧ P w ∧ H2 c ≠ none)
 li : ∀ c, H c ≠ none → H2 c ≠ none
section
variable {P : Wh → Prop} {o o2 o3 : Own_} {A H H2 H3 : Heap}
theorem Chg.of_le (h : H.le H2) : Chg P o H o H2 := ⟨fun c e hc _ => h c e hc, fun _ _ h => h, fun _ _ h => .inl h, fun c hc => by
 cases he : H c with
 | none => exact absurd he hc
 | some e => rw [h c e he]; simp⟩
theorem Chg.trans (h : Chg P o H o2 H2) (h' : Chg P o2 H2 o3 H3) : Chg P o H o3 H3 := by
 refine ⟨fun c e hc hn => h'.kp c e (h.kp c e hc hn) fun w hw => ?_, fun c w hw => h'.up c w (h.up c w hw), fun c w hw => ?_, fun c hc => h'.li c (h.li c hc)⟩
 ·rcases h.dn c w hw with h1 | ⟨h1, h2⟩
  ·exact hn w h1
  ·rw [h1] at hc; cases hc
 ·rcases h'.dn c w hw with h1 | ⟨h1, h2⟩
  ·exact (h.dn c w h1).imp id fun ⟨a, b, d⟩ => ⟨a, b, h'.li c d⟩
  ·refine .inr ⟨?_, h2⟩
   cases he : H c with
   | none => rfl
   | some e => exact absurd h1 (h.li c (by rw [he]; simp))
theorem Chg.imp {Q : Wh → Prop} (h : Chg P o H o2 H2) (hi : ∀ w, P w → Q w) : Chg Q o H o2 H2 :=
 ⟨fun c e hc hn => h.kp c e hc fun w hw hp => hn w hw (hi w hp), h.up, fun c w hw => (h.dn c w hw).imp id fun ⟨a, b, d⟩ => ⟨a, hi w b, d⟩, h.li⟩
/-- a block of an owner written -/
theorem Chg.put {c : Nat} {w : Wh} {g : GO} (ho : o c = some w) (hP : P w) : Chg P o H o (H.put c g) := by
 refine ⟨fun x e hx hn => ?_, fun _ _ h => h, fun _ _ h => .inl h, fun x hx => ?_⟩
 ·have : x ≠ c := fun e' => by subst e'; exact hn w ho hP
  rw [Heap.put_ne _ _ _ this]; exact hx
 ·by_cases hxc : x = c
  ·subst hxc; rw [Heap.put_same]; simp
  ·rw [Heap.put_ne _ _ _ hxc]; exact hx
def Own_.set (o : Own_) (b : Nat) (w : Wh) : Own_ := fun c => if c = b then some w else o c
theorem Own_.set_same {b : Nat} {w : Wh} : o.set b w b = some w := by simp [Own_.set]
theorem Own_.set_ne {b c : Nat} {w : Wh} (h : c ≠ b) : o.set b w c = o c := by simp [Own_.set, h]
/-- a new block of an owner -/
theorem Chg.new {b : Nat} {w : Wh} {g : GO} {m : Bool} (hb : H b = none) (ho : ∀ w, o b = some w → False) (hP : P w) : Chg P o H (o.set b w) (H.put b g m) := by
 refine ⟨fun x e hx hn => Heap.le_put hb x e hx, fun c w' hc => ?_, fun c w' hc => ?_, fun x hx => ?_⟩
 ·have : c ≠ b := fun e => by subst e; exact ho w' hc
  rw [Own_.set_ne this]; exact hc
 ·by_cases hcb : c = b
  ·subst hcb; rw [Own_.set_same] at hc; injection hc with hc; subst hc
   exact .inr ⟨hb, hP, by rw [Heap.put_same]; simp⟩
  ·rw [Own_.set_ne hcb] at hc; exact .inl hc
 ·have : x ≠ b := fun e => by subst e; exact hx hb
  rw [Heap.put_ne _ _ _ this]; exact hx
/-- owners and rows' memory -/
structure OH (o : Own_) (A H : Heap) : Prop where
 le : A.le H
 ap : ∀ c w, o c = some w → A c = none
 oh : ∀ c w, o c = some w → H c ≠ none
theorem OH.no (h : OH o A H) {b : Nat} (hb : H b = none) : ∀ w, o b = some w → False := fun w hw => h.oh b w hw hb
theorem OH.chg (h : OH o A H) (hc : Chg P o H o2 H2) : OH o2 A H2 := by
 refine ⟨fun c e hc2 => hc.kp c e (h.le c e hc2) (fun w hw _ => by rw [h.ap c w hw] at hc2; cases hc2), fun c w hw => ?_, fun c w hw => ?_⟩
 ·rcases hc.dn c w hw with h1 | ⟨h1, _⟩
  ·exact h.ap c w h1
  ·exact h.le.none h1
 ·rcases hc.dn c w hw with h1 | ⟨_, _, h1⟩
  ·exact hc.li c (h.oh c w h1)
  ·exact h1
end
/-- the maps of some places' rows -/
def BM (o : Own_) (A H : Heap) (n : Str) (ps : List Int) (q : Nat) (R : List (List V)) (L : List (Str × Option Nat)) : Prop :=
 o q = some (.inn n) ∧ MapS mv H q L ∧ (∀ p ∈ L, ∃ e, p.2 = some e ∧ o e = some (.leaf n p.1) ∧ RM A H e (R.filter fun r => decide (keyAt ps r = some p.1))) ∧ ∀ r ∈ R, ∀ k, keyAt ps r = some k → ∃ e, (k, e) ∈ L
/-- rows by some places -/
def By (o : Own_) (A H : Heap) (n : Str) (ps : List Int) (b : Nat) (R : List (List V)) : Prop :=
 ∃ (mu : Bool) (t : Sl) (q : Nat) (L : List (Str × Option Nat)), A b = some (mu, .row [slv t, mv (some q)]) ∧ IL A t ps ∧ BM o A H n ps q R L
section
variable {o o2 : Own_} {A B H H2 : Heap} {n : Str} {ps : List Int} {q b : Nat} {R R2 : List (List V)} {L : List (Str × Option Nat)}
theorem BM.keep (h : BM o A H n ps q R L) (hk : ∀ c w, o c = some w → w.of = some n → o2 c = some w ∧ H2 c = H c) : BM o2 A H2 n ps q R L := by
 obtain ⟨h1, h2, h3, h4⟩ := h
 obtain ⟨k1, k2⟩ := hk q _ h1 rfl
 refine ⟨k1, h2.same k2, fun p hp => ?_, h4⟩
 obtain ⟨e, q1, q2, q3⟩ := h3 p hp
 obtain ⟨k1, k2⟩ := hk e _ q2 rfl
 exact ⟨e, q1, k1, q3.same k2⟩
theorem BM.blk (h : BM o A H n ps q R L) : (∃ g, H q = some (true, g)) ∧ ∀ p ∈ L, ∃ e g, p.2 = some e ∧ H e = some (true, g) := by
 obtain ⟨h1, ⟨es, ck, h2⟩, h3, h4⟩ := h
 refine ⟨⟨_, h2.at_⟩, fun p hp => ?_⟩
 obtain ⟨e, q1, q2, q3⟩ := h3 p hp
 obtain ⟨g, hg⟩ := q3.isS
 exact ⟨e, g, q1, hg⟩
theorem Qfu {f : List V → Bool} (he : ∀ r, r ∈ R ↔ r ∈ R2) (r : List V) : r ∈ R.filter f ↔ r ∈ R2.filter f := by rw [List.mem_filter, List.mem_filter, he]
theorem BM.congr (h : BM o A H n ps q R L) (he : ∀ r, r ∈ R ↔ r ∈ R2) : BM o A H n ps q R2 L := by
 obtain ⟨h1, h2, h3, h4⟩ := h
 refine ⟨h1, h2, fun p hp => ?_, fun r hr => h4 r ((he r).2 hr)⟩
 obtain ⟨e, q1, q2, q3⟩ := h3 p hp
 exact ⟨e, q1, q2, q3.congr (Qfu he)⟩
theorem BM.up (h : BM o A H n ps q R L) (hle : A.le B) : BM o B H n ps q R L := by
 obtain ⟨h1, h2, h3, h4⟩ := h
 refine ⟨h1, h2, fun p hp => ?_, h4⟩
 obtain ⟨e, q1, q2, q3⟩ := h3 p hp
 exact ⟨e, q1, q2, q3.up hle⟩
theorem By.keep (h : By o A H n ps b R) (hk : ∀ c w, o c = some w → w.of = some n → o2 c = some w ∧ H2 c = H c) : By o2 A H2 n ps b R := by
 obtain ⟨mu, t, q, L, h1, h2, h3⟩ := h
 exact ⟨mu, t, q, L, h1, h2, h3.keep hk⟩
theorem By.up (h : By o A H n ps b R) (hle : A.le B) : By o B H n ps b R := by
 obtain ⟨mu, t, q, L, h1, h2, h3⟩ := h
 exact ⟨mu, t, q, L, hle _ _ h1, SlIs.le hle h2 fun _ _ _ h => h, h3.up hle⟩
theorem By.congr (h : By o A H n ps b R) (he : ∀ r, r ∈ R ↔ r ∈ R2) : By o A H n ps b R2 := by
 obtain ⟨mu, t, q, L, h1, h2, h3⟩ := h
 exact ⟨mu, t, q, L, h1, h2, h3.congr he⟩
/-- another's change -/
theorem Chg.by_ {P : Wh → Prop} (h : Chg P o H o2 H2) (hB : By o A H n ps b R) (hP : ∀ w, P w → w.of ≠ some n) : By o2 A H2 n ps b R := by
 obtain ⟨mu, t, q, L, h1, h2, h3⟩ := hB
 obtain ⟨⟨g, hq⟩, hl⟩ := h3.blk
 obtain ⟨p1, p2, p3, p4⟩ := h3
 refine ⟨mu, t, q, L, h1, h2, h.up _ _ p1, p2.same ?_, fun p hp => ?_, p4⟩
 ·rw [hq]; exact h.kp _ _ hq fun w hw hPw => by rw [p1] at hw; injection hw with hw; subst hw; exact hP _ hPw rfl
 ·obtain ⟨e, q1, q2, q3⟩ := p3 p hp
  obtain ⟨e', g', r1, r2⟩ := hl p hp
  rw [q1] at r1; injection r1 with r1; subst r1
  refine ⟨e, q1, h.up _ _ q2, q3.same ?_⟩
  rw [r2]; exact h.kp _ _ r2 fun w hw hPw => by rw [q2] at hw; injection hw with hw; subst hw; exact hP _ hPw rfl
end
end
section
open Go Go.Proofs
section
variable {C : Ctx} {o o2 : Own_} {A H H2 : Heap} {n : Str} {ps : List Int} {q b : Nat} {R : List (List V)} {L : List (Str × Option Nat)}
theorem Qh5 {f : List V → Bool} {r : List V} : (R ++ [r]).filter f = if f r then R.filter f ++ [r] else R.filter f := by
 rw [List.filter_append]
 cases h : f r <;> simp [h]
theorem BM.ne (h : BM o A H n ps q R L) {p : Str × Option Nat} {e : Nat} (hp : p ∈ L) (he : p.2 = some e) : e ≠ q ∧ (∃ g, H e = some (true, g)) ∧ o e = some (.leaf n p.1) := by
 obtain ⟨h1, h2, h3, h4⟩ := h
 obtain ⟨e', q1, q2, q3⟩ := h3 p hp
 rw [he] at q1; injection q1 with q1; subst q1
 exact ⟨(fun e' => by subst e'; rw [h1] at q2; cases q2), q3.isS, q2⟩
/-- a new map for a key -/
theorem BM.key {k : Str} {K : Heap → Prop} (h : BM o A H n ps q R L) (hO : OH o A H) (hl : lkL k L = none)
 (kk : ∀ b2 o2 H2 L2, Chg (fun w => w.of = some n) o H o2 H2 → BM o2 A H2 n ps q R L2 → (k, some b2) ∈ L2 → K H2) : mkM (fun b2 H3 => upS mv (some q) k (some b2) K H3) H := by
 intro b2 n2
 obtain ⟨⟨gq, hq⟩, hbl⟩ := h.blk
 have hne := fun p e => h.ne (p := p) (e := e)
 obtain ⟨h1, h2, h3, h4⟩ := h
 have hle := Heap.le_put n2 (g := .obj (.map #[] 0)) (m := true)
 have hqb : q ≠ b2 := fun e => by subst e; rw [n2] at hq; cases hq
 refine ⟨q, L, rfl, h2.le hle, fun g l2 q1 q2 _ => kk b2 (o.set b2 (.leaf n k)) _ l2 ((Chg.new (P := fun w => w.of = some n) (w := .leaf n k) n2 (hO.no n2) rfl).trans (Chg.put (P := fun w => w.of = some n) (w := .inn n) (by rw [Own_.set_ne hqb]; exact h1) rfl)) ⟨by rw [Own_.set_ne hqb]; exact h1, q1, fun p hp => ?_, fun r hr k2 hk2 => ?_⟩ (Qa1 (by rw [q2, if_pos rfl]))⟩
 ·have hl2 := (QhT q1.is.nd).1 hp
  rw [q2] at hl2
  split at hl2
  ·rename_i he
   injection hl2 with hl2
   refine ⟨b2, hl2.symm, by rw [Own_.set_same, he], ?_⟩
   have hf : (R.filter fun r => decide (keyAt ps r = some p.1)) = [] := by
    rw [List.filter_eq_nil_iff]
    intro r hr hk
    obtain ⟨e, hm⟩ := h4 r hr p.1 (of_decide_eq_true hk)
    rw [he] at hm
    rw [Qbm h2.is.nd hm] at hl; cases hl
   rw [hf]
   exact (RM.new (A := A) (H := H) (b := b2)).same (by rw [Heap.put_ne _ _ _ hqb.symm])
  ·have hpL := Qa1 hl2
   obtain ⟨e, r1, r2, r3⟩ := h3 _ hpL
   obtain ⟨s1, ⟨g', s2⟩, s3⟩ := hne _ e hpL r1
   have hb2 : e ≠ b2 := fun e' => by subst e'; rw [n2] at s2; cases s2
   exact ⟨e, r1, by rw [Own_.set_ne hb2]; exact r2, r3.same (by rw [Heap.put_ne _ _ _ s1, Heap.put_ne _ _ _ hb2])⟩
 ·obtain ⟨e, he⟩ := h4 r hr k2 hk2
  by_cases hk : k2 = k
  ·exact ⟨some b2, Qa1 (by rw [q2, if_pos hk])⟩
  ·exact ⟨e, Qa1 (by rw [q2, if_neg hk]; exact Qbm h2.is.nd he)⟩
/-- a row put to a key's map -/
theorem BM.put {k : Str} {e : Nat} {r : List V} {s : Sl} {K : Heap → Prop} (h : BM o A H n ps q R L) (hm : (k, some e) ∈ L) (hk : keyAt ps r = some k) (hs : VRow A s r)
 (kk : ∀ g, Chg (fun w => w.of = some n) o H o (H.put e g) → BM o A (H.put e g) n ps q (R ++ [r]) L → K (H.put e g)) : upS slv (some e) (keyB r) s K H := by
 have hne := fun p e => h.ne (p := p) (e := e)
 obtain ⟨⟨gq, hq⟩, hbl⟩ := h.blk
 obtain ⟨h1, h2, h3, h4⟩ := h
 obtain ⟨e', r1, r2, r3⟩ := h3 _ hm
 injection r1 with r1; subst r1
 obtain ⟨s1, _, _⟩ := hne _ e hm rfl
 refine r3.put hs fun g hR => kk g (Chg.put r2 rfl) ⟨h1, h2.same (by rw [Heap.put_ne _ _ _ s1.symm]), fun p hp => ?_, fun r' hr' k' hk' => ?_⟩
 ·obtain ⟨e', t1, t2, t3⟩ := h3 p hp
  refine ⟨e', t1, t2, ?_⟩
  rw [Qh5]
  by_cases hpk : p.1 = k
  ·rw [if_pos (by rw [hk, hpk]; simp)]
   rw [hpk] at t2 t3 ⊢
   have : p = (k, some e') := by rw [← hpk, ← t1]
   rw [this] at hp
   have h5 := Qbm h2.is.nd hp
   rw [Qbm h2.is.nd hm] at h5
   injection h5 with h5; injection h5 with h5; subst h5
   exact hR
  ·rw [if_neg (by rw [hk]; simpa using fun e => hpk e.symm)]
   refine t3.same (Heap.put_ne _ _ _ fun e2 => ?_)
   subst e2
   rw [r2] at t2; injection t2 with t2; injection t2 with _ t2
   exact hpk t2.symm
 ·rcases List.mem_append.1 hr' with hr' | hr'
  ·exact h4 r' hr' k' hk'
  ·rw [List.mem_singleton] at hr'; subst hr'
   rw [hk] at hk'; injection hk' with hk'; subst hk'
   exact ⟨_, hm⟩
theorem Qhj {r : List V} {s : Sl} {K : Heap → Prop} (h : By o A H n ps b R) (hO : OH o A H) (hs : VRow A s r) (hf : fineV r) (hps : ps.length ≤ 10000)
 (k : ∀ o2 H2, Chg (fun w => w.of = some n) o H o2 H2 → By o2 A H2 n ps b (R ++ [r]) → K H2) : Q9 C (some (b, 0)) (keyB r) s K H := by
 obtain ⟨mu, t, q, L, hb, hp, hB⟩ := h
 have hbH := hO.le _ _ hb
 apply QfF
 unfold QdP
 refine QkU (b := (b, 0)) (t := t) (ps := ps) (A := A) (by rw [Qbh hbH]; rfl) hp hs hO.le hf hps (fun key hkey H3 h3 => ?_) fun hkey H3 h3 => ?_
 ·refine Qh rfl ?_
  have hB3 : BM o A H3 n ps q R L := hB.keep fun c w hc _ => ⟨hc, by
   cases he : H c with
   | none => exact absurd he (hO.oh c w hc)
   | some e => exact h3 c e he⟩
  have c3 : Chg (fun w => w.of = some n) o H o H3 := Chg.of_le h3
  have hO3 := hO.chg c3
  have hb3 := hO3.le _ _ hb
  refine ⟨fun _ D => ∃ o2 L2 e, Chg (fun w => w.of = some n) o H o2 D ∧ BM o2 A D n ps q R L2 ∧ (key, some e) ∈ L2, ?_, ?_⟩
  ·refine ⟨_, rfl, some q, by rw [Qbh hb3]; rfl, ?_⟩
   refine hB3.2.1.is.lk (fun x hx => ?_) fun hx => ?_
   ·have hm := Qa1 hx
    obtain ⟨e, q1, q2, q3⟩ := hB3.2.2.1 _ hm
    dsimp only at q1; subst q1
    exact Qh rfl ⟨o, L, e, c3, hB3, hm⟩
   ·refine Qq rfl ⟨_, rfl, some q, by rw [Qbh hb3]; rfl, ?_⟩
    exact hB3.key hO3 hx fun b2 o2 H4 L2 q1 q2 q3 => ⟨o2, L2, b2, c3.trans q1, q2, q3⟩
  ·rintro _ D ⟨o2, L2, e, c4, hB4, hm⟩
   have hO4 := hO.chg c4
   have hb4 := hO4.le _ _ hb
   refine ⟨_, rfl, some q, by rw [Qbh hb4]; rfl, ?_⟩
   refine hB4.2.1.is.lk (fun x hx => ?_) fun hx => ?_
   ·rw [Qbm hB4.2.1.is.nd hm] at hx
    injection hx with hx; subst hx
    exact hB4.put hm hkey hs fun g q1 q2 => k o2 _ (c4.trans q1) ⟨mu, t, q, L2, hb, hp, q2⟩
   ·rw [Qbm hB4.2.1.is.nd hm] at hx; cases hx
 ·refine Qq rfl (k o H3 (Chg.of_le h3) ⟨mu, t, q, L, hb, hp, ?_⟩)
  have hB3 : BM o A H3 n ps q R L := hB.keep fun c w hc _ => ⟨hc, by
   cases he : H c with
   | none => exact absurd he (hO.oh c w hc)
   | some e => exact h3 c e he⟩
  obtain ⟨q1, q2, q3, q4⟩ := hB3
  refine ⟨q1, q2, fun p hp => ?_, fun r' hr' k' hk' => ?_⟩
  ·obtain ⟨e, r1, r2, r3⟩ := q3 p hp
   refine ⟨e, r1, r2, ?_⟩
   rw [Qh5, if_neg (by rw [hkey]; simp)]
   exact r3
  ·rcases List.mem_append.1 hr' with hr' | hr'
   ·exact q4 r' hr' k' hk'
   ·rw [List.mem_singleton] at hr'; subst hr'
    rw [hkey] at hk'; cases hk'
end
end
section
open Go Go.Proofs
/-- the name of places -/
def nmOf : List Int → Str
 | [] => []
 | p :: ps => Lib.itoa p ++ ps.flatMap fun q => 32 :: Lib.itoa q
def PsOk (ps : List Int) : Prop := ps.length ≤ 10000 ∧ ∀ p ∈ ps, -9223372036854775808 ≤ p ∧ p ≤ 9223372036854775807
/-- an index: its object, its maps -/
structure IxP (o : Own_) (A H : Heap) (x m g : Nat) (L : List (Str × Option (Nat × Nat))) (R : List (List V)) (Rb : Str → List (List V)) : Prop where
 oh : OH o A H
 hx : ∃ mu, A x = some (mu, .row [mv (some m), mv (some g)])
 om : o m = some .rows
 og : o g = some .bys
 rm : RM A H m R
 mg : MapS pv H g L
 bs : ∀ p ∈ L, ∃ b ps, p.2 = some (b, 0) ∧ p.1 = nmOf ps ∧ PsOk ps ∧ By o A H p.1 ps b (Rb p.1)
def Heap.or (A N : Heap) : Heap := fun c => match A c with | some e => some e | none => N c
section
variable {A N H : Heap}
theorem Heap.le_or : A.le (A.or N) := fun c e h => by unfold Heap.or; rw [h]
theorem Heap.or_le (h1 : A.le H) (h2 : N.le H) : (A.or N).le H := fun c e h => by
 unfold Heap.or at h
 cases ha : A c with
 | some e' => rw [ha] at h; injection h with h; subst h; exact h1 c _ ha
 | none => rw [ha] at h; exact h2 c e h
theorem Heap.or_some {c : Nat} (h : A.or N c ≠ none) : A c ≠ none ∨ N c ≠ none := by
 unfold Heap.or at h
 cases ha : A c with
 | some e' => exact .inl (by simp)
 | none => rw [ha] at h; exact .inr h
theorem Heap.or_none {c : Nat} (h1 : A c = none) (h2 : N c = none) : A.or N c = none := by unfold Heap.or; rw [h1]; exact h2
theorem Heap.le_or3 (h1 : A.le H) (h2 : N.le H) : N.le (A.or N) := fun c e hc => by
 unfold Heap.or
 cases ha : A c with
 | none => exact hc
 | some e' => have := h1 c _ ha; rw [h2 c _ hc] at this; exact this.symm
theorem Heap.le_or2 (h : ∀ c e, N c = some e → A c = none) : N.le (A.or N) := fun c e hc => by unfold Heap.or; rw [h c e hc]; exact hc
end
section
variable {C : Ctx} {o o2 : Own_} {A B H H2 : Heap} {x m g : Nat} {L : List (Str × Option (Nat × Nat))} {R R2 : List (List V)} {Rb Rb2 : Str → List (List V)}
theorem OH.up (h : OH o A H) (hle : H.le H2) : OH o A H2 := ⟨h.le.trans hle, h.ap, fun c w hw => by
 have := h.oh c w hw
 cases he : H c with
 | none => exact absurd he this
 | some e => rw [hle c e he]; simp⟩
theorem OH.eq (h : OH o A H) {P : Wh → Prop} (hle : H.le H2) {c : Nat} {w : Wh} (hw : o c = some w) : H2 c = H c := by
 cases he : H c with
 | none => exact absurd he (h.oh c w hw)
 | some e => exact hle c e he
theorem IxP.keep (h : IxP o A H x m g L R Rb) (hA : A.le H2) (hk : ∀ c w, o c = some w → H2 c = H c) : IxP o A H2 x m g L R Rb := by
 refine ⟨⟨hA, h.oh.ap, fun c w hw => by rw [hk c w hw]; exact h.oh.oh c w hw⟩, h.hx, h.om, h.og, h.rm.same (hk _ _ h.om), h.mg.same (hk _ _ h.og), fun p hp => ?_⟩
 obtain ⟨b, ps, q1, q2, q3, q4⟩ := h.bs p hp
 exact ⟨b, ps, q1, q2, q3, q4.keep fun c w hc _ => ⟨hc, hk c w hc⟩⟩
theorem IxP.up (h : IxP o A H x m g L R Rb) (hle : H.le H2) : IxP o A H2 x m g L R Rb :=
 h.keep (h.oh.le.trans hle) fun c w hw => by
  cases he : H c with
  | none => exact absurd he (h.oh.oh c w hw)
  | some e => exact hle c e he
theorem IxP.ld0 (h : IxP o A H x m g L R Rb) {K : Option Nat → Prop} (k : K (some m)) : ldM H ((x, 0).1, (x, 0).2 + 0) K := by
 obtain ⟨mu, hx⟩ := h.hx
 exact ⟨some m, by rw [Qbh (h.oh.le _ _ hx)]; rfl, k⟩
theorem IxP.ld1 (h : IxP o A H x m g L R Rb) {K : Option Nat → Prop} (k : K (some g)) : ldM H ((x, 0).1, (x, 0).2 + 1) K := by
 obtain ⟨mu, hx⟩ := h.hx
 exact ⟨some g, by rw [Qbh (h.oh.le _ _ hx)]; rfl, k⟩
theorem It.same {α : Type} {enc : α → Value} {it m : Nat} {l vs : List (Str × α)} (h : It enc H it m l vs) (h1 : H2 it = H it) (h2 : H2 m = H m) : It enc H2 it m l vs := by
 obtain ⟨⟨es, ck, seen, q1, q2, q3⟩, h4, h5⟩ := h
 exact ⟨⟨es, ck, seen, ⟨by rw [h2]; exact q1.at_, q1.ents, q1.st⟩, by rw [h1]; exact q2, q3⟩, h4, h5⟩
theorem It.at_ {α : Type} {enc : α → Value} {it m : Nat} {l vs : List (Str × α)} (h : It enc H it m l vs) : (∃ ob, H it = some (true, .obj ob)) ∧ ∃ ob, H m = some (true, .obj ob) := by
 obtain ⟨⟨es, ck, seen, q1, q2, q3⟩, h4, h5⟩ := h
 exact ⟨⟨_, q2⟩, _, q1.at_⟩
theorem Qk0 {α : Type} {L vs : List (Str × α)} (hnd : L.Pairwise fun p q => p.1 ≠ q.1) (hs : ∀ p ∈ vs, p ∈ L) {p : Str × α} (hp : p ∈ L) (hn : p ∉ vs) : p.1 ∉ vs.map fun q => q.1 := fun h => by
 obtain ⟨q, hq, e⟩ := List.mem_map.1 h
 have := QiY hnd (hs q hq) hp e
 rw [this] at hq; exact hn hq
theorem Chg.tmp {P : Wh → Prop} {D : Heap} {it : Nat} {g : GO} {m : Bool} (h : Chg P o H o2 D) (hn : H it = none) (ho : ∀ w, o2 it = some w → False) : Chg P o H o2 (D.put it g m) := by
 refine ⟨fun c e hc hw => ?_, h.up, fun c w hw => ?_, fun c hc => ?_⟩
 ·have : c ≠ it := fun e' => by rw [e', hn] at hc; cases hc
  rw [Heap.put_ne _ _ _ this]; exact h.kp c e hc hw
 ·have : c ≠ it := fun e' => ho w (by rw [← e']; exact hw)
  rw [Heap.put_ne _ _ _ this]; exact h.dn c w hw
 ·have : c ≠ it := fun e' => hc (by rw [e']; exact hn)
  rw [Heap.put_ne _ _ _ this]; exact h.li c hc
/-- what is done to each list of rows by places: a range over them -/
theorem Qj7 {K : Heap → Prop} {f : Option (Nat × Nat) → (Heap → Prop) → Heap → Prop} (h : IxP o A H x m g L R Rb)
 (step : ∀ o' D n b ps (J : Heap → Prop), Chg (fun _ => True) o H o' D → OH o' A D → PsOk ps → By o' A D n ps b (Rb n) → (∀ o2 D2, Chg (fun w => w.of = some n) o' D o2 D2 → By o2 A D2 n ps b (Rb2 n) → J D2) → f (some (b, 0)) J D)
 (k : ∀ o2 D, Chg (fun _ => True) o H o2 D → IxP o2 A D x m g L R Rb2 → K D) :
 rgM pv (some g) (fun b25 H26 => lp (α := Unit) () H26 fun x27 J28 H29 => nxB (enc := pv) b25 (fun b30 H31 => ift b30 (enM pv b25 (fun k33 x34 => f x34 (fun H36 => J28 () H36) H31) H31) (K H31)) H29) H := by
 refine .inr ⟨g, L, rfl, h.mg, fun it ob hn hI => ?_⟩
 have hle := Heap.le_put hn (g := .obj ob) (m := true)
 have hAit : A it = none := h.oh.le.none hn
 refine ⟨fun _ D => ∃ o2 vs, Chg (fun _ => True) o H o2 D ∧ It pv D it g L vs ∧ (∀ w, o2 it = some w → False) ∧ IxP o2 A D x m g L R (fun n => if n ∈ vs.map (fun q => q.1) then Rb2 n else Rb n), fun _ D => L.length - itN D it, ⟨o, [], Chg.of_le hle, hI, h.oh.no hn, ?_⟩, ?_⟩
 ·have h2 := h.up hle
  exact ⟨h2.oh, h2.hx, h2.om, h2.og, h2.rm, h2.mg, h2.bs⟩
 ·rintro _ D ⟨o2, vs, hc, hIt, hit, hP⟩
  refine .inr ⟨g, L, vs, hIt, fun hall => ?_, fun p hp hnv ob2 hI2 => ?_⟩
  ·refine Qh rfl (k o2 D hc ⟨hP.oh, hP.hx, hP.om, hP.og, hP.rm, hP.mg, fun p hp => ?_⟩)
   have := hP.bs p hp
   rw [if_pos (List.mem_map.2 ⟨p, hall p hp, rfl⟩)] at this
   exact this
  ·refine Qq rfl ⟨p.1, p.2, ⟨g, L, vs, hI2⟩, ?_⟩
   have hgn : g ≠ it := fun e => hit _ (by rw [← e]; exact hP.og)
   have hne : ∀ c w, o2 c = some w → c ≠ it := fun c w hw e => hit w (by rw [← e]; exact hw)
   have hP2 : IxP o2 A (D.put it (.obj ob2)) x m g L R _ := hP.keep (fun c e hc2 => by
    have : c ≠ it := fun e' => by rw [e', hAit] at hc2; cases hc2
    rw [Heap.put_ne _ _ _ this]; exact hP.oh.le c e hc2) fun c w hw => Heap.put_ne _ _ _ (hne c w hw)
   have hc2 := hc.tmp (g := .obj ob2) (m := true) hn hit
   obtain ⟨b, ps, q1, q2, q3, q4⟩ := hP2.bs p hp
   have hnm := Qk0 h.mg.is.nd hIt.sub hp hnv
   rw [if_neg hnm] at q4
   rw [q1]
   refine step o2 _ p.1 b ps _ hc2 hP2.oh q3 q4 fun o3 D2 c3 b3 => ?_
   obtain ⟨⟨_, a1⟩, _, a2⟩ := hI2.at_
   have hog := hP2.og
   have hom := hP2.om
   have k1 := c3.kp it _ a1 fun w hw => (hit w hw).elim
   have k2 := c3.kp g _ a2 fun w hw hq => by rw [hog] at hw; injection hw with hw; subst hw; cases hq
   have hI3 := hI2.same (k1.trans a1.symm) (k2.trans a2.symm)
   refine ⟨⟨o3, vs ++ [p], hc2.trans (c3.imp fun _ _ => trivial), hI3, fun w hw => ?_, ⟨hP2.oh.chg c3, hP2.hx, c3.up _ _ hom, c3.up _ _ hog, ?_, hP2.mg.same (k2.trans a2.symm), fun p' hp' => ?_⟩⟩, ?_⟩
   ·rcases c3.dn _ _ hw with h1 | ⟨h1, _⟩
    ·exact hit w h1
    ·rw [Heap.put_same] at h1; cases h1
   ·obtain ⟨gm, hgm⟩ := hP2.rm.isS
    refine hP2.rm.same ((c3.kp m _ hgm fun w hw hq => ?_).trans hgm.symm)
    rw [hom] at hw; injection hw with hw; subst hw; cases hq
   ·by_cases hpp : p'.1 = p.1
    ·have := QiY h.mg.is.nd hp' hp hpp
     subst this
     refine ⟨b, ps, q1, q2, q3, ?_⟩
     rw [if_pos (List.mem_map.2 ⟨_, List.mem_append_right _ (List.mem_singleton.2 rfl), rfl⟩)]
     exact b3
    ·obtain ⟨b', ps', r1, r2, r3, r4⟩ := hP2.bs p' hp'
     refine ⟨b', ps', r1, r2, r3, c3.by_ (n := p'.1) ?_ fun w hw e => hpp ?_⟩
     ·have he : (p'.1 ∈ (vs ++ [p]).map fun q => q.1) ↔ p'.1 ∈ vs.map fun q => q.1 := by
       rw [List.map_append, List.mem_append]
       exact ⟨fun h => h.elim id fun h => by simp at h; exact absurd h hpp, .inl⟩
      simp only [he]
      exact r4
     ·rw [hw] at e; injection e with e; exact e.symm
   ·have e1 := hI3.cnt
    have e2 := hI3.few
    have e3 := hIt.cnt
    simp only [List.length_append, List.length_singleton] at e1 e2
    dsimp only
    omega
end
end
section
open Go Go.Proofs
section
variable {C : Ctx} {o o2 : Own_} {A B H H2 : Heap} {x m g : Nat} {L : List (Str × Option (Nat × Nat))} {R R2 : List (List V)} {r : List V} {t : Sl}
def cR (l : List (List V)) : Str → List (List V) := fun _ => l
theorem IxP.grow (h : IxP o A H x m g L R (cR R)) (hle : A.le B) (hB : B.le H) (hap : ∀ c w, o c = some w → B c = none) : IxP o B H x m g L R (cR R) := by
 refine ⟨⟨hB, hap, h.oh.oh⟩, ?_, h.om, h.og, h.rm.up hle, h.mg, fun p hp => ?_⟩
 ·obtain ⟨mu, hx⟩ := h.hx
  exact ⟨mu, hle _ _ hx⟩
 ·obtain ⟨b, ps, q1, q2, q3, q4⟩ := h.bs p hp
  exact ⟨b, ps, q1, q2, q3, q4.up hle⟩
theorem QkS {K : Bool → Int → Heap → Prop} (h : IxP o A H x m g L R (cR R)) (hF : Fine R) (hv : VRow B t r) (hB : B.le H) (hf : fineV r) (hz : vsizes r ≤ 1000000)
 (k0 : mayR r = false → ∀ H2, H.le H2 → K false 4 H2)
 (k1 : mayR r = true → r ∈ R → ∀ H2, H.le H2 → K false 0 H2)
 (k2 : mayR r = true → r ∉ R → ∀ o2 A2 H2, Chg (fun _ => True) o H o2 H2 → A.le A2 → (∀ c, A2 c ≠ none → A c ≠ none ∨ H c = none) → IxP o2 A2 H2 x m g L (R ++ [r]) (cR (R ++ [r])) → K true 0 H2) : Qr C (some (x, 0)) t K H := by
 apply Qb9
 unfold Qcs
 refine Qh rfl (Qhn hv hB hf (fun hm H4 h4 => Qh rfl ?_) fun hm H4 h4 => Qq rfl (k0 hm H4 h4))
 have hP4 := h.up h4
 refine ⟨_, rfl, hP4.ld0 ?_⟩
 refine hP4.rm.look hF hf hm (fun hr s hs => Qq rfl (k1 hm hr H4 h4)) fun hr => Qh rfl ?_
 refine Qid hv (hB.trans h4) hz fun t2 H5 hM => ?_
 have hP5 := hP4.up hM.le
 refine ⟨_, rfl, hP5.ld0 ?_⟩
 have hle5 : (A.or (Heap.new H4 H5)).le H5 := Heap.or_le hP5.oh.le (Heap.new_le _ _)
 have hP5 : IxP o (A.or (Heap.new H4 H5)) H5 x m g L R (cR R) := hP5.grow Heap.le_or hle5 fun c w hw => Heap.or_none (h.oh.ap c w hw) (by
  cases hn : Heap.new H4 H5 c with
  | none => rfl
  | some e => exact absurd (Heap.new_inv hn).1 (hP4.oh.oh c w hw))
 have hN : (Heap.new H4 H5).le (A.or (Heap.new H4 H5)) := Heap.le_or2 fun c e hc => hP4.oh.le.none (Heap.new_inv hc).1
 have hAn : ∀ c, (A.or (Heap.new H4 H5)) c ≠ none → A c ≠ none ∨ H c = none := fun c hc => (Heap.or_some hc).imp id fun h => by
  cases hn : Heap.new H4 H5 c with
  | none => exact absurd hn h
  | some e => exact h4.none (Heap.new_inv hn).1
 have hrow := hM.row.le hN
 have hA2 : A.le (A.or (Heap.new H4 H5)) := Heap.le_or
 have hc5 : Chg (fun _ => True) o H o H5 := Chg.of_le (h4.trans hM.le)
 generalize A.or (Heap.new H4 H5) = A2 at *
 refine hP5.rm.put hrow fun g2 hR => ?_
 have hne : ∀ c w, o c = some w → w ≠ .rows → c ≠ m := fun c w hw e e' => by subst e'; rw [hP5.om] at hw; injection hw with hw; exact e hw.symm
 have hP6 : IxP o A2 (H5.put m g2) x m g L (R ++ [r]) (cR R) := by
  refine ⟨⟨fun c e hc => ?_, hP5.oh.ap, fun c w hw => ?_⟩, hP5.hx, hP5.om, hP5.og, hR, hP5.mg.same (Heap.put_ne _ _ _ (hne _ _ hP5.og (by intro h; cases h))), fun p hp => ?_⟩
  ·have : c ≠ m := fun e' => by rw [e', hP5.oh.ap _ _ hP5.om] at hc; cases hc
   rw [Heap.put_ne _ _ _ this]; exact hP5.oh.le c e hc
  ·by_cases hcm : c = m
   ·rw [hcm, Heap.put_same]; simp
   ·rw [Heap.put_ne _ _ _ hcm]; exact hP5.oh.oh c w hw
  ·obtain ⟨b, ps, q1, q2, q3, q4⟩ := hP5.bs p hp
   refine ⟨b, ps, q1, q2, q3, q4.keep fun c w hc hw => ⟨hc, Heap.put_ne _ _ _ (hne c w hc fun e => by subst e; cases hw)⟩⟩
 have hc6 : Chg (fun _ => True) o H o (H5.put m g2) := hc5.trans (Chg.put hP5.om trivial)
 refine ⟨_, rfl, hP6.ld1 ?_⟩
 refine Qj7 (Rb2 := cR (R ++ [r])) (f := fun q J D => Q9 C q (keyB r) t2 J D) hP6 (fun o' D n b ps J hcD hO hps hBy kk => ?_) fun o2 D hc hP => k2 hm hr o2 A2 D (hc6.trans hc) hA2 hAn hP
 exact Qhj hBy hO hrow hf hps.1 fun o2 D2 q1 q2 => kk o2 D2 q1 q2
theorem QkN {K : Bool → Heap → Prop} (h : IxP o A H x m g L R (cR R)) (hF : Fine R) (hv : VRow B t r) (hB : B.le H) (hf : fineV r) (k : ∀ b, (b = true ↔ r ∈ R) → ∀ H2, H.le H2 → K b H2) : QS C (some (x, 0)) t K H := by
 apply Qb7
 unfold Qcq
 refine Qh rfl (Qhn hv hB hf (fun hm H4 h4 => ?_) fun hm H4 h4 => ?_)
 ·have hP4 := h.up h4
  refine ⟨_, rfl, hP4.ld0 ?_⟩
  refine hP4.rm.look hF hf hm (fun hr s hs => ?_) fun hr => ?_
  ·exact k true ⟨fun _ => hr, fun _ => rfl⟩ H4 h4
  ·exact k false ⟨fun h => (by cases h), fun h => absurd h hr⟩ H4 h4
 ·have hP4 := h.up h4
  refine ⟨_, rfl, hP4.ld0 ?_⟩
  have hr : r ∉ R := fun hr => by rw [(hF r hr).2] at hm; cases hm
  have hk := k false ⟨fun h => (by cases h), fun h => absurd h hr⟩ H4 h4
  obtain ⟨l, h1, h2, h3⟩ := hP4.rm
  refine h1.is.lk (fun y hy => ?_) fun hy => ?_
  ·rw [Bool.false_and]; exact hk
  ·rw [Bool.false_and]; exact hk
theorem QkO {K : Int → Heap → Prop} (h : IxP o A H x m g L R (cR R)) (hF : Fine R) (hn : R.Nodup) (k : K R.length H) : QT C (some (x, 0)) K H := by
 apply Qb8
 unfold Qcr
 exact Qh rfl ⟨_, rfl, h.ld0 (h.rm.ln hn hF k)⟩
theorem QkP {K : Option (Nat × Nat) → Heap → Prop} (k : ∀ x m g o A H2, H.le H2 → (∀ c w, o c = some w → H c = none) → (∀ c, A c ≠ none → H c = none) → IxP o A H2 x m g [] [] (cR []) → K (some (x, 0)) H2) : Qc7 C K H := by
 apply Qhd
 unfold Qfg
 intro m nm g ng x nx
 have l1 := Heap.le_put nm (g := .obj (.map #[] 0)) (m := true)
 have l2 := Heap.le_put ng (g := .obj (.map #[] 0)) (m := true)
 have l3 := Heap.le_put nx (g := .row (Qd.c (⟨some m, some g⟩ : Qd))) (m := true)
 have hmg : g ≠ m := fun e => by subst e; rw [Heap.put_same] at ng; cases ng
 have hxg : x ≠ g := fun e => by subst e; rw [Heap.put_same] at nx; cases nx
 have hxm : x ≠ m := fun e => by subst e; rw [Heap.put_ne _ _ _ hmg.symm, Heap.put_same] at nx; cases nx
 have hHg : H g = none := l1.none ng
 have hHx : H x = none := l1.none (l2.none nx)
 refine k x m g (fun c => if c = m then some .rows else if c = g then some .bys else none) (fun c => if c = x then some (true, .row (Qd.c (⟨some m, some g⟩ : Qd))) else none) _ (l1.trans (l2.trans l3)) (fun c w hw => ?_) (fun c hc => ?_) ⟨⟨fun c e hc => ?_, fun c w hw => ?_, fun c w hw => ?_⟩, ⟨true, by rw [if_pos rfl]; rfl⟩, by rw [if_pos rfl], by rw [if_neg hmg, if_pos rfl], ?_, ?_, fun p hp => by cases hp⟩
 ·split at hw
  ·rename_i e; rw [e]; exact nm
  ·split at hw
   ·rename_i e; rw [e]; exact hHg
   ·cases hw
 ·by_cases hcx : c = x
  ·rw [hcx]; exact hHx
  ·rw [if_neg hcx] at hc; exact absurd rfl hc
 ·split at hc
  ·rename_i e; rw [e, Heap.put_same, hc]
  ·cases hc
 ·split at hw
  ·rename_i e; rw [if_neg (by rw [e]; exact hxm.symm)]
  ·split at hw
   ·rename_i e; rw [if_neg (by rw [e]; exact hxg.symm)]
   ·cases hw
 ·split at hw
  ·rename_i e; rw [e, Heap.put_ne _ _ _ hxm.symm, Heap.put_ne _ _ _ hmg.symm, Heap.put_same]; simp
  ·split at hw
   ·rename_i e; rw [e, Heap.put_ne _ _ _ hxg.symm, Heap.put_same]; simp
   ·cases hw
 ·exact (RM.new (H := H) (b := m)).same (by rw [Heap.put_ne _ _ _ hxm.symm, Heap.put_ne _ _ _ hmg.symm])
 ·exact (MapS.new (H := H.put m (.obj (.map #[] 0))) (b := g)).same (by rw [Heap.put_ne _ _ _ hxg.symm])
end
end
section
open Go Go.Proofs
def Rm (R : List (List V)) (r : List V) : List (List V) := R.filter fun r' => decide (keyB r' ≠ keyB r)
theorem Qhc {R : List (List V)} {r r' : List V} (hF : Fine R) (hf : fineV r) (hm : mayR r = true) : r' ∈ Rm R r ↔ r' ∈ R ∧ r' ≠ r := by
 unfold Rm
 rw [List.mem_filter, decide_eq_true_iff]
 exact ⟨fun ⟨a, b⟩ => ⟨a, fun e => b (by rw [e])⟩, fun ⟨a, b⟩ => ⟨a, fun e => b (hF.inj a hf hm e)⟩⟩
section
variable {C : Ctx} {o o2 : Own_} {A B H H2 : Heap} {n : Str} {ps : List Int} {q b : Nat} {x m g : Nat} {L : List (Str × Option (Nat × Nat))} {LQ : List (Str × Option Nat)} {R R2 : List (List V)} {r : List V} {t : Sl}
/-- a row without a key goes -/
theorem BM.less (h : BM o A H n ps q R LQ) (hF : Fine R) (hf : fineV r) (hm : mayR r = true) (hk : keyAt ps r = none) : BM o A H n ps q (Rm R r) LQ := by
 obtain ⟨h1, h2, h3, h4⟩ := h
 refine ⟨h1, h2, fun p hp => ?_, fun r' hr' => h4 r' ((Qhc hF hf hm).1 hr').1⟩
 obtain ⟨e, q1, q2, q3⟩ := h3 p hp
 refine ⟨e, q1, q2, q3.congr fun r' => ?_⟩
 rw [List.mem_filter, List.mem_filter, Qhc hF hf hm]
 refine ⟨fun ⟨a, b⟩ => ⟨⟨a, fun e => ?_⟩, b⟩, fun ⟨⟨a, _⟩, b⟩ => ⟨a, b⟩⟩
 rw [e, hk] at b; simp at b
theorem BM.del {k : Str} {e : Nat} {K : Heap → Prop} (h : BM o A H n ps q R LQ) (hl : (k, some e) ∈ LQ) (hk : keyAt ps r = some k) (hF : Fine R) (hf : fineV r) (hm : mayR r = true)
 (kk : ∀ g, Chg (fun w => w.of = some n) o H o (H.put e g) → BM o A (H.put e g) n ps q (Rm R r) LQ → K (H.put e g)) : delS slv (some e) (keyB r) K H := by
 have hne := fun p e => h.ne (p := p) (e := e)
 obtain ⟨h1, h2, h3, h4⟩ := h
 obtain ⟨e', r1, r2, r3⟩ := h3 _ hl
 injection r1 with r1; subst r1
 obtain ⟨s1, _, _⟩ := hne _ e hl rfl
 refine r3.del fun g hR => kk g (Chg.put r2 rfl) ⟨h1, h2.same (by rw [Heap.put_ne _ _ _ s1.symm]), fun p hp => ?_, fun r' hr' => h4 r' ((Qhc hF hf hm).1 hr').1⟩
 obtain ⟨e', t1, t2, t3⟩ := h3 p hp
 refine ⟨e', t1, t2, ?_⟩
 by_cases hpk : p.1 = k
 ·rw [hpk] at t2 t3 ⊢
  have : p = (k, some e') := by rw [← hpk, ← t1]
  rw [this] at hp
  have h5 := Qbm h2.is.nd hp
  rw [Qbm h2.is.nd hl] at h5
  injection h5 with h5; injection h5 with h5; subst h5
  refine hR.congr fun r' => ?_
  unfold Rm
  rw [List.mem_filter, List.mem_filter, List.mem_filter, List.mem_filter]
  exact ⟨fun ⟨⟨a, b⟩, d⟩ => ⟨⟨a, d⟩, b⟩, fun ⟨⟨a, d⟩, b⟩ => ⟨⟨a, b⟩, d⟩⟩
 ·have hee : e' ≠ e := fun e2 => by
   subst e2
   rw [r2] at t2; injection t2 with t2; injection t2 with _ t2
   exact hpk t2.symm
  refine (t3.same (Heap.put_ne _ _ _ hee)).congr fun r' => ?_
  rw [List.mem_filter, List.mem_filter, Qhc hF hf hm]
  refine ⟨fun ⟨a, b⟩ => ⟨⟨a, fun e => ?_⟩, b⟩, fun ⟨⟨a, _⟩, b⟩ => ⟨a, b⟩⟩
  rw [e, hk] at b
  have b := of_decide_eq_true b
  injection b with b
  exact hpk b.symm
theorem QkM {K : Bool → Int → Heap → Prop} (h : IxP o A H x m g L R (cR R)) (hF : Fine R) (hv : VRow B t r) (hB : B.le H) (hf : fineV r)
 (k0 : mayR r = false → ∀ H2, H.le H2 → K false 4 H2)
 (k1 : mayR r = true → r ∉ R → ∀ H2, H.le H2 → K false 0 H2)
 (k2 : mayR r = true → r ∈ R → ∀ o2 H2, Chg (fun _ => True) o H o2 H2 → IxP o2 A H2 x m g L (Rm R r) (cR (Rm R r)) → K true 0 H2)
 (hBo : ∀ c w, o c = some w → B c = none) : Qw C (some (x, 0)) t K H := by
 apply Qb6
 unfold Qcp
 refine Qh rfl (Qhn hv hB hf (fun hm H4 h4 => Qh rfl ?_) fun hm H4 h4 => Qq rfl (k0 hm H4 h4))
 have hP4 := h.up h4
 refine ⟨_, rfl, hP4.ld0 ?_⟩
 refine hP4.rm.look hF hf hm (fun hr s hs => Qh rfl ?_) fun hr => Qq rfl (k1 hm hr H4 h4)
 refine ⟨_, rfl, hP4.ld0 ?_⟩
 refine hP4.rm.del fun g2 hR => ?_
 have hne : ∀ c w, o c = some w → w ≠ .rows → c ≠ m := fun c w hw e e' => by subst e'; rw [hP4.om] at hw; injection hw with hw; exact e hw.symm
 have hP6 : IxP o A (H4.put m g2) x m g L (Rm R r) (cR R) := by
  refine ⟨⟨fun c e hc => ?_, hP4.oh.ap, fun c w hw => ?_⟩, hP4.hx, hP4.om, hP4.og, hR, hP4.mg.same (Heap.put_ne _ _ _ (hne _ _ hP4.og (by intro h; cases h))), fun p hp => ?_⟩
  ·have : c ≠ m := fun e' => by rw [e', hP4.oh.ap _ _ hP4.om] at hc; cases hc
   rw [Heap.put_ne _ _ _ this]; exact hP4.oh.le c e hc
  ·by_cases hcm : c = m
   ·rw [hcm, Heap.put_same]; simp
   ·rw [Heap.put_ne _ _ _ hcm]; exact hP4.oh.oh c w hw
  ·obtain ⟨b, ps, q1, q2, q3, q4⟩ := hP4.bs p hp
   refine ⟨b, ps, q1, q2, q3, q4.keep fun c w hc hw => ⟨hc, Heap.put_ne _ _ _ (hne c w hc fun e => by subst e; cases hw)⟩⟩
 have hc6 : Chg (fun _ => True) o H o (H4.put m g2) := (Chg.of_le h4).trans (Chg.put hP4.om trivial)
 have hB6 : B.le (H4.put m g2) := fun c e hc => by
  have : c ≠ m := fun e' => by rw [e', hBo _ _ hP4.om] at hc; cases hc
  rw [Heap.put_ne _ _ _ this]; exact h4 _ _ (hB _ _ hc)
 refine ⟨_, rfl, hP6.ld1 ?_⟩
 refine Qj7 (Rb2 := cR (Rm R r)) (f := fun q J D => Qbe C q t (fun r34 r35 H36 => ift r35 (nck q fun p38 => ldM H36 (p38.1, p38.2 + 1) fun x40 => lkM mv none x40 r34 (fun x42 is43 => delS slv x42 (keyB r) (fun H45 => J H45) H36) H36) (J H36)) D) hP6 (fun o' D n b ps J hcD hO hps hBy kk => ?_) fun o2 D hc hP => k2 hm hr o2 D (hc6.trans hc) hP
 obtain ⟨mu, t2, q, LQ, hb, hp, hBM⟩ := hBy
 have hBD : B.le D := fun c e hc => hcD.kp c e (hB6 c e hc) fun w hw _ => by rw [hBo c w hw] at hc; cases hc
 refine QkU (b := (b, 0)) (t := t2) (ps := ps) (A := Heap.or A B) (by rw [Qbh (hO.le _ _ hb)]; rfl) (SlIs.le Heap.le_or hp fun _ _ _ h => h) (hv.le ?_) (Heap.or_le hO.le hBD) hf hps.1 (fun key hkey H3 h3 => ?_) fun hkey H3 h3 => ?_
 ·exact Heap.le_or3 hO.le hBD
 ·have hO3 := hO.up h3
  have hB3 : BM o' A H3 n ps q R LQ := hBM.keep fun c w hc _ => ⟨hc, by
   cases he : D c with
   | none => exact absurd he (hO.oh c w hc)
   | some e => exact h3 c e he⟩
  refine Qq rfl ⟨_, rfl, some q, by rw [Qbh (hO3.le _ _ hb)]; rfl, ?_⟩
  refine hB3.2.1.is.lk (fun y hy => ?_) fun hy => ?_
  ·have hl := Qa1 hy
   obtain ⟨e, q1, q2, q3⟩ := hB3.2.2.1 _ hl
   dsimp only at q1; subst q1
   exact hB3.del hl hkey hF hf hm fun g3 c3 b3 => kk o' _ ((Chg.of_le h3).trans c3) ⟨mu, t2, q, LQ, hb, hp, b3⟩
  ·obtain ⟨e, he⟩ := hB3.2.2.2 r hr _ hkey
   rw [Qbm hB3.2.1.is.nd he] at hy; cases hy
 ·have hO3 := hO.up h3
  have hB3 : BM o' A H3 n ps q R LQ := hBM.keep fun c w hc _ => ⟨hc, by
   cases he : D c with
   | none => exact absurd he (hO.oh c w hc)
   | some e => exact h3 c e he⟩
  exact Qh rfl (kk o' H3 (Chg.of_le h3) ⟨mu, t2, q, LQ, hb, hp, hB3.less hF hf hm hkey⟩)
end
end
section
open Go Go.Proofs
/-- what is called behind keeps the world's blocks: it has grown -/
theorem Qkq {w1 w' : World} {H' : Heap} (h : St (ctxOf w1) w' H') : ∃ q os', w' = Go.Sort.grow (w1.drewN q) os' := by
 have h1 : w'.os = w1.os := congrArg (fun q : Os × (Nat → Question → Nat) => q.1) h.os.1
 have h2 : w'.tape = w1.tape := congrArg (fun q : Os × (Nat → Question → Nat) => q.2) h.os.1
 have h3 : w1.drawn ≤ w'.drawn := h.os.2
 have h4 : w'.output = w1.output := h.out
 have h5 : w1.heap.size ≤ w'.heap.size := h.old_le
 have h6 : ∀ i, i < w1.heap.size → w'.heap[i]? = w1.heap[i]? := fun i hi => h.old i hi
 refine ⟨w'.drawn - w1.drawn, w'.heap.extract w1.heap.size w'.heap.size, ?_⟩
 have hh : w'.heap = w1.heap ++ w'.heap.extract w1.heap.size w'.heap.size := by
  apply Array.ext_getElem?
  intro i
  rw [Array.getElem?_append]
  split
  ·exact h6 i ‹_›
  ·rw [Array.getElem?_extract]
   have e : w1.heap.size + (i - w1.heap.size) = i := by omega
   rw [e]
   split
   ·rfl
   ·rw [Array.getElem?_eq_none (by omega)]
 have hd : w'.drawn = w1.drawn + (w'.drawn - w1.drawn) := by omega
 unfold Go.Sort.grow World.drewN
 generalize w'.drawn - w1.drawn = q at *
 generalize w'.heap.extract w1.heap.size w'.heap.size = es at *
 obtain ⟨a1, a2, a3, a4, a5⟩ := w'
 obtain ⟨b1, b2, b3, b4, b5⟩ := w1
 simp only at *
 subst h1; subst h2; subst h4; subst hd; subst hh
 rfl
theorem Qkf {A B : Heap} (h : ∀ p v, rd A p = some v → rd B p = some v) : ∀ {cs : List Value} {p : Nat × Nat}, rds A p cs → rds B p cs
 | [], _, _ => trivial
 | v :: r, p, ⟨h1, h2⟩ => ⟨h _ _ h1, Qkf h h2⟩
theorem Qjd {A B : Heap} (h : ∀ p v, rd A p = some v → rd B p = some v) {s : Sl} {cs : List Value} (hr : rdsl A s cs) : rdsl B s cs := by
 rcases hr with hr | ⟨a, p, b, c⟩
 ·exact .inl hr
 ·exact .inr ⟨a, p, b, Qkf h c⟩
mutual
theorem VIs.to {A B : Heap} (h : ∀ p v, rd A p = some v → rd B p = some v) : ∀ {v : V} {x : TV}, VIs A v x → VIs B v x
 | .mk k n s l, x, ⟨h1, h2, h3, xs, h4, h5, h6⟩ => ⟨h1, h2, h3, xs, Qjd h h4, h5, VsAre.to h h6⟩
theorem VsAre.to {A B : Heap} (h : ∀ p v, rd A p = some v → rd B p = some v) : ∀ {l : List V} {xs : List TV}, VsAre A l xs → VsAre B l xs
 | [], [], _ => trivial
 | v :: l, x :: xs, ⟨h1, h2⟩ => ⟨VIs.to h h1, VsAre.to h h2⟩
end
theorem VRow.to {A B : Heap} (h : ∀ p v, rd A p = some v → rd B p = some v) {t : Sl} {l : List V} (hr : VRow A t l) : VRow B t l := by
 obtain ⟨xs, h1, h2, h3⟩ := hr
 exact ⟨xs, Qjd h h1, h2, h3.to h⟩
/-- what is read in a part of the heap is read in a world that keeps its blocks -/
theorem QjQ {C : Ctx} {w w1 : World} {A H : Heap} (hs : St C w H) (hA : A.le H) (hb : ∀ c, A c ≠ none → w1.heap[c]? = w.heap[c]?) (p : Nat × Nat) (v : Value) (h : rd A p = some v) : rd (heapOf w1) p = some v := by
 unfold rd at h
 split at h
 ·rename_i m g hg
  obtain ⟨ob, ho, hr⟩ := hs.blk _ _ _ (hA _ _ hg)
  have hw1 := (hb p.1 (by rw [hg]; simp)).trans ho
  cases hc : g.cells? with
  | none => rw [hc] at h; cases h
  | some c =>
   rw [hc] at h
   have : ∃ t fr, ob = .cells c.toArray t fr := by
    cases g <;> simp only [GO.cells?, Option.some.injEq, reduceCtorEq] at hc <;> cases ob <;> simp only [GO.rel] at hr
    ·subst hc; exact ⟨_, _, by rw [hr.1]⟩
    ·subst hc; exact ⟨_, _, by rw [hr.1]⟩
   obtain ⟨t, fr, e⟩ := this
   subst e
   unfold rd heapOf
   rw [hw1]
   exact h
 ·cases h
end
section
open Go Go.Proofs
/-- a row that can be compared, in a part of memory -/
def ZR (A : Heap) : Type := {z : Sl × List V // VRow A z.1 z.2 ∧ VBs z.2 ∧ z.2.length ≤ 140737488355328}
instance (A : Heap) : Inhabited (ZR A) := ⟨⟨(Sl.nil, []), ⟨[], .inl rfl, rfl, trivial⟩, trivial, Nat.zero_le _⟩⟩
def ZR.cf {A : Heap} (a b : ZR A) : Int := cmpR a.1.2 b.1.2
theorem QkE (A : Heap) : Go.Sort.SWO (ltOf (ZR.cf (A := A))) := by
 have hL := Lin.row
 refine ⟨fun x => ?_, fun x y z h1 h2 => ?_, fun x y z h1 h2 => ?_⟩
 ·have := hL.refl (a := x.1.2) trivial
  unfold ltOf ZR.cf; rw [this]; rfl
 ·have h1 := of_decide_eq_true h1
  have h2 := of_decide_eq_true h2
  have := (hL.tr x.1.2 y.1.2 z.1.2 trivial trivial trivial (by unfold ZR.cf at h1; omega) (by unfold ZR.cf at h2; omega)).2 (.inl h1)
  exact decide_eq_true this
 ·have h1 := of_decide_eq_false h1
  have h2 := of_decide_eq_false h2
  refine decide_eq_false ?_
  unfold ZR.cf at *
  have a1 := hL.anti x.1.2 y.1.2 trivial trivial
  have a2 := hL.anti y.1.2 z.1.2 trivial trivial
  have a3 := hL.anti x.1.2 z.1.2 trivial trivial
  have := (hL.tr z.1.2 y.1.2 x.1.2 trivial trivial trivial (by omega) (by omega)).1
  omega
theorem QhF {α : Type} [Inhabited α] {enc : α → Value} {w : World} {blk m c : Nat} {dk : Array α} {os : Array Obj} (hc : c ≠ blk) (hl : c < w.heap.size) : (sortWorld enc w blk 0 m dk os).heap[c]? = w.heap[c]? := by
 unfold sortWorld Go.Sort.grow Go.Sort.putRow Go.Sort.mapBlock Go.Sort.ahead
 simp only
 rw [Array.getElem?_append_left (by simpa using hl), Array.getElem?_modify, if_neg hc.symm]
theorem QjB {C : Ctx} {w : World} {H A : Heap} {blk size : Nat} (hs : St C w H) (hA : A.le H) (hb : A blk = none) : CmpLays1 Tryz.prog 53 #[] (fun z : ZR A => slv z.1.1) ZR.cf blk 0 size w := by
 intro m os dk hd x y
 have hrd : ∀ p v, rd A p = some v → rd (heapOf (sortWorld (fun z : ZR A => slv z.1.1) w blk 0 m dk os)) p = some v := fun p v h =>
  QjQ hs hA (fun c hc => QhF (fun e => hc (by rw [e]; exact hb)) (by
   cases hac : A c with
   | none => exact absurd hac hc
   | some e => exact hs.lt (hA _ _ hac))) p v h
 have hspec : QbP (ctxOf (sortWorld (fun z : ZR A => slv z.1.1) w blk 0 m dk os)) x.1.1 y.1.1 (fun r _ => r = cmpR x.1.2 y.1.2) (heapOf (sortWorld (fun z : ZR A => slv z.1.1) w blk 0 m dk os)) :=
  QhU (x.2.1.to hrd) (y.2.1.to hrd) x.2.2.2 y.2.2.2 x.2.2.1 y.2.2.1 rfl
 have hcall := hspec _ (QhG _)
 refine hcall.mono ?_
 rintro e w' ⟨v, H', rfl, hst, r, rfl, hr⟩
 subst hr
 exact ⟨rfl, Qkq hst⟩
theorem QiR {C : Ctx} {w : World} {H A : Heap} {blk : Nat} {d : Array (ZR A)} {sp : List Value} (hs : St C w H) (hb : H blk = some (true, .row ((d.toList.map fun z => slv z.1.1) ++ sp))) : Go.Sort.Holds (fun z : ZR A => slv z.1.1) w blk 0 d := by
 intro j hj
 obtain ⟨ob, ho, hr⟩ := hs.blk _ _ _ hb
 cases ob <;> simp only [GO.rel] at hr
 rename_i c t fr
 obtain ⟨rfl, hfr⟩ := hr
 have hfr := hfr trivial
 have hl : 0 + j < ((d.toList.map fun z : ZR A => slv z.1.1) ++ sp).length := by simp; omega
 constructor
 ·unfold World.cell?
  simp only [ho]
  rw [if_neg (by simp), List.getElem?_toArray, Nat.zero_add, List.getElem?_append_left (by simpa using hj), List.getElem?_map, Array.getElem?_toList, Array.getElem?_eq_getElem hj]
  simp [hj]
 ·unfold World.frozen?
  simp only [ho]
  obtain ⟨lo, hi⟩ := fr
  simp only at hfr ⊢
  rcases hfr with h | h
  ·subst h; simp; try omega
  ·simp; try omega
theorem St.putR {α : Type} [Inhabited α] {enc : α → Value} {C : Ctx} {w : World} {H : Heap} {b : Nat} {cs sp : List Value} {d : Array α} (hs : St C w H) (hb : H b = some (true, .row (cs ++ sp))) (hl : cs.length = d.size) : St C (Go.Sort.putRow enc w b 0 d) (H.put b (.row ((d.toList.map enc) ++ sp))) := by
 obtain ⟨ob, ho, hr⟩ := hs.blk _ _ _ hb
 cases ob <;> simp only [GO.rel] at hr
 rename_i c t fr
 obtain ⟨rfl, hfr⟩ := hr
 have hfr := hfr trivial
 refine hs.set hb (o' := .cells (Go.Sort.putCells enc 0 d (cs ++ sp).toArray) t fr) ⟨rfl, rfl, ?_, fun x hx => ?_⟩ ⟨?_, fun _ => ?_⟩
 ·unfold Go.Sort.putRow Go.Sort.mapBlock
  simp only
  rw [Array.getElem?_modify, if_pos rfl, ho]
  rfl
 ·unfold Go.Sort.putRow Go.Sort.mapBlock
  simp only
  rw [Array.getElem?_modify, if_neg hx.symm]
 ·apply Array.ext_getElem?
  intro k
  unfold Go.Sort.putCells
  rw [Array.getElem?_mapIdx, List.getElem?_toArray, List.getElem?_toArray, Nat.zero_add]
  by_cases hk : k < d.size
  ·have hk1 : k < cs.length := by omega
   have hk2 : k < (d.toList.map enc).length := by simpa using hk
   have e1 : (cs ++ sp)[k]? = some cs[k] := by rw [List.getElem?_append_left hk1, List.getElem?_eq_getElem hk1]
   have e2 : (d.toList.map enc ++ sp)[k]? = some (enc d[k]) := by rw [List.getElem?_append_left hk2, List.getElem?_map, Array.getElem?_toList, Array.getElem?_eq_getElem hk]; rfl
   rw [e1, e2]
   simp [hk]
  ·have e1 : (cs ++ sp)[k]? = sp[k - d.size]? := by rw [List.getElem?_append_right (by omega), hl]
   have e2 : (d.toList.map enc ++ sp)[k]? = sp[k - d.size]? := by rw [List.getElem?_append_right (by simp; omega)]; simp
   rw [e1, e2]
   cases hsp : sp[k - d.size]? with
   | none => rfl
   | some v => simp [hk]
 ·simp only [List.length_append, List.length_map, Array.length_toList] at hfr ⊢
  omega
theorem St.sortW {α : Type} [Inhabited α] {enc : α → Value} {C : Ctx} {w : World} {H : Heap} {b n : Nat} {cs sp : List Value} {d : Array α} {os : Array Obj} (hs : St C w H) (hb : H b = some (true, .row (cs ++ sp))) (hl : cs.length = d.size) : St C (sortWorld enc w b 0 n d os) (H.put b (.row ((d.toList.map enc) ++ sp))) := by
 have h1 := St.putR (enc := enc) (hs.drewN n) hb hl
 have h2 := St.growL os.toList h1
 rw [Array.toArray_toList] at h2
 exact h2
theorem Qjq {A : Heap} : ∀ (zs : List (Sl × List V)), (∀ z ∈ zs, VRow A z.1 z.2 ∧ VBs z.2 ∧ z.2.length ≤ 140737488355328) → ∃ dl : List (ZR A), dl.map (fun z => z.1) = zs
 | [], _ => ⟨[], rfl⟩
 | z :: zs, h => by
  obtain ⟨dl, e⟩ := Qjq zs fun z hz => h z (List.mem_cons_of_mem _ hz)
  exact ⟨⟨z, h z (List.mem_cons_self ..)⟩ :: dl, congrArg (fun l => z :: l) e⟩
theorem Qik {C : Ctx} {H0 H : Heap} {s : Sl} {zs : List (Sl × List V)} {K : Heap → Prop} (ho : OwnF H0 H 1 s (zs.map fun z => slv z.1)) (hz : ∀ z ∈ zs, VRow (H.off s) z.1 z.2 ∧ VBs z.2 ∧ z.2.length ≤ 140737488355328) (hn : zs.length ≤ 1000000000)
 (k : ∀ (ws : List (Sl × List V)) H2, ws.Perm zs → ws.Pairwise (fun a b => cmpR a.2 b.2 ≤ 0) → OwnF H0 H2 1 s (ws.map fun z => slv z.1) → H2.off s = H.off s → K H2) : QN C s (.func (.func 53) (List.toArray []) (List.toArray [])) K H := by
 intro w hw
 obtain ⟨hle, ⟨hlen, hx, hcap, hcase⟩, hfr⟩ := ho
 have hlen : s.len = zs.length := by simpa using hlen.symm
 by_cases h0 : zs = []
 ·have hl0 : s.len = 0 := by rw [hlen, h0]; rfl
  have hall := AnyF.slices_SortFunc_none (P := Tryz.prog) (ρ := Tryz.laysSrt_ren) (by have L := Tryz.laysSrt; exact { L with }) s.ad s.cap (.func (.func 53) #[] #[]) w
  have harg : (#[.slice s.ad 0 s.cap, .func (.func 53) #[] #[]] : Array Value) = [slv s, .func (.func 53) (List.toArray []) (List.toArray [])].toArray := by
   unfold slv; rw [hl0]
  rw [← harg]
  refine hall.mono ?_
  rintro e w' ⟨rfl, rfl⟩
  exact ⟨.tuple #[], H, rfl, hw, rfl, k zs H (List.Perm.refl _) (by rw [h0]; exact .nil) ⟨hle, ⟨by simpa using hlen.symm, hx, hcap, hcase⟩, hfr⟩ rfl⟩
 ·rcases hcase with ⟨_, hc0⟩ | ⟨b, sp, hp, hb, hsz⟩
  ·have : zs.length = 0 := by omega
   exact absurd (List.length_eq_zero_iff.1 this) h0
  ·have hoff : (H.off s) b = none := Heap.off_fresh s H _ hp
   have had : s.ad = some ⟨b, 0, none⟩ := by unfold Sl.ad; rw [hp, hx]; rfl
   obtain ⟨dl, hdl⟩ := Qjq zs hz
   have hdv : dl.toArray.toList.map (fun z : ZR (H.off s) => z.1) = zs := hdl
   have hdm : (dl.toArray.toList.map fun z : ZR (H.off s) => slv z.1.1) = zs.map fun z => slv z.1 := by
    rw [← hdv, List.map_map]; rfl
   have hds : dl.toArray.size = zs.length := by rw [← hdv]; simp
   generalize dl.toArray = d at *
   have hall := Any.slices_SortFunc Tryz.laysSrt (fun z : ZR (H.off s) => slv z.1.1) (fun z => rfl) ZR.cf (QkE _) 53 #[] b 0 s.cap d w (QdL Qfw) (QjB hw (Heap.off_le s H) hoff) (QiR (sp := sp) hw (by rw [hdm]; exact hb)) (hw.lt hb) (by omega)
   have harg : (#[.slice (some ⟨b, 0, none⟩) d.size s.cap, .func (.func 53) #[] #[]] : Array Value) = [slv s, .func (.func 53) (List.toArray []) (List.toArray [])].toArray := by
    unfold slv; rw [had, hds, hlen]
   rw [← harg]
   refine hall.mono ?_
   rintro e w' ⟨rfl, d', n, os, hperm, hsort, rfl⟩
   obtain ⟨p1, _, p3⟩ := hperm
   have hP : d'.toList.Perm d.toList := by
    have e1 : d'.extract 0 d.size = d' := by rw [← p1]; simp
    have e2 : d.extract 0 d.size = d := by simp
    rw [e1, e2] at p3; exact p3
   have hwp : (d'.toList.map fun z : ZR (H.off s) => z.1).Perm zs := by
    have := hP.map (fun z : ZR (H.off s) => z.1)
    rw [hdv] at this; exact this
   have hst := St.sortW (enc := fun z : ZR (H.off s) => slv z.1.1) (n := n) (os := os) (d := d') hw hb (by rw [List.length_map, p1, hds])
   refine ⟨.tuple #[], _, rfl, hst, rfl, k (d'.toList.map fun z => z.1) _ hwp ?_ ⟨?_, ⟨?_, hx, hcap, .inr ⟨b, sp, hp, ?_, ?_⟩⟩, hfr⟩ ?_⟩
   ·rw [List.pairwise_map, List.pairwise_iff_getElem]
    intro i j hi hj hij
    have hj2 : j < d'.size := by simpa using hj
    have hi2 : i < d'.size := by omega
    have h1 := of_decide_eq_false (hsort i j (Nat.zero_le _) hij (by omega))
    have e1 : d'[i]! = d'[i] := by simp [hi2]
    have e2 : d'[j]! = d'[j] := by simp [hj2]
    rw [e1, e2] at h1
    unfold ZR.cf at h1
    have := Lin.row.anti d'[i].1.2 d'[j].1.2 trivial trivial
    simp only [Array.getElem_toList]
    omega
   ·intro c e hc
    have : c ≠ b := fun e' => by rw [e'] at hc; have := hfr _ hp; rw [this] at hc; cases hc
    rw [Heap.put_ne _ _ _ this]; exact hle _ _ hc
   ·rw [List.length_map, hwp.length_eq]; omega
   ·rw [Heap.put_same, List.map_map]; rfl
   ·rw [List.map_map] at *
    simp only [List.length_append, List.length_map, Array.length_toList] at hsz ⊢
    omega
   ·funext c
    unfold Heap.off
    split
    ·rfl
    ·rename_i hc
     have : c ≠ b := fun e => hc (by rw [hp, e]; rfl)
     rw [Heap.put_ne _ _ _ this]
end
section
open Go Go.Proofs
/-- rising rows -/
def Rise (T : List (List V)) : Prop := T.Pairwise fun a b => cmpR a b < 0
/-- rows told: rising, those of R, each in new memory -/
structure Told (H H2 : Heap) (R T : List (List V)) (s : Sl) (ys : List Sl) : Prop where
 og : Og H H2 T s ys
 len : ys.length = T.length
 rise : Rise T
 perm : T.Perm R
section
variable {C : Ctx} {A H H2 D : Heap} {m it : Nat} {R : List (List V)}
theorem OwnF.del {H0 H : Heap} {z : Nat} {s : Sl} {cs : List Value} {e : Bool × GO} (h : OwnF H0 H z s cs) (hi : H0 it = some e) : OwnF (H0.del it) (H.del it) z s cs := by
 obtain ⟨h1, ⟨h2, h3, h4, h5⟩, h6⟩ := h
 refine ⟨fun c e' hc => ?_, ⟨h2, h3, h4, ?_⟩, h6.le (Heap.del_le _ _)⟩
 ·by_cases hci : c = it
  ·rw [hci, Heap.del_same] at hc; cases hc
  ·rw [Heap.del_ne _ hci] at hc ⊢; exact h1 _ _ hc
 ·rcases h5 with h5 | ⟨b, sp, q1, q2, q3⟩
  ·exact .inl h5
  ·refine .inr ⟨b, sp, q1, ?_, q3⟩
   have : b ≠ it := fun e' => by have := h6 _ q1; rw [e', hi] at this; cases this
   rw [Heap.del_ne _ this]; exact q2
theorem QiJ {s : Sl} : (H.del it).off s = (H.off s).del it := by
 funext c
 unfold Heap.off Heap.del
 by_cases h1 : c = it
 ·rw [if_pos h1, if_pos h1]; split <;> rfl
 ·rw [if_neg h1, if_neg h1]
theorem Qi9 {g : GO} {mu : Bool} : (H.put it g mu).del it = H.del it := by
 funext c
 by_cases h1 : c = it
 ·rw [h1, Heap.del_same, Heap.del_same]
 ·rw [Heap.del_ne _ h1, Heap.del_ne _ h1, Heap.put_ne _ _ _ h1]
theorem Made.del {r : List V} {t : Sl} {e : Bool × GO} (h : Made D H2 r t) (hi : D it = some e) : Made (D.del it) (H2.del it) r t := by
 have hn : ∀ c, D c = none → c ≠ it := fun c hc e' => by rw [e', hi] at hc; cases hc
 refine ⟨fun c e' hc => ?_, h.row.le fun c e' hc => ?_, ?_, h.cp⟩
 ·by_cases hci : c = it
  ·rw [hci, Heap.del_same] at hc; cases hc
  ·rw [Heap.del_ne _ hci] at hc ⊢; exact h.le _ _ hc
 ·obtain ⟨q1, q2⟩ := Heap.new_inv hc
  exact Heap.new_some (by rw [Heap.del_ne _ (hn c q1)]; exact q2) (by rw [Heap.del_ne _ (hn c q1)]; exact q1)
 ·obtain ⟨j, hj⟩ := h.sp
  exact ⟨j, hj.to fun c e' hc he => ⟨by rw [Heap.del_ne _ (hn c hc)]; exact hc, by rw [Heap.del_ne _ (hn c hc)]; exact he⟩⟩
theorem Og.more {B : Heap} {ls : List (List V)} {s : Sl} {ys : List Sl} {r : List V} (h : Og H B ls s ys) (hl : ys.length = ls.length) : Og H B (ls ++ [r]) s ys :=
 ⟨h.own, by simp; omega, fun j l y hj hy => h.done j l y (by
  have := (List.getElem?_eq_some_iff.1 hy).1
  rw [List.getElem?_append_left (by omega)] at hj; exact hj) hy⟩
theorem Qfd (hF : Fine R) (hn : R.Nodup) {ls : List (List V)} (hs : ∀ r ∈ ls, r ∈ R) (hp : (ls.map keyB).Perm (R.map keyB)) : ls.Perm R := by
 have h1 : (R.map keyB).Nodup := by
  rw [List.Nodup, List.pairwise_map]
  exact List.Pairwise.imp_of_mem (fun {a b} ha hb hab e => hab (hF.inj ha (hF b hb).1 (hF b hb).2 e)) hn
 have h2 : (ls.map keyB).Nodup := hp.symm.nodup h1
 have h3 : ls.Nodup := by
  rw [List.Nodup, List.pairwise_map] at h2
  exact h2.imp fun {a b} hab e => hab (by rw [e])
 refine (List.perm_ext_iff_of_nodup h3 hn).2 fun r => ⟨hs r, fun hr => ?_⟩
 have : keyB r ∈ ls.map keyB := hp.symm.subset (List.mem_map.2 ⟨r, hr, rfl⟩)
 obtain ⟨r', hr', e⟩ := List.mem_map.1 this
 rw [← hF.inj (hs r' hr') (hF r hr).1 (hF r hr).2 e]; exact hr'
theorem Qjp : ∀ {ys : List Sl} {ls : List (List V)}, ys.length = ls.length → (ys.zip ls).map (fun z => z.1) = ys ∧ (ys.zip ls).map (fun z => z.2) = ls
 | [], [], _ => ⟨rfl, rfl⟩
 | y :: ys, l :: ls, h => by
  obtain ⟨h1, h2⟩ := Qjp (ys := ys) (ls := ls) (by simpa using h)
  simp [h1, h2]
theorem Qla {ys : List Sl} {ls : List (List V)} {z : Sl × List V} (h : z ∈ ys.zip ls) : ∃ j : Nat, ls[j]? = some z.2 ∧ ys[j]? = some z.1 := by
 obtain ⟨j, hj⟩ := List.mem_iff_getElem?.1 h
 rw [List.getElem?_zip_eq_some] at hj
 exact ⟨j, hj.2, hj.1⟩
theorem Qjm {K : Sl → Heap → Prop} (h : RM A H m R) (hA : A.le H) (hF : Fine R) (hn : R.Nodup) (hz : ∀ r ∈ R, vsizes r ≤ 1000000) (hlen : R.length ≤ 1000000)
 (k : ∀ T s ys H2, Told H H2 R T s ys → K s H2) : Qag C (some m) K H := by
 apply Qew
 unfold Qdl
 obtain ⟨l, h1, h2, h3⟩ := h
 have hll : l.length = R.length := by
  have := (RM.perm ⟨l, h1, h2, h3⟩ hn hF h1 h2 h3).length_eq
  rwa [List.length_map, List.length_map] at this
 obtain ⟨gm, hgm⟩ := RM.isS (A := A) (R := R) ⟨l, h1, h2, h3⟩
 refine .inr ⟨m, l, rfl, h1, fun it ob hit hI => ?_⟩
 refine ⟨fun s D => ∃ vs ls ys, It slv D it m l vs ∧ Og H (D.del it) ls s ys ∧ ys.length = ls.length ∧ ls.map keyB = vs.map (fun p => p.1) ∧ ∀ r ∈ ls, r ∈ R, fun _ D => l.length - itN D it, ⟨[], [], [], hI, ?_, rfl, rfl, fun r hr => by cases hr⟩, ?_⟩
 ·rw [Qi9]
  have : H.del it = H := by
   funext c
   by_cases hc : c = it
   ·rw [hc, Heap.del_same, hit]
   ·rw [Heap.del_ne _ hc]
  rw [this]; exact Og.nil
 ·rintro s D ⟨vs, ls, ys, hIt, hO, hyl, hk, hR⟩
  have hlsl : ls.length = vs.length := by have := congrArg List.length hk; simpa using this
  refine .inr ⟨m, l, vs, hIt, fun hall => ?_, fun p hp hnv ob2 hI2 => ?_⟩
  ·refine Qh rfl ?_
   have hperm : ls.Perm R := by
    refine Qfd hF hn hR ?_
    rw [hk]
    refine List.Perm.trans ?_ (RM.perm ⟨l, h1, h2, h3⟩ hn hF h1 h2 h3)
    refine (List.perm_ext_iff_of_nodup ?_ ?_).2 fun q => ?_
    ·rw [List.Nodup, List.pairwise_map]; exact hIt.nd
    ·rw [List.Nodup, List.pairwise_map]; exact h1.is.nd
    ·constructor
     ·intro hq
      obtain ⟨p, hp, e⟩ := List.mem_map.1 hq
      exact List.mem_map.2 ⟨p, hIt.sub p hp, e⟩
     ·intro hq
      obtain ⟨p, hp, e⟩ := List.mem_map.1 hq
      exact List.mem_map.2 ⟨p, hall p hp, e⟩
   obtain ⟨z1, z2⟩ := Qjp hyl
   have hdone : ∀ z ∈ ys.zip ls, Made H ((D.del it).off s) z.2 z.1 := fun z hz => by
    obtain ⟨j, a, b⟩ := Qla hz
    exact hO.done j _ _ a b
   have hoffle : ((D.del it).off s).le (D.off s) := by rw [QiJ]; exact Heap.del_le _ _
   refine Qik (H0 := H) (zs := ys.zip ls) ?_ (fun z hz => ?_) ?_ fun ws H3 hw hs hown hoff => ?_
   ·rw [show (ys.zip ls).map (fun z => slv z.1) = ((ys.zip ls).map (fun z => z.1)).map slv by rw [List.map_map]; rfl, z1]
    exact hO.own.up (Heap.del_le _ _)
   ·have hr : z.2 ∈ R := hR _ (by rw [← z2]; exact List.mem_map.2 ⟨z, hz, rfl⟩)
    have hf := (hF _ hr).1
    refine ⟨(hdone z hz).row2.le hoffle, hf.1, by have := hf.2.1; omega⟩
   ·rw [List.length_zip, hyl, Nat.min_self, hperm.length_eq]; omega
   ·have hTp : (ws.map fun z => z.2).Perm R := by
     refine List.Perm.trans ?_ hperm
     have := hw.map fun z : Sl × List V => z.2
     rw [z2] at this; exact this
    have hTn : (ws.map fun z => z.2).Nodup := hTp.symm.nodup hn
    refine k (ws.map fun z => z.2) s (ws.map fun z => z.1) H3 ⟨⟨?_, by simp, fun j l' y hj hy => ?_⟩, by simp, ?_, hTp⟩
    ·rw [List.map_map]; exact hown
    ·rw [List.getElem?_map] at hj hy
     cases hwj : ws[j]? with
     | none => rw [hwj] at hj; cases hj
     | some z =>
      rw [hwj] at hj hy
      simp only [Option.map_some, Option.some.injEq] at hj hy
      subst hj; subst hy
      rw [hoff]
      exact (hdone z (hw.subset (List.mem_of_getElem? hwj))).up hoffle
    ·have hs2 : (ws.map fun z => z.2).Pairwise fun a b => cmpR a b ≤ 0 := by rw [List.pairwise_map]; exact hs
     refine List.Pairwise.imp_of_mem (fun {a b} ha hb hab => ?_) (hs2.and hTn)
     have ra := (hF _ (hTp.subset ha)).2
     have rb := (hF _ (hTp.subset hb)).2
     have hne : cmpR a b ≠ 0 := fun e => hab.2 ((QiF ra rb).1 e)
     have := hab.1
     omega
  ·refine Qq rfl ⟨p.1, p.2, ⟨m, l, vs, hI2⟩, ?_⟩
   obtain ⟨r, hr, hpk, hv⟩ := h2 p hp
   obtain ⟨⟨ob3, a1⟩, ob4, a2⟩ := hI2.at_
   have hAit : A it = none := hA.none hit
   have hHD : H.le (D.del it) := hO.own.le
   have hDel : ((D.put it (.obj ob2)).del it) = D.del it := Qi9
   have hle : (D.del it).le (D.put it (.obj ob2)) := by rw [← hDel]; exact Heap.del_le _ _
   refine Qid hv ((hA.trans hHD).trans hle) (hz r hr) fun t2 H3 hM => ?_
   have hM2 := hM.del a1
   rw [hDel] at hM2
   have hOwn3 : Own H3 1 s (ys.map slv) := (hO.own.own.le hle).le hM.le
   have hsit : ∀ q, s.p = some q → q.1 ≠ it := fun q hq e => by
    obtain ⟨g, hg⟩ := hO.own.own.mine hq
    rw [e, Heap.del_same] at hg; cases hg
   have hsm : ∀ q, s.p = some q → q.1 ≠ m := fun q hq e => by
    have := hO.own.fresh q hq
    rw [e, hgm] at this; cases this
   have hit3 : (H3.off s) it = some (true, .obj ob3) := Heap.off_some (hM.le _ _ a1) hsit
   have hm3 : (H3.off s) m = some (true, .obj ob4) := Heap.off_some (hM.le _ _ a2) hsm
   have hsl : s.len = ys.length := by have := hOwn3.1; simpa using this.symm
   have hfew := hIt.few
   refine QdX (zc := [slv Sl.nil]) hOwn3.off rfl (by omega) (by omega) fun r2 H4 q1 q2 => ?_
   have e1 := hI2.cnt
   have e2 := hI2.few
   have e3 := hIt.cnt
   have hI4 : It slv H4 it m l (vs ++ [p]) := hI2.same ((q1.le _ _ hit3).trans a1.symm) ((q1.le _ _ hm3).trans a2.symm)
   have e4 := hI4.cnt
   simp only [List.length_append, List.length_singleton] at e1 e2 e4
   refine ⟨⟨vs ++ [p], ls ++ [r], ys ++ [t2], hI4, ?_, by simp [hyl], by rw [List.map_append, List.map_append, hk]; simp [hpk], fun r' hr' => ?_⟩, by dsimp only; omega⟩
   ·have hq : OwnF ((H3.del it).off s) (H4.del it) 1 r2 (ys.map slv ++ [slv t2]) := by rw [QiJ]; exact q1.del hit3
    have hi : ys.length < (ls ++ [r]).length := by simp; omega
    refine Og.step (hO.more hyl) hi ?_ hq
    have : (ls ++ [r])[ys.length] = r := by
     rw [List.getElem_append_right (by omega)]; simp
    rw [this]; exact hM2
   ·rcases List.mem_append.1 hr' with hr' | hr'
    ·exact hR r' hr'
    ·rw [List.mem_singleton] at hr'; rw [hr']; exact hr
theorem Told.nil : Told H H [] [] Sl.nil [] := ⟨Og.nil, rfl, .nil, List.Perm.refl _⟩
theorem Qjl {K : Sl → Heap → Prop} (k : ∀ T s ys H2, Told H H2 [] T s ys → K s H2) : Qag C none K H := by
 apply Qew
 unfold Qdl
 refine .inl ⟨rfl, fun it hit => ?_⟩
 refine ⟨fun s D => s = Sl.nil ∧ D = H.put it (.obj (.mapIter none 0 #[] 0)), fun _ _ => 0, ⟨rfl, rfl⟩, ?_⟩
 rintro _ D ⟨rfl, rfl⟩
 refine .inl ⟨Heap.put_same .., Qh rfl ?_⟩
 refine Qik (H0 := H) (zs := []) ⟨Heap.le_put hit, Own.nil _ 1, Fresh.nil _⟩ (fun z hz => by cases hz) (by simp) fun ws H3 hw hs hown hoff => ?_
 have : ws = [] := List.Perm.eq_nil hw
 subst this
 exact k [] Sl.nil [] H3 ⟨⟨hown, Nat.le_refl _, fun j l y hj => by simp at hj⟩, rfl, .nil, List.Perm.refl _⟩
end
end
end Sx
end
