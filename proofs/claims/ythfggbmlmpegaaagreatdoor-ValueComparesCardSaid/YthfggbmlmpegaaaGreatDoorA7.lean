/-
  Texts of this family, one behind the other: ValQ, ValU, ValP1, ValP2, ValP3, ValP4, ValP5, ValR, ValW, ValX, ValC1, ValH, LawC.
-/
import Derived.Test.YthfggbmlmpegaaaGreatDoorA6
noncomputable section
set_option linter.unusedVariables false
set_option linter.unusedSimpArgs false
namespace Sx
open Go
inductive V where
  | mk (k n : Int) (s : Str) (l : List V)

namespace V
def k : V → Int | .mk k _ _ _ => k
def n : V → Int | .mk _ n _ _ => n
def s : V → Str | .mk _ _ s _ => s
def l : V → List V | .mk _ _ _ l => l
end V
mutual
def vsize : V → Nat
  | .mk _ _ _ l => vsizes l + 1
def vsizes : List V → Nat
  | [] => 0
  | v :: l => vsize v + vsizes l
end
theorem vsize_mem : ∀ {l : List V} {v : V}, v ∈ l → vsize v ≤ vsizes l
  | w :: l, v, h => by
    simp only [vsizes]
    rcases List.mem_cons.1 h with rfl | h
    · omega
    · have := vsize_mem h; omega
theorem vsize_l {v w : V} (h : w ∈ v.l) : vsize w < vsize v := by
  obtain ⟨k, n, s, l⟩ := v
  have := vsize_mem (show w ∈ l from h)
  simp only [vsize]; omega
/-- by how great a value is -/
theorem V.rec_ {P : V → Prop} (h : ∀ v, (∀ w ∈ v.l, P w) → P v) (v : V) : P v := by
  have : ∀ n v, vsize v ≤ n → P v := by
    intro n
    induction n with
    | zero => intro v hv; obtain ⟨k, n, s, l⟩ := v; simp [vsize] at hv
    | succ n ih => intro v hv; exact h v fun w hw => ih w (by have := vsize_l hw; omega)
  exact this _ v (Nat.le_refl _)

mutual
def dep : V → Nat
  | .mk _ _ _ l => deps l + 1
def deps : List V → Nat
  | [] => 0
  | v :: l => max (dep v) (deps l)
end
theorem dep_eq (v : V) : dep v = deps v.l + 1 := by obtain ⟨k, n, s, l⟩ := v; rfl
theorem deps_append : ∀ (a b : List V), deps (a ++ b) = max (deps a) (deps b)
  | [], b => by simp [deps]
  | v :: a, b => by simp only [List.cons_append, deps, deps_append a b]; omega
theorem deps_take {l : List V} {i : Nat} (h : i < l.length) : deps (l.take (i + 1)) = max (deps (l.take i)) (dep l[i]) := by
  rw [List.take_add_one, List.getElem?_eq_getElem h, Option.toList_some, deps_append]; simp [deps]
theorem deps_le : ∀ {l : List V} {v : V}, v ∈ l → dep v ≤ deps l
  | w :: l, v, h => by
    simp only [deps]
    rcases List.mem_cons.1 h with rfl | h
    · omega
    · have := deps_le h; omega
theorem dep_le_size (v : V) : dep v ≤ vsize v := by
  have h : ∀ (l : List V), (∀ w ∈ l, dep w ≤ vsize w) → deps l ≤ vsizes l := by
    intro l
    induction l with
    | nil => intro _; simp [deps]
    | cons v l ih =>
      intro h
      have h1 := h v (List.mem_cons_self ..)
      have h2 := ih fun w hw => h w (List.mem_cons_of_mem _ hw)
      simp only [deps, vsizes]; omega
  refine V.rec_ (P := fun v => dep v ≤ vsize v) (fun v ih => ?_) v
  obtain ⟨k, n, s, l⟩ := v
  have := h l ih
  simp only [dep, vsize]; omega

def lowC (c : UInt8) : Bool := decide (97 ≤ c.toNat) && decide (c.toNat ≤ 122)
def nameC (c : UInt8) : Bool := lowC c || (decide (65 ≤ c.toNat) && decide (c.toNat ≤ 90)) || (decide (48 ≤ c.toNat) && decide (c.toNat ≤ 57)) || decide (c.toNat = 95)
def nameS (s : Str) : Bool := !s.isEmpty && decide (s.length ≤ 32) && lowC (s.headD 0) && s.all nameC
def digC (c : UInt8) : Bool := decide (48 ≤ c.toNat) && decide (c.toNat ≤ 57)
def cutD : Str → Option (Str × Str)
  | [] => none
  | c :: t => if c = 46 then some ([], t) else (cutD t).map fun p => (c :: p.1, p.2)
theorem cutD_at : ∀ (a b : Str), (46 : UInt8) ∉ a → cutD (a ++ 46 :: b) = some (a, b)
  | [], b, _ => by simp [cutD]
  | c :: a, b, h => by
    have h1 : c ≠ 46 := fun e => h (by rw [e]; exact List.mem_cons_self ..)
    simp only [List.cons_append, cutD, if_neg h1, cutD_at a b fun hh => h (List.mem_cons_of_mem _ hh)]; rfl
theorem cutD_no : ∀ (a : Str), (46 : UInt8) ∉ a → cutD a = none
  | [], _ => rfl
  | c :: a, h => by
    have h1 : c ≠ 46 := fun e => h (by rw [e]; exact List.mem_cons_self ..)
    simp only [cutD, if_neg h1, cutD_no a fun hh => h (List.mem_cons_of_mem _ hh)]; rfl
theorem cutD_mem : ∀ (s : Str), (46 : UInt8) ∈ s → ∃ a b, s = a ++ 46 :: b ∧ 46 ∉ a
  | c :: s, h => by
    by_cases hc : c = 46
    · exact ⟨[], s, by rw [hc]; rfl, by simp⟩
    · obtain ⟨a, b, h1, h2⟩ := cutD_mem s (by simpa [Ne.symm hc] using h)
      exact ⟨c :: a, b, by rw [h1]; rfl, by simp [h2, Ne.symm hc]⟩
def trueS : Str := [116, 114, 117, 101]
def falseS : Str := [102, 97, 108, 115, 101]
def namesS (s : Str) : Bool := if s = trueS ∨ s = falseS then false else match cutD s with
  | some (a, b) => nameS a && nameS b
  | none => nameS s
def unmin (s : Str) : Str := if s.head? = some 45 then s.tail else s
def numS (s : Str) : Bool := !(unmin s).isEmpty && (unmin s).all digC && !(decide ((unmin s).head? = some 48) && decide (s ≠ [48]))
def digits (s : Str) : Nat := (unmin s).length

def okN (k n : Int) (s : Str) (m : Nat) : Bool :=
  if k = 1 then (n == 0 || n == 1) && s.isEmpty && decide (m = 0)
  else if k = 2 then s.isEmpty && decide (m = 0)
  else if k = 3 then numS s && n == 0 && decide (m = 0)
  else if k = 4 then n == 0 && decide (m = 0)
  else if k = 5 then n == 0 && s.isEmpty && decide (m ≠ 1)
  else if k = 6 then n == 0 && namesS s
  else false
def fitN (k : Int) (s : Str) (m : Nat) : Bool :=
  if k = 3 then decide (digits s ≤ 200)
  else if k = 4 then decide (s.length ≤ 4096)
  else if k = 5 then decide (m ≤ 16)
  else if k = 6 then decide (m ≤ 8)
  else true
mutual
def formV : V → Bool
  | .mk k n s l => okN k n s l.length && formVs l
def formVs : List V → Bool
  | [] => true
  | v :: l => formV v && formVs l
end
mutual
def fitsV : V → Bool
  | .mk k n s l => fitN k s l.length && fitsVs l
def fitsVs : List V → Bool
  | [] => true
  | v :: l => fitsV v && fitsVs l
end
theorem formV_eq (v : V) : formV v = (okN v.k v.n v.s v.l.length && formVs v.l) := by obtain ⟨k, n, s, l⟩ := v; rfl
theorem fitsV_eq (v : V) : fitsV v = (fitN v.k v.s v.l.length && fitsVs v.l) := by obtain ⟨k, n, s, l⟩ := v; rfl
theorem formVs_append : ∀ (a b : List V), formVs (a ++ b) = (formVs a && formVs b)
  | [], b => by simp [formVs]
  | v :: a, b => by simp only [List.cons_append, formVs, formVs_append a b, Bool.and_assoc]
theorem fitsVs_append : ∀ (a b : List V), fitsVs (a ++ b) = (fitsVs a && fitsVs b)
  | [], b => by simp [fitsVs]
  | v :: a, b => by simp only [List.cons_append, fitsVs, fitsVs_append a b, Bool.and_assoc]
theorem formVs_take {l : List V} {i : Nat} (h : i < l.length) : formVs (l.take (i + 1)) = (formVs (l.take i) && formV l[i]) := by
  rw [List.take_add_one, List.getElem?_eq_getElem h, Option.toList_some, formVs_append]; simp [formVs]
theorem fitsVs_take {l : List V} {i : Nat} (h : i < l.length) : fitsVs (l.take (i + 1)) = (fitsVs (l.take i) && fitsV l[i]) := by
  rw [List.take_add_one, List.getElem?_eq_getElem h, Option.toList_some, fitsVs_append]; simp [fitsVs]
theorem formVs_false : ∀ {l : List V} {v : V}, v ∈ l → formV v = false → formVs l = false
  | w :: l, v, h, hv => by
    simp only [formVs]
    rcases List.mem_cons.1 h with rfl | h
    · rw [hv]; rfl
    · rw [formVs_false h hv, Bool.and_false]
theorem formVs_mem : ∀ {l : List V} {v : V}, v ∈ l → formVs l = true → formV v = true := fun h hl => by
  cases hv : formV _ with
  | true => rfl
  | false => rw [formVs_false h hv] at hl; cases hl
def checkV (v : V) : Int := if dep v > 64 then 65 else if formV v = false then 4 else if fitsV v = false then 40 else 0
def mayV (v : V) : Bool := decide (checkV v = 0)
theorem mayV_iff (v : V) : mayV v = true ↔ dep v ≤ 64 ∧ formV v = true ∧ fitsV v = true := by
  unfold mayV checkV
  rw [decide_eq_true_eq]
  by_cases h1 : dep v > 64
  · simp [h1]; omega
  · rw [if_neg h1]
    cases hf : formV v <;> cases hg : fitsV v <;> simp <;> omega

def sgn (a b : Int) : Int := if a < b then -1 else if b < a then 1 else 0
def vcmpS : Str → Str → Int
  | [], [] => 0
  | [], _ :: _ => -1
  | _ :: _, [] => 1
  | a :: s, b :: t => if a = b then vcmpS s t else sgn a.toNat b.toNat
/-- of whole numbers without their signs -/
def cmpD (a b : Str) : Int := if a.length = b.length then vcmpS a b else sgn a.length b.length
def isMin (s : Str) : Bool := decide (s.head? = some 45)
def cmpB (a b : Str) : Int := if isMin a then (if isMin b then cmpD b.tail a.tail else -1) else if isMin b then 1 else cmpD a b
mutual
def cmpV : V → V → Int
  | .mk k n s l, .mk k' n' s' l' =>
    if k ≠ k' then sgn k k'
    else if k = 3 then cmpB s s'
    else if k = 4 then vcmpS s s'
    else if k = 5 then cmpVs l l'
    else if k = 6 then (if vcmpS s s' ≠ 0 then vcmpS s s' else cmpVs l l')
    else sgn n n'
def cmpVs : List V → List V → Int
  | [], [] => 0
  | [], _ :: _ => -1
  | _ :: _, [] => 1
  | v :: l, w :: m => if cmpV v w ≠ 0 then cmpV v w else cmpVs l m
end
def lastB (a b : Bool) : Int := if a = b then 0 else if a then -1 else 1
def cmpA (v w : V) : Int := if mayV v = true ∧ mayV w = true then cmpV v w else lastB (mayV v) (mayV w)
def mayR (l : List V) : Bool := l.all mayV
def cmpR (l m : List V) : Int := if mayR l = true ∧ mayR m = true then cmpVs l m else lastB (mayR l) (mayR m)

end Sx
end

noncomputable section
set_option linter.unusedVariables false
set_option linter.unusedSimpArgs false
set_option maxRecDepth 10000
namespace Sx
open Go Go.Proofs
theorem flat_get {α β : Type} (f : α → List β) (z : Nat) (hz : ∀ x, (f x).length = z) : ∀ (l : List α) (i : Nat) (x : α), l[i]? = some x → ∀ (j : Nat) (v : β), (f x)[j]? = some v → (l.flatMap f)[i * z + j]? = some v
  | [], i, x, h, j, v, hv => by simp at h
  | y :: l, 0, x, h, j, v, hv => by
    simp at h; subst h
    rw [List.flatMap_cons, Nat.zero_mul, Nat.zero_add, List.getElem?_append_left (List.getElem?_eq_some_iff.1 hv).1]; exact hv
  | y :: l, i + 1, x, h, j, v, hv => by
    have := flat_get f z hz l i x (by simpa using h) j v hv
    rw [List.flatMap_cons, List.getElem?_append_right (by rw [hz, Nat.add_mul]; omega), hz]
    rw [show (i + 1) * z + j - z = i * z + j by rw [Nat.add_mul]; omega]; exact this

abbrev TV := T_api_Value
theorem TV.c_len (x : TV) : (T_api_Value.c x).length = 4 := rfl

mutual
def VIs (H : Heap) : V → TV → Prop
  | .mk k n s l, x => x.Kind = k ∧ x.N = n ∧ x.S = s ∧ ∃ xs : List TV, rdsl H x.L (xs.flatMap T_api_Value.c) ∧ x.L.len = xs.length ∧ VsAre H l xs
def VsAre (H : Heap) : List V → List TV → Prop
  | [], [] => True
  | v :: l, x :: xs => VIs H v x ∧ VsAre H l xs
  | [], _ :: _ => False
  | _ :: _, [] => False
end
/-- a row of values -/
def VRow (H : Heap) (t : Sl) (l : List V) : Prop := ∃ xs : List TV, rdsl H t (xs.flatMap T_api_Value.c) ∧ t.len = xs.length ∧ VsAre H l xs
theorem VIs_iff {H : Heap} {v : V} {x : TV} : VIs H v x ↔ x.Kind = v.k ∧ x.N = v.n ∧ x.S = v.s ∧ VRow H x.L v.l := by obtain ⟨k, n, s, l⟩ := v; rfl
theorem VsAre.len {H : Heap} : ∀ {l : List V} {xs : List TV}, VsAre H l xs → l.length = xs.length
  | [], [], _ => rfl
  | v :: l, x :: xs, h => by have := VsAre.len h.2; simp [this]
theorem VsAre.get {H : Heap} : ∀ {l : List V} {xs : List TV}, VsAre H l xs → ∀ (i : Nat) (v : V) (x : TV), l[i]? = some v → xs[i]? = some x → VIs H v x
  | [], [], _, i, v, x, h, _ => by simp at h
  | v :: l, x :: xs, h, 0, v', x', h1, h2 => by simp at h1 h2; subst h1; subst h2; exact h.1
  | v :: l, x :: xs, h, i + 1, v', x', h1, h2 => VsAre.get h.2 i v' x' (by simpa using h1) (by simpa using h2)
theorem VsAre.of {H : Heap} : ∀ {l : List V} {xs : List TV}, l.length = xs.length → (∀ (i : Nat) (v : V) (x : TV), l[i]? = some v → xs[i]? = some x → VIs H v x) → VsAre H l xs
  | [], [], _, _ => trivial
  | v :: l, x :: xs, h, hg => ⟨hg 0 v x rfl rfl, VsAre.of (by simpa using h) fun i v' x' h1 h2 => hg (i + 1) v' x' (by simpa using h1) (by simpa using h2)⟩
mutual
theorem VIs.le {A B : Heap} (h : A.le B) : ∀ {v : V} {x : TV}, VIs A v x → VIs B v x
  | .mk k n s l, x, ⟨h1, h2, h3, xs, h4, h5, h6⟩ => ⟨h1, h2, h3, xs, rdsl_le h h4, h5, VsAre.le h h6⟩
theorem VsAre.le {A B : Heap} (h : A.le B) : ∀ {l : List V} {xs : List TV}, VsAre A l xs → VsAre B l xs
  | [], [], _ => trivial
  | v :: l, x :: xs, ⟨h1, h2⟩ => ⟨VIs.le h h1, VsAre.le h h2⟩
end
theorem VRow.le {A B : Heap} {t : Sl} {l : List V} (h : VRow A t l) (hle : A.le B) : VRow B t l := by
  obtain ⟨xs, h1, h2, h3⟩ := h
  exact ⟨xs, rdsl_le hle h1, h2, h3.le hle⟩
theorem VRow.len {H : Heap} {t : Sl} {l : List V} (h : VRow H t l) : t.len = l.length := by
  obtain ⟨xs, h1, h2, h3⟩ := h
  rw [h2, h3.len]
theorem VIs.kind {H : Heap} {v : V} {x : TV} (h : VIs H v x) : x.Kind = v.k := (VIs_iff.1 h).1
theorem VIs.num {H : Heap} {v : V} {x : TV} (h : VIs H v x) : x.N = v.n := (VIs_iff.1 h).2.1
theorem VIs.txt {H : Heap} {v : V} {x : TV} (h : VIs H v x) : x.S = v.s := (VIs_iff.1 h).2.2.1
theorem VIs.row {H : Heap} {v : V} {x : TV} (h : VIs H v x) : VRow H x.L v.l := (VIs_iff.1 h).2.2.2

/-- one of a row's values -/
theorem VRow.ld {A H : Heap} {t : Sl} {l : List V} (h : VRow A t l) (hle : A.le H) {i : Nat} {x : Int} {K : TV → Prop} (hx : x = i) (hi : i < l.length) (k : ∀ y, VIs A l[i] y → K y) : ixa t x fun p => ldT H T_api_Value.c (p.1, p.2 + x.toNat * 4) K := by
  have hl := h.len
  obtain ⟨xs, h1, h2, h3⟩ := h
  have hi2 : i < xs.length := by omega
  have hg := List.getElem?_eq_getElem hi2
  subst hx
  refine ixa_of (rdsl_le hle h1) (by omega) (by omega) (fun e => ?_) fun p _ hp => ⟨xs[i], ?_, k _ (h3.get i _ _ (List.getElem?_eq_getElem hi) hg)⟩
  · have := flat_get T_api_Value.c 4 TV.c_len xs i _ hg 0 _ rfl
    rw [e] at this; simp at this
  · refine rds_of fun j v hj => ?_
    have := rds_get hp _ _ (flat_get T_api_Value.c 4 TV.c_len xs i _ hg j v hj)
    rw [show p.2 + (i : Int).toNat * 4 + j = p.2 + (i * 4 + j) by omega]; exact this

mutual
def VB : V → Prop
  | .mk k n s l => (0 ≤ k ∧ k ≤ 255) ∧ (-9223372036854775808 ≤ n ∧ n ≤ 9223372036854775807) ∧ s.length ≤ 140737488355328 ∧ l.length ≤ 140737488355328 ∧ VBs l
def VBs : List V → Prop
  | [] => True
  | v :: l => VB v ∧ VBs l
end
theorem VBs.mem : ∀ {l : List V}, VBs l → ∀ {v}, v ∈ l → VB v
  | w :: l, h, v, hv => by
    rcases List.mem_cons.1 hv with rfl | hv
    · exact h.1
    · exact VBs.mem h.2 hv
theorem VBs.of : ∀ {l : List V}, (∀ v ∈ l, VB v) → VBs l
  | [], _ => trivial
  | v :: l, h => ⟨h v (List.mem_cons_self ..), VBs.of fun w hw => h w (List.mem_cons_of_mem _ hw)⟩
theorem VB.k {v : V} (h : VB v) : 0 ≤ v.k ∧ v.k ≤ 255 := by obtain ⟨k, n, s, l⟩ := v; exact h.1
theorem VB.n {v : V} (h : VB v) : -9223372036854775808 ≤ v.n ∧ v.n ≤ 9223372036854775807 := by obtain ⟨k, n, s, l⟩ := v; exact h.2.1
theorem VB.s {v : V} (h : VB v) : v.s.length ≤ 140737488355328 := by obtain ⟨k, n, s, l⟩ := v; exact h.2.2.1
theorem VB.l {v : V} (h : VB v) : v.l.length ≤ 140737488355328 := by obtain ⟨k, n, s, l⟩ := v; exact h.2.2.2.1
theorem VB.ls {v : V} (h : VB v) : VBs v.l := by obtain ⟨k, n, s, l⟩ := v; exact h.2.2.2.2
theorem VB.at {v : V} (h : VB v) {i : Nat} (hi : i < v.l.length) : VB v.l[i] := h.ls.mem (List.getElem_mem hi)

section
variable {B : Heap} {b : Nat} {m : Bool} {x : TV}
theorem rd_box (h : B b = some (m, .row (T_api_Value.c x))) : rd B (b, 0) = some (.int .u8 x.Kind) ∧ rd B (b, 1) = some (.int .i64 x.N) ∧ rd B (b, 2) = some (sv x.S) ∧ rd B (b, 3) = some (slv x.L) :=
  ⟨by rw [rd_row h]; rfl, by rw [rd_row h]; rfl, by rw [rd_row h]; rfl, by rw [rd_row h]; rfl⟩
theorem bxK {K : Int → Prop} (h : B b = some (m, .row (T_api_Value.c x))) (k : K x.Kind) : ldI B .u8 ((b, 0).1, (b, 0).2 + 0) K := ⟨_, (rd_box h).1, k⟩
theorem bxN {K : Int → Prop} (h : B b = some (m, .row (T_api_Value.c x))) (k : K x.N) : ldI B .i64 ((b, 0).1, (b, 0).2 + 1) K := ⟨_, (rd_box h).2.1, k⟩
theorem bxS {K : Str → Prop} (h : B b = some (m, .row (T_api_Value.c x))) (k : K x.S) : ldS B ((b, 0).1, (b, 0).2 + 2) K := ⟨_, (rd_box h).2.2.1, k⟩
theorem bxL {K : Sl → Prop} (h : B b = some (m, .row (T_api_Value.c x))) (k : K x.L) : ldL B ((b, 0).1, (b, 0).2 + 3) K := ⟨_, (rd_box h).2.2.2, k⟩
theorem bxV {K : TV → Prop} (h : B b = some (m, .row (T_api_Value.c x))) (k : K x) : ldT B T_api_Value.c (b, 0) K := ⟨x, rds_row h fun j v hj => by simpa using hj, k⟩
end
section
variable {C : Ctx} {H : Heap}
theorem ref02_Depth_ok {v : V} {x : TV} {H : Heap} {K : Int → Heap → Prop} (hv : VIs H v x) (hB : VB v) (hs : vsize v ≤ 4611686018427387904) (k : K (dep v) H) : c_ref02_Depth C x K H := by
  refine V.rec_ (P := fun v => ∀ {x H} {K : Int → Heap → Prop}, VIs H v x → VB v → vsize v ≤ 4611686018427387904 → K (dep v) H → c_ref02_Depth C x K H) (fun v ih => ?_) v hv hB hs k
  clear hv hB hs k
  intro x H K hv hB hs k
  apply c_ref02_Depth.gh
  apply ad_ref02_Depth
  unfold sh_ref02_Depth
  intro b1 n1
  have hr := hv.row
  have hl := hr.len
  have hbl := hB.l
  have hds := dep_le_size v
  have hde := dep_eq v
  refine ⟨fun y H' => ∃ i : Nat, y = ((deps (v.l.take i) : Int), (i : Int)) ∧ i ≤ v.l.length ∧ (H.put b1 (.row (T_api_Value.c x))).le H', fun y _ => v.l.length - y.2.toNat, ⟨0, by simp [deps], Nat.zero_le _, Heap.le.refl _⟩, ?_⟩
  rintro _ H' ⟨i, rfl, hi, hle⟩
  have hb := hle _ _ (Heap.put_same ..)
  have hle0 := (Heap.le_put n1).trans hle
  refine bxL hb ?_
  rw [hl]
  refine ift.of (fun h => ?_) (fun h => ?_)
  · have hlt : i < v.l.length := by have := of_decide_eq_true h; dsimp only at this; omega
    have hmem := List.getElem_mem hlt
    have hsz := vsize_l hmem
    have hdl := deps_le hmem
    refine bxL hb ?_
    refine hr.ld hle0 rfl hlt fun y hy => ?_
    refine ih _ hmem (hy.le hle0) (hB.at hlt) (by omega) ?_
    have hdt := deps_take hlt
    dsimp only
    rw [w_i64 (by omega) (by omega)]
    refine ⟨⟨i + 1, ?_, by omega, hle⟩, by first | omega | (dsimp only; omega)⟩
    rw [hdt]
    refine Prod.ext ?_ rfl
    dsimp only
    split <;> omega
  · have hie : i = v.l.length := by have := of_decide_eq_false h; dsimp only at this; omega
    subst hie
    dsimp only
    rw [List.take_length, w_i64 (by omega) (by omega)]
    refine ⟨H, Gh.le hle0, ?_⟩
    rw [hde] at k; exact k

theorem value_depth_ok {v : V} {x : TV} {H : Heap} {m : Nat} {K : Int → Heap → Prop} (hv : VIs H v x) (hB : VB v) (hm : m ≤ 1000) (k : ∀ r : Nat, r ≤ m + 1 → r ≤ dep v → (r = dep v ∨ m + 1 ≤ r) → K r H) : c_value_depth C x m K H := by
  refine V.rec_ (P := fun v => ∀ {x H} {m : Nat} {K : Int → Heap → Prop}, VIs H v x → VB v → m ≤ 1000 → (∀ r : Nat, r ≤ m + 1 → r ≤ dep v → (r = dep v ∨ m + 1 ≤ r) → K r H) → c_value_depth C x m K H) (fun v ih => ?_) v hv hB hm k
  clear hv hB hm k m
  intro x H m K hv hB hm k
  apply c_value_depth.gh
  apply ad_value_depth
  unfold sh_value_depth
  intro b1 n1
  have hr := hv.row
  have hl := hr.len
  have hbl := hB.l
  have hde := dep_eq v
  have hb1 : (H.put b1 (.row (T_api_Value.c x))) b1 = some (true, .row (T_api_Value.c x)) := Heap.put_same ..
  refine ⟨fun y H' => H.le H' ∧ ∃ r : Nat, y = (r : Int) ∧ r ≤ m ∧ r ≤ deps v.l ∧ (r = deps v.l ∨ m ≤ r), ?_, ?_⟩
  rotate_left
  · rintro y H' ⟨hle, r, rfl, h0, h1, h2⟩
    rw [w_i64 (by omega) (by omega)]
    have := k (r + 1) (by omega) (by omega) (by omega)
    exact ⟨H, Gh.le hle, by simpa using this⟩
  refine bxL hb1 ?_
  refine ⟨fun y H' => ∃ i r : Nat, y = ((r : Int), (i : Int)) ∧ i ≤ v.l.length ∧ H.le H' ∧ r ≤ m ∧ r ≤ deps (v.l.take i) ∧ (r = deps (v.l.take i) ∨ m ≤ r), fun y _ => v.l.length - y.2.toNat, ⟨0, 0, rfl, Nat.zero_le _, Heap.le_put n1, Nat.zero_le _, Nat.zero_le _, .inl (by simp [deps])⟩, ?_⟩
  rintro _ H' ⟨i, r, rfl, hi, hle, hr0, hr1, hr2⟩
  have hdti : deps (v.l.take i) ≤ deps v.l := by
    have h1 := deps_append (v.l.take i) (v.l.drop i)
    rw [List.take_append_drop] at h1; omega
  dsimp only
  rw [hl]
  refine ift.of (fun h => ?_) (fun h => ?_)
  · have hlt : i < v.l.length := by have := of_decide_eq_true h; omega
    have hmem := List.getElem_mem hlt
    have hdl := deps_le hmem
    refine hr.ld hle rfl hlt fun y hy => ?_
    intro b20 n20
    refine ⟨_, Heap.put_same .., by simp [T_api_Value.c], ?_⟩
    rw [Heap.put_put]
    have esp : splice (T_api_Value.c T_api_Value.zero) (b20, 0).2 (T_api_Value.c y) = T_api_Value.c y := rfl
    rw [esp]
    have hle2 := hle.trans (Heap.le_put n20 (g := .row (T_api_Value.c y)) (m := true))
    refine ift.of (fun h => ?_) (fun h => ?_)
    · have hge : m ≤ r := by have := of_decide_eq_true h; omega
      exact ⟨hle2, r, rfl, by omega, by omega, .inr hge⟩
    · have hltm : r < m := by have := of_decide_eq_false h; omega
      refine bxV (Heap.put_same ..) ?_
      have em : w .i64 ((m : Int) - 1) = ((m - 1 : Nat) : Int) := by rw [w_i64 (by omega) (by omega)]; omega
      rw [em]
      refine ih _ hmem (hy.le hle2) (hB.at hlt) (by omega) fun q hq0 hq1 hq2 => ?_
      have hdt := deps_take hlt
      rw [w_i64 (by omega) (by omega)]
      refine ⟨⟨i + 1, max q r, ?_, by omega, hle2, by omega, by omega, ?_⟩, by first | omega | (dsimp only; omega)⟩
      · refine Prod.ext ?_ rfl
        dsimp only
        split <;> omega
      · rw [hdt]; omega
  · have hie : i = v.l.length := by have := of_decide_eq_false h; omega
    subst hie
    rw [List.take_length] at hr1 hr2
    exact ⟨hle, r, rfl, hr0, hr1, hr2⟩
end
end Sx
end

noncomputable section
set_option linter.unusedVariables false
set_option linter.unusedSimpArgs false
set_option maxRecDepth 10000
namespace Sx
open Go Go.Proofs
theorem u8eq (c : UInt8) (n : Nat) (hn : n < 256) : ((c.toNat : Int) == (n : Int)) = decide (c = UInt8.ofNat n) := by
  rw [Bool.eq_iff_iff]; simp only [decide_eq_true_eq, beq_iff_eq]
  constructor
  · intro h; exact UInt8.toNat_inj.1 (by rw [UInt8.toNat_ofNat']; omega)
  · rintro rfl; rw [UInt8.toNat_ofNat']; omega
theorem e48 (c : UInt8) : ((c.toNat : Int) == 48) = decide (c = 48) := u8eq c 48 (by omega)
theorem e45 (c : UInt8) : ((c.toNat : Int) == 45) = decide (c = 45) := u8eq c 45 (by omega)
theorem e46 (c : UInt8) : ((c.toNat : Int) == 46) = decide (c = 46) := u8eq c 46 (by omega)

theorem all_take {α : Type} {p : α → Bool} {s : List α} {i : Nat} (h : i < s.length) : (s.take (i + 1)).all p = ((s.take i).all p && p s[i]) := by
  rw [List.take_add_one, List.getElem?_eq_getElem h, Option.toList_some, List.all_append]; simp
theorem all_no {α : Type} {p : α → Bool} {s : List α} {x : α} (h : x ∈ s) (hp : p x = false) : s.all p = false := by
  rw [List.all_eq_false]; exact ⟨x, h, by simp [hp]⟩
theorem getE {s : Str} {i : Nat} (h : i < s.length) : s[((i : Nat) : Int).toNat]? = some s[i] := by simp [h]
theorem getL {s : Str} (h : 0 < s.length) {x : Int} (hx : x = (s.length : Int) - 1) : s[x.toNat]? = some (s.getLast (List.ne_nil_of_length_pos h)) := by
  subst hx
  have : ((s.length : Int) - 1).toNat = s.length - 1 := by omega
  rw [this, List.getElem?_eq_getElem (by omega), List.getLast_eq_getElem]

section
variable {C : Ctx} {H : Heap}
theorem letter_ok {c : UInt8} {K : Bool → Heap → Prop} (k : K (lowC c) H) : c_ref02_letter C (c.toNat : Int) K H := by
  apply ad_ref02_letter
  unfold sh_ref02_letter
  have : (decide ((c.toNat : Int) ≥ 97) && decide ((c.toNat : Int) ≤ 122)) = lowC c := by
    unfold lowC
    rw [Bool.eq_iff_iff]; simp only [Bool.and_eq_true, decide_eq_true_eq]; omega
  rw [this]; exact k

theorem ref02_Name_ok {s : Str} {K : Bool → Heap → Prop} (hs : s.length ≤ 140737488355328) (k : K (nameS s) H) : c_ref02_Name C s K H := by
  apply ad_ref02_Name
  unfold sh_ref02_Name
  refine ⟨fun b H' => H = H' ∧ b = (s.isEmpty || decide (s.length > 32) || !lowC (s.headD 0)), ?_, ?_⟩
  · refine ift.of (fun h => ⟨rfl, ?_⟩) (fun h => ?_)
    · simp only [Bool.or_eq_true, decide_eq_true_eq, beq_iff_eq] at h
      rcases h with rfl | h
      · rfl
      · have : decide (s.length > 32) = true := by rw [decide_eq_true_eq]; omega
        rw [this]; simp
    · cases s with
      | nil => simp at h
      | cons c t =>
        refine ⟨c, by omega, rfl, ?_⟩
        refine letter_ok ⟨rfl, ?_⟩
        simp only [Bool.or_eq_false_iff, decide_eq_false_iff_not] at h
        have : decide ((c :: t).length > 32) = false := by rw [decide_eq_false_iff_not]; omega
        rw [this]; rfl
  rintro b _ ⟨rfl, rfl⟩
  refine ift.of (fun h => ?_) (fun h => ?_)
  · have : nameS s = false := by
      unfold nameS
      simp only [Bool.or_eq_true, decide_eq_true_eq, Bool.not_eq_true'] at h
      rcases h with (h | h) | h
      · rw [h]; rfl
      · have : decide (s.length ≤ 32) = false := by rw [decide_eq_false_iff_not]; omega
        rw [this]; simp
      · rw [h]; simp
    rw [this] at k; exact k
  have hn : nameS s = s.all nameC := by
    unfold nameS
    simp only [Bool.or_eq_false_iff, decide_eq_false_iff_not, Bool.not_eq_false'] at h
    have : decide (s.length ≤ 32) = true := by rw [decide_eq_true_eq]; omega
    rw [h.1.1, this, h.2]; simp
  refine ⟨fun x H' => ∃ i : Nat, x = (i : Int) ∧ i ≤ s.length ∧ H = H' ∧ (s.take i).all nameC = true, fun x _ => s.length - x.toNat, ⟨0, rfl, Nat.zero_le _, rfl, rfl⟩, ?_⟩
  rintro x _ ⟨i, rfl, hi, rfl, ha⟩
  refine ift.of (fun h => ?_) (fun h => ?_)
  · have hlt : i < s.length := by have := of_decide_eq_true h; omega
    refine ⟨s[i], by omega, getE hlt, ?_⟩
    dsimp only
    have hm := List.getElem_mem hlt
    have hat := all_take (p := nameC) hlt
    generalize s[i] = c at *
    refine letter_ok ?_
    have e : ((((!lowC c) && (!((decide ((c.toNat : Int) ≥ 65)) && (decide ((c.toNat : Int) ≤ 90))))) && (!((decide ((c.toNat : Int) ≥ 48)) && (decide ((c.toNat : Int) ≤ 57))))) && ((c.toNat : Int) != 95)) = !nameC c := by
      unfold nameC
      have h1 : decide ((c.toNat : Int) ≥ 65) = decide (65 ≤ c.toNat) := by rw [decide_eq_decide]; omega
      have h2 : decide ((c.toNat : Int) ≤ 90) = decide (c.toNat ≤ 90) := by rw [decide_eq_decide]; omega
      have h3 : decide ((c.toNat : Int) ≥ 48) = decide (48 ≤ c.toNat) := by rw [decide_eq_decide]; omega
      have h4 : decide ((c.toNat : Int) ≤ 57) = decide (c.toNat ≤ 57) := by rw [decide_eq_decide]; omega
      have h5 : ((c.toNat : Int) != 95) = !decide (c.toNat = 95) := by
        rw [Bool.eq_iff_iff]; simp only [bne_iff_ne, ne_eq, Bool.not_eq_true', decide_eq_false_iff_not]; omega
      rw [h1, h2, h3, h4, h5]; simp only [Bool.not_or]
    rw [e]
    refine ift.of (fun h => ?_) (fun h => ?_)
    · rw [hn, all_no hm (by simpa using h)] at k; exact k
    · rw [w_i64 (by omega) (by omega)]
      refine ⟨⟨i + 1, by omega, by omega, rfl, ?_⟩, by first | omega | (dsimp only; omega)⟩
      rw [hat, ha]; simpa using h
  · have hie : i = s.length := by have := of_decide_eq_false h; omega
    rw [hie, List.take_length] at ha
    rw [hn, ha] at k; exact k

theorem value_name_ok {s : Str} {K : Bool → Heap → Prop} (hs : s.length ≤ 140737488355328) (k : K (nameS s) H) : c_value_name C s K H := by
  apply ad_value_name
  unfold sh_value_name
  refine ⟨fun b H' => H = H' ∧ b = (s.isEmpty || decide (s.length > 32) || decide ((s.headD 0).toNat < 97)), ?_, ?_⟩
  · refine ift.of (fun h => ⟨rfl, ?_⟩) (fun h => ?_)
    · simp only [Bool.or_eq_true, decide_eq_true_eq, beq_iff_eq] at h
      rcases h with rfl | h
      · rfl
      · have : decide (s.length > 32) = true := by rw [decide_eq_true_eq]; omega
        rw [this]; simp
    · cases s with
      | nil => simp at h
      | cons c t =>
        refine ⟨c, by omega, rfl, rfl, ?_⟩
        simp only [Bool.or_eq_false_iff, decide_eq_false_iff_not] at h
        have : decide ((c :: t).length > 32) = false := by rw [decide_eq_false_iff_not]; omega
        rw [this]
        simp only [List.isEmpty_cons, Bool.false_or, List.headD_cons]
        exact (decide_eq_decide.2 (by omega) : decide ((c.toNat : Int) < 97) = decide (c.toNat < 97))
  rintro b _ ⟨rfl, rfl⟩
  refine ⟨fun b H' => H = H' ∧ b = (s.isEmpty || decide (s.length > 32) || !lowC (s.headD 0)), ?_, ?_⟩
  · refine ift.of (fun h => ⟨rfl, ?_⟩) (fun h => ?_)
    · simp only [Bool.or_eq_true, decide_eq_true_eq] at h
      rcases h with (h | h) | h
      · rw [h]; rfl
      · have : decide (s.length > 32) = true := by rw [decide_eq_true_eq]; omega
        rw [this]; simp
      · have : lowC (s.headD 0) = false := by unfold lowC; rw [decide_eq_false (by omega)]; rfl
        rw [this]; simp
    · simp only [Bool.or_eq_false_iff, decide_eq_false_iff_not] at h
      cases s with
      | nil => simp at h
      | cons c t =>
        refine ⟨c, by omega, rfl, rfl, ?_⟩
        have : decide ((c :: t).length > 32) = false := by rw [decide_eq_false_iff_not]; omega
        rw [this]
        simp only [List.isEmpty_cons, Bool.false_or, List.headD_cons] at h ⊢
        unfold lowC
        rw [decide_eq_true (by omega : 97 ≤ c.toNat), Bool.true_and, ← decide_not, decide_eq_decide]; omega
  rintro b _ ⟨rfl, rfl⟩
  refine ift.of (fun h => ?_) (fun h => ?_)
  · have : nameS s = false := by
      unfold nameS
      simp only [Bool.or_eq_true, decide_eq_true_eq, Bool.not_eq_true'] at h
      rcases h with (h | h) | h
      · rw [h]; rfl
      · have : decide (s.length ≤ 32) = false := by rw [decide_eq_false_iff_not]; omega
        rw [this]; simp
      · rw [h]; simp
    rw [this] at k; exact k
  have hn : nameS s = s.all nameC := by
    unfold nameS
    simp only [Bool.or_eq_false_iff, decide_eq_false_iff_not, Bool.not_eq_false'] at h
    have : decide (s.length ≤ 32) = true := by rw [decide_eq_true_eq]; omega
    rw [h.1.1, this, h.2]; simp
  refine ⟨fun x H' => ∃ i : Nat, x = (i : Int) ∧ i ≤ s.length ∧ H = H' ∧ (s.take i).all nameC = true, fun x _ => s.length - x.toNat, ⟨0, rfl, Nat.zero_le _, rfl, rfl⟩, ?_⟩
  rintro x _ ⟨i, rfl, hi, rfl, ha⟩
  refine ift.of (fun h => ?_) (fun h => ?_)
  · have hlt : i < s.length := by have := of_decide_eq_true h; omega
    refine ⟨s[i], by omega, getE hlt, ?_⟩
    dsimp only
    have hm := List.getElem_mem hlt
    have hat := all_take (p := nameC) hlt
    generalize s[i] = c at *
    have e : (!(((((decide ((c.toNat : Int) ≥ 97)) && (decide ((c.toNat : Int) ≤ 122))) || ((decide ((c.toNat : Int) ≥ 65)) && (decide ((c.toNat : Int) ≤ 90)))) || ((decide ((c.toNat : Int) ≥ 48)) && (decide ((c.toNat : Int) ≤ 57)))) || ((c.toNat : Int) == 95))) = !nameC c := by
      unfold nameC lowC
      have h0 : decide ((c.toNat : Int) ≥ 97) = decide (97 ≤ c.toNat) := by rw [decide_eq_decide]; omega
      have h01 : decide ((c.toNat : Int) ≤ 122) = decide (c.toNat ≤ 122) := by rw [decide_eq_decide]; omega
      have h1 : decide ((c.toNat : Int) ≥ 65) = decide (65 ≤ c.toNat) := by rw [decide_eq_decide]; omega
      have h2 : decide ((c.toNat : Int) ≤ 90) = decide (c.toNat ≤ 90) := by rw [decide_eq_decide]; omega
      have h3 : decide ((c.toNat : Int) ≥ 48) = decide (48 ≤ c.toNat) := by rw [decide_eq_decide]; omega
      have h4 : decide ((c.toNat : Int) ≤ 57) = decide (c.toNat ≤ 57) := by rw [decide_eq_decide]; omega
      have h5 : ((c.toNat : Int) == 95) = decide (c.toNat = 95) := by
        rw [Bool.eq_iff_iff]; simp only [beq_iff_eq, decide_eq_true_eq]; omega
      rw [h0, h01, h1, h2, h3, h4, h5]
    rw [e]
    refine ift.of (fun h => ?_) (fun h => ?_)
    · rw [hn, all_no hm (by simpa using h)] at k; exact k
    · rw [w_i64 (by omega) (by omega)]
      refine ⟨⟨i + 1, by omega, by omega, rfl, ?_⟩, by first | omega | (dsimp only; omega)⟩
      rw [hat, ha]; simpa using h
  · have hie : i = s.length := by have := of_decide_eq_false h; omega
    rw [hie, List.take_length] at ha
    rw [hn, ha] at k; exact k

theorem take_no {s : Str} {i : Nat} (h : i < s.length) (h1 : (46 : UInt8) ∉ s.take i) (h2 : s[i] ≠ 46) : (46 : UInt8) ∉ s.take (i + 1) := by
  rw [List.take_add_one, List.getElem?_eq_getElem h, Option.toList_some, List.mem_append]
  rintro (hh | hh)
  · exact h1 hh
  · exact h2 (List.mem_singleton.1 hh).symm
theorem split_at {s : Str} {i : Nat} (h : i < s.length) : s = s.take i ++ s[i] :: s.drop (i + 1) := by
  rw [← List.drop_eq_getElem_cons h, List.take_append_drop]

theorem ref02_Names_ok {s : Str} {K : Bool → Heap → Prop} (hs : s.length ≤ 140737488355328) (k : K (namesS s) H) : c_ref02_Names C s K H := by
  apply ad_ref02_Names
  unfold sh_ref02_Names
  unfold namesS at k
  refine ift.of (fun h => ?_) (fun h => ?_)
  · simp only [Bool.or_eq_true, beq_iff_eq] at h
    rw [if_pos (show s = trueS ∨ s = falseS from h)] at k; exact k
  simp only [Bool.or_eq_false_iff, beq_eq_false_iff_ne, ne_eq] at h
  rw [if_neg (show ¬ (s = trueS ∨ s = falseS) from fun hh => hh.elim h.1 h.2)] at k
  refine ⟨fun x H' => ∃ i : Nat, x = (i : Int) ∧ i ≤ s.length ∧ H = H' ∧ (46 : UInt8) ∉ s.take i, fun x _ => s.length - x.toNat, ⟨0, rfl, Nat.zero_le _, rfl, by simp⟩, ?_⟩
  rintro x _ ⟨i, rfl, hi, rfl, hno⟩
  refine ift.of (fun h => ?_) (fun h => ?_)
  · have hlt : i < s.length := by have := of_decide_eq_true h; omega
    refine ⟨s[i], by omega, getE hlt, ?_⟩
    dsimp only
    rw [e46]
    refine ift.of (fun h => ?_) (fun h => ?_)
    · have hc : s[i] = 46 := of_decide_eq_true h
      have hsp := split_at hlt
      rw [hc] at hsp
      have hcut := cutD_at (s.take i) (s.drop (i + 1)) hno
      rw [← hsp] at hcut
      rw [hcut] at k
      dsimp only at k
      refine ⟨by omega, by omega, by omega, _, rfl, ?_⟩
      have e1 : (s.take ((i : Int)).toNat).drop (0 : Int).toNat = s.take i := by simp
      rw [e1]
      refine ref02_Name_ok (by simp; omega) ?_
      refine ⟨fun b H' => H = H' ∧ b = (nameS (s.take i) && nameS (s.drop (i + 1))), ?_, ?_⟩
      · refine ift.of (fun h => ?_) (fun h => ⟨rfl, by rw [h]; rfl⟩)
        rw [w_i64 (by omega) (by omega)]
        refine ⟨by omega, by omega, by omega, _, rfl, ?_⟩
        have e2 : (s.take ((s.length : Int)).toNat).drop ((i : Int) + 1).toNat = s.drop (i + 1) := by
          have : ((i : Int) + 1).toNat = i + 1 := by omega
          rw [this]; simp
        rw [e2]
        exact ref02_Name_ok (by simp; omega) ⟨rfl, by rw [h]; rfl⟩
      · rintro b _ ⟨rfl, rfl⟩
        exact k
    · have hc : s[i] ≠ 46 := of_decide_eq_false h
      rw [w_i64 (by omega) (by omega)]
      exact ⟨⟨i + 1, by omega, by omega, rfl, take_no hlt hno hc⟩, by first | omega | (dsimp only; omega)⟩
  · have hie : i = s.length := by have := of_decide_eq_false h; omega
    rw [hie, List.take_length] at hno
    rw [cutD_no s hno] at k
    exact ref02_Name_ok hs k

def numT (t : Str) : Bool := !t.isEmpty && !(decide (t.length > 1) && decide (t.head? = some 48)) && t.all digC
theorem numS_min {c : UInt8} {t : Str} : numS (45 :: c :: t) = if c = 48 then false else numT (c :: t) := by
  unfold numS numT unmin
  by_cases h : c = 48
  · subst h; simp
  · simp [h]
theorem numS_no {s : Str} (h : ¬ (s.length > 1 ∧ s.head? = some 45)) : numS s = numT s := by
  unfold numS numT unmin
  cases s with
  | nil => rfl
  | cons c t =>
    by_cases hc : c = 45
    · subst hc
      have : t = [] := by cases t with
        | nil => rfl
        | cons d u => exact absurd ⟨by simp, rfl⟩ h
      subst this; decide
    · simp only [List.head?_cons, Option.some.injEq, hc, if_false]
      by_cases h8 : c = 48
      · subst h8
        cases t with
        | nil => decide
        | cons d u => simp
      · simp [h8]

theorem ref02_Number_ok {s : Str} {K : Bool → Heap → Prop} (hs : s.length ≤ 140737488355328) (k : K (numS s) H) : c_ref02_Number C s K H := by
  apply ad_ref02_Number
  unfold sh_ref02_Number
  refine ⟨fun x H' => H = H' ∧ x.length ≤ s.length ∧ numT x = numS s, ?_, ?_⟩
  · refine ⟨fun b H' => H = H' ∧ b = decide (s.length > 1 ∧ s.head? = some 45), ?_, ?_⟩
    · refine ift.of (fun h => ?_) (fun h => ⟨rfl, ?_⟩)
      · have h1 : s.length > 1 := by have := of_decide_eq_true h; omega
        cases s with
        | nil => simp at h1
        | cons c t =>
          refine ⟨c, by omega, rfl, rfl, ?_⟩
          rw [e45, decide_eq_decide]
          simp at h1 ⊢
          exact fun _ => h1
      · have h1 := of_decide_eq_false h
        rw [eq_comm, decide_eq_false_iff_not]; omega
    rintro b _ ⟨rfl, rfl⟩
    refine ift.of (fun h => ?_) (fun h => ?_)
    · obtain ⟨h1, h2⟩ := of_decide_eq_true h
      cases s with
      | nil => simp at h1
      | cons c0 t0 =>
      obtain rfl : c0 = 45 := by simpa using h2
      cases t0 with
      | nil => simp at h1
      | cons c t =>
      refine ⟨by omega, by simp; omega, by omega, c :: t, ?_, ?_⟩
      · rw [List.take_of_length_le (by omega)]; rfl
      · refine ⟨c, by omega, rfl, ?_⟩
        dsimp only
        rw [e48]
        rw [numS_min] at k
        refine ift.of (fun h => ?_) (fun h => ?_)
        · rw [if_pos (of_decide_eq_true h)] at k; exact k
        · refine ⟨rfl, by simp, ?_⟩
          rw [numS_min, if_neg (of_decide_eq_false h)]
    · exact ⟨rfl, Nat.le_refl _, (numS_no (of_decide_eq_false h)).symm⟩
  rintro x _ ⟨rfl, hxl, hx⟩
  rw [← hx] at k
  clear hx
  refine ⟨fun b H' => H = H' ∧ b = (x.isEmpty || (decide (x.length > 1) && decide (x.head? = some 48))), ?_, ?_⟩
  · refine ift.of (fun h => ⟨rfl, ?_⟩) (fun h => ?_)
    · have : x = [] := by simpa using h
      subst this; rfl
    · refine ⟨fun b H' => H = H' ∧ b = (decide (x.length > 1) && decide (x.head? = some 48)), ?_, ?_⟩
      · refine ift.of (fun h => ?_) (fun h => ⟨rfl, ?_⟩)
        · have h1 : x.length > 1 := by have := of_decide_eq_true h; omega
          rw [decide_eq_true h1]
          cases x with
          | nil => simp at h1
          | cons c t => exact ⟨c, by omega, rfl, rfl, by rw [e48]; simp⟩
        · have h1 := of_decide_eq_false h
          rw [decide_eq_false (by omega)]; rfl
      · rintro b _ ⟨rfl, rfl⟩
        have : x.isEmpty = false := by cases x with
          | nil => simp at h
          | cons c t => rfl
        rw [this]; exact ⟨rfl, rfl⟩
  rintro b _ ⟨rfl, rfl⟩
  have hnt : numT x = (!(x.isEmpty || (decide (x.length > 1) && decide (x.head? = some 48))) && x.all digC) := by unfold numT; simp [Bool.not_or]
  refine ift.of (fun h => ?_) (fun h => ?_)
  · rw [hnt, h] at k; exact k
  rw [hnt, h, Bool.not_false, Bool.true_and] at k
  refine ⟨fun y H' => ∃ i : Nat, y = (i : Int) ∧ i ≤ x.length ∧ H = H' ∧ (x.take i).all digC = true, fun y _ => x.length - y.toNat, ⟨0, rfl, Nat.zero_le _, rfl, rfl⟩, ?_⟩
  rintro y _ ⟨i, rfl, hi, rfl, ha⟩
  refine ift.of (fun h => ?_) (fun h => ?_)
  · have hlt : i < x.length := by have := of_decide_eq_true h; omega
    have hm := List.getElem_mem hlt
    have hat := all_take (p := digC) hlt
    have hge := getE hlt
    generalize x[i] = c at *
    refine ⟨c, by omega, hge, ?_⟩
    refine ⟨fun b H' => H = H' ∧ b = !digC c, ?_, ?_⟩
    · refine ift.of (fun h => ⟨rfl, ?_⟩) (fun h => ?_)
      · have h1 := of_decide_eq_true h
        unfold digC; rw [decide_eq_false (by omega)]; rfl
      · have h1 := of_decide_eq_false h
        refine ⟨c, by omega, hge, rfl, ?_⟩
        unfold digC; rw [decide_eq_true (by omega : 48 ≤ c.toNat), Bool.true_and, ← decide_not, decide_eq_decide]; omega
    rintro b _ ⟨rfl, rfl⟩
    refine ift.of (fun h => ?_) (fun h => ?_)
    · rw [all_no hm (by simpa using h)] at k; exact k
    · rw [w_i64 (by omega) (by omega)]
      refine ⟨⟨i + 1, by omega, by omega, rfl, ?_⟩, by first | omega | (dsimp only; omega)⟩
      rw [hat, ha]; simpa using h
  · have hie : i = x.length := by have := of_decide_eq_false h; omega
    rw [hie, List.take_length] at ha
    rw [ha] at k; exact k

theorem ref02_Digits_ok {s : Str} {K : Int → Heap → Prop} (hs : s.length ≤ 140737488355328) (hn : numS s = true) (k : K (digits s) H) : c_ref02_Digits C s K H := by
  apply ad_ref02_Digits
  unfold sh_ref02_Digits
  cases s with
  | nil => simp [numS, unmin] at hn
  | cons c t =>
    refine ⟨c, by omega, rfl, ?_⟩
    dsimp only
    rw [e45]
    unfold digits unmin at k
    refine ift.of (fun h => ?_) (fun h => ?_)
    · have hc : c = 45 := of_decide_eq_true h
      rw [if_pos (by rw [hc]; rfl)] at k
      simp at hs
      rw [w_i64 (by simp only [List.length_cons]; omega) (by simp only [List.length_cons]; omega)]
      simpa using k
    · rw [if_neg (by simpa using of_decide_eq_false h)] at k; exact k
end
end Sx
end

noncomputable section
set_option linter.unusedVariables false
set_option linter.unusedSimpArgs false
set_option maxRecDepth 10000
namespace Sx
open Go Go.Proofs
theorem index_spec (c : UInt8) : ∀ s : Str, (Lib.indexByte s c = -1 ∧ c ∉ s) ∨ ∃ k : Nat, Lib.indexByte s c = (k : Int) ∧ ∃ a b, s = a ++ c :: b ∧ a.length = k ∧ c ∉ a
  | [] => .inl ⟨rfl, by simp⟩
  | b :: s => by
    unfold Lib.indexByte
    by_cases h : b = c
    · subst h
      exact .inr ⟨0, by simp, [], s, rfl, rfl, by simp⟩
    · have hb : (b == c) = false := by simpa using h
      rw [hb]
      rcases index_spec c s with ⟨h1, h2⟩ | ⟨k, h1, a, d, h2, h3, h4⟩
      · left
        rw [h1]
        refine ⟨by simp, by simp [h2, Ne.symm h]⟩
      · right
        refine ⟨k + 1, ?_, b :: a, d, by rw [h2]; rfl, by simp [h3], by simp [h4, Ne.symm h]⟩
        rw [h1]
        have : ((k : Int) == -1) = false := by rw [beq_eq_false_iff_ne]; omega
        simp [this]

def setD (cs : List Value) (l : Str) : List Value := l.foldl (fun cs c => cs.set c.toNat (.bool true)) cs
def setD0 : List Value := List.replicate 256 (.bool false)
def digS : Str := [48, 49, 50, 51, 52, 53, 54, 55, 56, 57]
theorem setD_len (l : Str) : ∀ cs, (setD cs l).length = cs.length := by
  induction l with
  | nil => intro cs; rfl
  | cons c l ih => intro cs; simp only [setD, List.foldl_cons] at ih ⊢; rw [ih]; simp
theorem setD_snoc (l : Str) (c : UInt8) (cs : List Value) : setD cs (l ++ [c]) = (setD cs l).set c.toNat (.bool true) := by simp [setD]
theorem setD_b (l : Str) : ∀ cs : List Value, cs.all Value.oneCell' = true → (setD cs l).all Value.oneCell' = true := by
  induction l with
  | nil => intro cs h; exact h
  | cons c l ih =>
    intro cs h
    simp only [setD, List.foldl_cons] at ih ⊢
    refine ih _ ?_
    rw [List.all_eq_true] at h ⊢
    intro x hx
    rcases List.mem_or_eq_of_mem_set hx with hx | rfl
    · exact h x hx
    · rfl
theorem setD_get : ∀ n : Nat, n < 256 → (match (setD setD0 digS)[n]? with | some (.bool b) => b == (decide (48 ≤ n) && decide (n ≤ 57)) | _ => false) = true := by decide +kernel
theorem setD_dig (c : UInt8) : (setD setD0 digS)[c.toNat]? = some (.bool (digC c)) := by
  have h := setD_get c.toNat c.toBitVec.isLt
  unfold digC
  generalize (setD setD0 digS)[c.toNat]? = o at *
  cases o with
  | none => simp at h
  | some v => cases v <;> simp at h ⊢; exact h

section
variable {C : Ctx} {H : Heap}
theorem hasPrefix_ok {s p : Str} {K : Bool → Heap → Prop} (k : K (p.isPrefixOf s) H) : c_internal_stringslite_HasPrefix C s p K H := by
  apply ad_internal_stringslite_HasPrefix
  unfold sh_internal_stringslite_HasPrefix
  refine ⟨fun b H' => H = H' ∧ b = p.isPrefixOf s, ?_, ?_⟩
  · refine ift.of (fun h => ?_) (fun h => ⟨rfl, ?_⟩)
    · have hl : p.length ≤ s.length := by have := of_decide_eq_true h; omega
      refine ⟨by omega, by omega, by omega, s.take p.length, by simp, rfl, ?_⟩
      rw [Bool.eq_iff_iff, List.isPrefixOf_iff_prefix, beq_iff_eq, List.prefix_iff_eq_take]
      exact ⟨fun h => h.symm, fun h => h.symm⟩
    · have hl := of_decide_eq_false h
      cases hh : p.isPrefixOf s with
      | false => rfl
      | true =>
        have := (List.isPrefixOf_iff_prefix.1 hh).length_le
        omega
  · rintro b _ ⟨rfl, rfl⟩
    exact k
theorem trimPrefix_ok {s p : Str} {K : Str → Heap → Prop} (k : K (if p.isPrefixOf s then s.drop p.length else s) H) : c_strings_TrimPrefix C s p K H := by
  apply ad_strings_TrimPrefix
  unfold sh_strings_TrimPrefix
  apply ad_internal_stringslite_TrimPrefix
  unfold sh_internal_stringslite_TrimPrefix
  refine hasPrefix_ok ?_
  refine ift.of (fun h => ?_) (fun h => ?_)
  · rw [if_pos h] at k
    have := (List.isPrefixOf_iff_prefix.1 h).length_le
    exact ⟨by omega, by omega, by omega, _, by simp, k⟩
  · rw [if_neg (by rw [h]; decide)] at k; exact k

theorem cutDot_ok {s : Str} {K : Str → Str → Bool → Heap → Prop} (hs : s.length ≤ 140737488355328) (k : match cutD s with | some (a, b) => K a b true H | none => K s [] false H) : c_strings_Cut C s [46] K H := by
  apply ad_strings_Cut
  unfold sh_strings_Cut
  apply ad_internal_stringslite_Cut
  unfold sh_internal_stringslite_Cut
  have key : ∀ {K : Int → Heap → Prop}, K (Lib.indexByte s 46) H → c_internal_stringslite_Index C s [46] K H := by
    intro K k
    apply ad_internal_stringslite_Index
    unfold sh_internal_stringslite_Index
    refine ift.of (fun h => ?_) (fun h => ?_)
    · have hs : [46] = s := by simpa using h
      subst hs
      exact k
    · refine ift_pos rfl ⟨46, by omega, rfl, ?_⟩
      apply ad_internal_stringslite_IndexByte
      unfold sh_internal_stringslite_IndexByte
      exact k
  refine key ?_
  rcases index_spec 46 s with ⟨h1, h2⟩ | ⟨i, h1, a, b, h2, h3, h4⟩
  · rw [h1]
    rw [cutD_no s h2] at k
    exact ift_neg rfl k
  · rw [h1]
    subst h2
    rw [cutD_at a b h4] at k
    subst h3
    simp only [List.length_append, List.length_cons] at hs
    refine ift_pos (by rw [decide_eq_true_eq]; omega) ?_
    refine ⟨by omega, by omega, by simp; omega, a, by simp, ?_⟩
    have e1 : (([46] : Str).length : Int) = 1 := rfl
    rw [e1, w_i64 (by omega) (by omega)]
    refine ⟨by omega, by simp; omega, by omega, b, ?_, k⟩
    have e2 : ((a.length : Int) + 1).toNat = a.length + 1 := by omega
    rw [List.take_of_length_le (by omega), e2, List.drop_append]
    simp

/-- the set of digits -/
def DSet (H : Heap) (b : Nat) : Prop := H b = some (true, .row (setD setD0 digS))
theorem contains_ok {b : Nat} {c : UInt8} {K : Bool → Heap → Prop} (h : DSet H b) (k : K (digC c) H) : c_strings_asciiSet_contains C (some (b, 0)) (c.toNat : Int) K H := by
  apply ad_strings_asciiSet_contains
  unfold sh_strings_asciiSet_contains
  refine ⟨(b, 0), rfl, by omega, by have := c.toBitVec.isLt; have : c.toNat < 256 := this; omega, digC c, ?_, k⟩
  rw [rd_row h]
  have := setD_dig c
  simpa using this
theorem trimR_ok {b : Nat} {s : Str} {K : Str → Heap → Prop} (hs : s.length ≤ 140737488355328) (h : DSet H b) (k : ∀ t, t.length ≤ s.length → t.all digC = s.all digC → K t H) : c_strings_trimRightASCII C s (some (b, 0)) K H := by
  apply ad_strings_trimRightASCII
  unfold sh_strings_trimRightASCII
  refine ⟨fun t H' => H = H' ∧ t.length ≤ s.length ∧ t.all digC = s.all digC, ?_, ?_⟩
  rotate_left
  · rintro t _ ⟨rfl, h1, h2⟩
    exact k t h1 h2
  refine ⟨fun t H' => H = H' ∧ t.length ≤ s.length ∧ t.all digC = s.all digC, fun t _ => t.length, ⟨rfl, Nat.le_refl _, rfl⟩, ?_⟩
  rintro t _ ⟨rfl, h1, h2⟩
  refine ift.of (fun hh => ?_) (fun hh => ⟨rfl, h1, h2⟩)
  have hl : 0 < t.length := by have := of_decide_eq_true hh; omega
  have hne := List.ne_nil_of_length_pos hl
  have hd : t.dropLast ++ [t.getLast hne] = t := List.dropLast_concat_getLast hne
  rw [w_i64 (by omega) (by omega)]
  refine ⟨t.getLast hne, by omega, getL hl rfl, ?_⟩
  refine contains_ok h ?_
  refine ift.of (fun hc => ⟨rfl, h1, h2⟩) (fun hc => ?_)
  have e1 : (t.take ((t.length : Int) - 1).toNat).drop (0 : Int).toNat = t.dropLast := by
    have : ((t.length : Int) - 1).toNat = t.length - 1 := by omega
    rw [this, List.dropLast_eq_take]; simp
  refine ⟨by omega, by omega, by omega, _, e1.symm, ?_⟩
  have hdl := List.length_dropLast (xs := t)
  refine ⟨⟨rfl, by omega, ?_⟩, by dsimp only; omega⟩
  rw [← h2]
  conv => rhs; rw [← hd]
  rw [List.all_append]
  simp at hc
  simp [hc]
theorem trimL_ok {b : Nat} {s : Str} {K : Str → Heap → Prop} (hs : s.length ≤ 140737488355328) (h : DSet H b) (k : ∀ t, t.all digC = s.all digC → (t = [] ∨ t.all digC = false) → K t H) : c_strings_trimLeftASCII C s (some (b, 0)) K H := by
  apply ad_strings_trimLeftASCII
  unfold sh_strings_trimLeftASCII
  refine ⟨fun t H' => H = H' ∧ t.all digC = s.all digC ∧ (t = [] ∨ t.all digC = false), ?_, ?_⟩
  rotate_left
  · rintro t _ ⟨rfl, h1, h2⟩
    exact k t h1 h2
  refine ⟨fun t H' => H = H' ∧ t.length ≤ s.length ∧ t.all digC = s.all digC, fun t _ => t.length, ⟨rfl, Nat.le_refl _, rfl⟩, ?_⟩
  rintro t _ ⟨rfl, h1, h2⟩
  cases t with
  | nil => exact ift_neg rfl ⟨rfl, h2, .inl rfl⟩
  | cons c t =>
    refine ift_pos (by rw [decide_eq_true_eq]; simp only [List.length_cons]; omega) ?_
    refine ⟨c, by omega, rfl, ?_⟩
    refine contains_ok h ?_
    refine ift.of (fun hc => ⟨rfl, h2, .inr ?_⟩) (fun hc => ?_)
    · simp at hc; simp [hc]
    · refine ⟨by omega, by simp only [List.length_cons]; omega, by omega, t, ?_, ⟨rfl, by simp only [List.length_cons] at h1; omega, ?_⟩, by simp⟩
      · rw [List.take_of_length_le (by omega)]; rfl
      · rw [← h2]; simp at hc; simp [hc]

theorem makeDigits_ok {K : List Value → Bool → Heap → Prop} (k : K (setD setD0 digS) true H) : c_strings_makeASCIISet C digS K H := by
  apply c_strings_makeASCIISet.gh
  apply ad_strings_makeASCIISet
  unfold sh_strings_makeASCIISet
  intro b n
  refine ⟨fun x H' => ∃ i : Nat, x = (i : Int) ∧ i ≤ 10 ∧ H' = H.put b (.row (setD setD0 (digS.take i))), fun x _ => 10 - x.toNat, ⟨0, rfl, by omega, rfl⟩, ?_⟩
  rintro x _ ⟨i, rfl, hi, rfl⟩
  have hlen : (setD setD0 (digS.take i)).length = 256 := by rw [setD_len]; simp [setD0]
  refine ift.of (fun h => ?_) (fun h => ?_)
  · have hlt : i < digS.length := by have := of_decide_eq_true h; omega
    have hlt' : i < 10 := hlt
    refine ⟨digS[i], by omega, getE hlt, ?_⟩
    have hm : ∀ c ∈ digS, c.toNat < 128 := by decide
    have h128 := hm _ (List.getElem_mem hlt)
    have htk : digS.take (i + 1) = digS.take i ++ [digS[i]] := by rw [List.take_add_one, List.getElem?_eq_getElem hlt]; rfl
    generalize digS[i] = c at *
    refine ift_neg (by rw [decide_eq_false_iff_not]; omega) ?_
    refine ⟨by omega, by omega, _, Heap.put_same .., by rw [hlen]; simp; omega, ?_⟩
    rw [w_i64 (by omega) (by omega), Heap.put_put]
    refine ⟨⟨i + 1, by omega, by omega, ?_⟩, by first | omega | (dsimp only; omega)⟩
    rw [htk, setD_snoc]
    have : (b, 0).2 + (c.toNat : Int).toNat * 1 = c.toNat := by simp
    rw [this]
  · have hi10 : i = 10 := by have := of_decide_eq_false h; have : digS.length = 10 := rfl; omega
    subst hi10
    have e : digS.take 10 = digS := rfl
    rw [e] at hlen ⊢
    have hr : ∀ {B : Heap}, B b = some (true, .row (setD setD0 digS)) → rds B (b, 0) (setD setD0 digS) := fun h => rds_row h fun j v hj => by simpa using hj
    refine ⟨_, hlen, hr (Heap.put_same ..), hlen, setD_b _ _ (by decide +kernel), _, Heap.put_same .., by simp, ?_⟩
    have esp : splice (setD setD0 digS) (b, 0).2 (setD setD0 digS) = setD setD0 digS := by
      unfold splice; simp
    rw [esp, Heap.put_put]
    exact ⟨_, hlen, hr (Heap.put_same ..), H, Gh.le (Heap.le_put n), k⟩

theorem trimDig_ok {s : Str} {K : Str → Heap → Prop} (hs : s.length ≤ 140737488355328) (k : ∀ t, (t = [] ↔ s.all digC = true) → K t H) : c_strings_Trim C s digS K H := by
  apply c_strings_Trim.gh
  apply ad_strings_Trim
  unfold sh_strings_Trim
  refine ift.of (fun h => ?_) (fun h => ?_)
  · have : s = [] := by simpa [digS] using h
    subst this
    exact ⟨H, Gh.refl _, k [] (by simp)⟩
  refine ⟨fun b H' => H = H' ∧ b = false, ift_neg rfl ⟨rfl, rfl⟩, ?_⟩
  rintro _ _ ⟨rfl, rfl⟩
  refine ift_neg rfl ?_
  refine makeDigits_ok ?_
  intro b n
  have hlen : (setD setD0 digS).length = 256 := by rw [setD_len]; simp [setD0]
  refine ⟨hlen, setD_b _ _ (by decide +kernel), _, Heap.put_same .., by rw [hlen]; simp, ?_⟩
  have esp : splice (List.replicate 256 (.bool false : Value)) (b, 0).2 (setD setD0 digS) = setD setD0 digS := by
    unfold splice; simp [hlen]
  rw [esp, Heap.put_put]
  refine ift_pos rfl ?_
  refine trimR_ok hs (Heap.put_same ..) fun t ht1 ht2 => ?_
  refine trimL_ok (by omega) (Heap.put_same ..) fun u hu1 hu2 => ?_
  refine ⟨H, Gh.le (Heap.le_put n), k u ?_⟩
  rw [← ht2, ← hu1]
  constructor
  · rintro rfl; rfl
  · intro h
    rcases hu2 with h2 | h2
    · exact h2
    · rw [h] at h2; cases h2

theorem value_number_ok {s : Str} {K : Int → Bool → Heap → Prop} (hs : s.length ≤ 140737488355328) (k : K (if numS s then (digits s : Int) else 0) (numS s) H) : c_value_number C s K H := by
  apply ad_value_number
  unfold sh_value_number
  refine trimPrefix_ok ?_
  have e : (if ([45] : Str).isPrefixOf s then s.drop ([45] : Str).length else s) = unmin s := by
    unfold unmin
    cases s with
    | nil => rfl
    | cons c t =>
      by_cases hc : c = 45
      · subst hc; simp [List.isPrefixOf]
      · simp [List.isPrefixOf, hc, Ne.symm hc]
  rw [e]
  have hul : (unmin s).length ≤ s.length := by unfold unmin; split <;> simp
  have hdg : digits s = (unmin s).length := rfl
  have hnu : numS s = (!(unmin s).isEmpty && (unmin s).all digC && !(decide ((unmin s).head? = some 48) && decide (s ≠ [48]))) := rfl
  rw [hdg, hnu] at k
  clear hdg hnu e
  generalize unmin s = d at *
  refine ⟨fun b H' => H = H' ∧ b = !(!d.isEmpty && d.all digC), ?_, ?_⟩
  · refine ift.of (fun h => ⟨rfl, ?_⟩) (fun h => ?_)
    · have : d = [] := by simpa using h
      subst this; rfl
    · have hne : d ≠ [] := by simpa using h
      refine trimDig_ok (by omega) fun t ht => ⟨rfl, ?_⟩
      have he : d.isEmpty = false := by cases d with
        | nil => exact absurd rfl hne
        | cons _ _ => rfl
      rw [he]
      cases hd : d.all digC with
      | true => rw [ht.2 hd]; rfl
      | false =>
        have : t ≠ [] := fun e => by rw [ht.1 e] at hd; cases hd
        simpa using this
  rintro b _ ⟨rfl, rfl⟩
  refine ⟨fun b H' => H = H' ∧ b = !(!d.isEmpty && d.all digC && !(decide (d.head? = some 48) && decide (s ≠ [48]))), ?_, ?_⟩
  · refine ift.of (fun h => ⟨rfl, ?_⟩) (fun h => ?_)
    · simp only [Bool.not_eq_true'] at h
      rw [h]; rfl
    · simp only [Bool.not_eq_false'] at h
      rw [h]
      cases d with
      | nil => simp at h
      | cons c t =>
        refine ⟨c, by omega, rfl, rfl, ?_⟩
        rw [e48]
        simp only [List.head?_cons, Option.some.injEq, Bool.true_and, Bool.not_not]
        congr 1
        rw [decide_not]; congr 1
        rw [Bool.eq_iff_iff]; simp
  rintro b _ ⟨rfl, rfl⟩
  refine ift.of (fun h => ?_) (fun h => ?_)
  · simp only [Bool.not_eq_true'] at h
    rw [h] at k; exact k
  · simp only [Bool.not_eq_false'] at h
    rw [h] at k; exact k
end
end Sx
end

noncomputable section
set_option linter.unusedVariables false
set_option linter.unusedSimpArgs false
set_option maxRecDepth 10000
namespace Sx
open Go Go.Proofs
section
variable {C : Ctx} {H : Heap}
theorem sEmpty {s : Str} : (s == ([] : Str)) = s.isEmpty := by cases s <;> rfl
theorem lenZ {l : List V} {n : Nat} (h : n = l.length) (m : Nat) : ((n : Int) == (m : Int)) = decide (l.length = m) := by
  rw [Bool.eq_iff_iff]; simp only [beq_iff_eq, decide_eq_true_eq]; omega

theorem ref02_form_ok {v : V} {x : TV} {H : Heap} {K : Bool → Heap → Prop} (hv : VIs H v x) (hB : VB v) (k : K (formV v) H) : c_ref02_form C x K H := by
  refine V.rec_ (P := fun v => ∀ {x H} {K : Bool → Heap → Prop}, VIs H v x → VB v → K (formV v) H → c_ref02_form C x K H) (fun v ih => ?_) v hv hB k
  clear hv hB k
  intro x H K hv hB k
  apply c_ref02_form.gh
  apply ad_ref02_form
  unfold sh_ref02_form
  intro b1 n1
  have hr := hv.row
  have hl := hr.len
  have hbl := hB.l
  have hbs := hB.s
  have hk := hv.kind
  have hn := hv.num
  have ht := hv.txt
  have hb1 : (H.put b1 (.row (T_api_Value.c x))) b1 = some (true, .row (T_api_Value.c x)) := Heap.put_same ..
  have hle1 := Heap.le_put n1 (g := .row (T_api_Value.c x)) (m := true)
  generalize H.put b1 (.row (T_api_Value.c x)) = H1 at *
  refine ⟨fun b H' => H1 = H' ∧ b = okN v.k v.n v.s v.l.length, ?_, ?_⟩
  rotate_left
  · rintro b _ ⟨rfl, rfl⟩
    refine ⟨fun y H' => ∃ i : Nat, y.2 = (i : Int) ∧ i ≤ v.l.length ∧ H1 = H' ∧ (y.1 = true → okN v.k v.n v.s v.l.length = true ∧ formVs (v.l.take i) = true) ∧ (y.1 = false → formV v = false), fun y _ => v.l.length - y.2.toNat, ⟨0, rfl, Nat.zero_le _, rfl, fun h => ⟨h, rfl⟩, fun h => by dsimp only at h; rw [formV_eq, h]; rfl⟩, ?_⟩
    rintro ⟨f, y⟩ _ ⟨i, hy, hi, rfl, h1, h2⟩
    dsimp only at hy h1 h2
    subst hy
    refine bxL hb1 ?_
    rw [hl]
    refine ift.of (fun h => ?_) (fun h => ?_)
    · simp only [Bool.and_eq_true, decide_eq_true_eq] at h
      have hlt : i < v.l.length := by omega
      obtain ⟨h3, h4⟩ := h1 h.2
      have hmem := List.getElem_mem hlt
      refine bxL hb1 ?_
      refine hr.ld hle1 rfl hlt fun z hz => ?_
      refine ih _ hmem (hz.le hle1) (hB.at hlt) ?_
      dsimp only
      rw [w_i64 (by omega) (by omega)]
      refine ⟨⟨i + 1, by omega, by omega, rfl, fun hf => ⟨h3, ?_⟩, fun hf => ?_⟩, by first | omega | (dsimp only; omega)⟩
      · rw [formVs_take hlt, h4]; exact hf
      · rw [formV_eq, formVs_false hmem hf, Bool.and_false]
    · dsimp only
      refine ⟨H, Gh.le hle1, ?_⟩
      cases hf : f with
      | false => rw [h2 hf] at k; exact k
      | true =>
        rw [hf] at h
        simp only [Bool.and_true, decide_eq_false_iff_not] at h
        have hie : i = v.l.length := by omega
        subst hie
        obtain ⟨h3, h4⟩ := h1 hf
        rw [List.take_length] at h4
        rw [formV_eq, h3, h4] at k; exact k
  refine bxK hb1 ?_
  rw [hk]
  unfold okN
  refine ift.of (fun h => ?_) (fun h => ?_)
  · have h : v.k = 1 := by simpa using h
    rw [if_pos h]
    refine bxN hb1 ?_
    refine ⟨fun b H' => H1 = H' ∧ b = (v.n == 0 || v.n == 1), ?_, ?_⟩
    · rw [hn]
      refine ift.of (fun h => ⟨rfl, by rw [h]; rfl⟩) (fun h => ?_)
      refine bxN hb1 ⟨rfl, ?_⟩
      rw [h, hn]; rfl
    rintro _ _ ⟨rfl, rfl⟩
    refine ⟨fun b H' => H1 = H' ∧ b = ((v.n == 0 || v.n == 1) && v.s.isEmpty), ?_, ?_⟩
    · refine ift.of (fun h => ?_) (fun h => ⟨rfl, by rw [h]; rfl⟩)
      refine bxS hb1 ⟨rfl, ?_⟩
      rw [h, ht, sEmpty]; rfl
    rintro _ _ ⟨rfl, rfl⟩
    refine ⟨fun b H' => H1 = H' ∧ b = ((v.n == 0 || v.n == 1) && v.s.isEmpty && decide (v.l.length = 0)), ?_, ?_⟩
    · refine ift.of (fun h => ?_) (fun h => ⟨rfl, by rw [h]; rfl⟩)
      refine bxL hb1 ⟨rfl, ?_⟩
      rw [h]; exact lenZ hl 0
    rintro _ _ ⟨rfl, rfl⟩
    exact ⟨rfl, rfl⟩
  rw [if_neg (by simpa using h)]
  refine ift.of (fun h => ?_) (fun h => ?_)
  · have h : v.k = 2 := by simpa using h
    rw [if_pos h]
    refine bxS hb1 ?_
    refine ⟨fun b H' => H1 = H' ∧ b = (v.s.isEmpty && decide (v.l.length = 0)), ?_, ?_⟩
    · rw [ht, sEmpty]
      refine ift.of (fun h => ?_) (fun h => ⟨rfl, by rw [h]; rfl⟩)
      refine bxL hb1 ⟨rfl, ?_⟩
      rw [h]; exact lenZ hl 0
    rintro _ _ ⟨rfl, rfl⟩
    exact ⟨rfl, rfl⟩
  rw [if_neg (by simpa using h)]
  refine ift.of (fun h => ?_) (fun h => ?_)
  · have h : v.k = 3 := by simpa using h
    rw [if_pos h]
    refine bxN hb1 ?_
    refine ⟨fun b H' => H1 = H' ∧ b = (v.n == 0 && decide (v.l.length = 0)), ?_, ?_⟩
    · rw [hn]
      refine ift.of (fun h => ?_) (fun h => ⟨rfl, by rw [h]; rfl⟩)
      refine bxL hb1 ⟨rfl, ?_⟩
      rw [h]; exact lenZ hl 0
    rintro _ _ ⟨rfl, rfl⟩
    refine ⟨fun b H' => H1 = H' ∧ b = (numS v.s && v.n == 0 && decide (v.l.length = 0)), ?_, ?_⟩
    · refine ift.of (fun h => ?_) (fun h => ⟨rfl, ?_⟩)
      · refine bxS hb1 ?_
        rw [ht]
        refine ref02_Number_ok hbs ⟨rfl, ?_⟩
        rw [Bool.and_assoc, h, Bool.and_true]
      · rw [Bool.and_assoc, h, Bool.and_false]
    rintro _ _ ⟨rfl, rfl⟩
    exact ⟨rfl, rfl⟩
  rw [if_neg (by simpa using h)]
  refine ift.of (fun h => ?_) (fun h => ?_)
  · have h : v.k = 4 := by simpa using h
    rw [if_pos h]
    refine bxN hb1 ?_
    refine ⟨fun b H' => H1 = H' ∧ b = (v.n == 0 && decide (v.l.length = 0)), ?_, ?_⟩
    · rw [hn]
      refine ift.of (fun h => ?_) (fun h => ⟨rfl, by rw [h]; rfl⟩)
      refine bxL hb1 ⟨rfl, ?_⟩
      rw [h]; exact lenZ hl 0
    rintro _ _ ⟨rfl, rfl⟩
    exact ⟨rfl, rfl⟩
  rw [if_neg (by simpa using h)]
  refine ift.of (fun h => ?_) (fun h => ?_)
  · have h : v.k = 5 := by simpa using h
    rw [if_pos h]
    refine bxN hb1 ?_
    refine ⟨fun b H' => H1 = H' ∧ b = (v.n == 0 && v.s.isEmpty), ?_, ?_⟩
    · rw [hn]
      refine ift.of (fun h => ?_) (fun h => ⟨rfl, by rw [h]; rfl⟩)
      refine bxS hb1 ⟨rfl, ?_⟩
      rw [h, ht, sEmpty]; rfl
    rintro _ _ ⟨rfl, rfl⟩
    refine ⟨fun b H' => H1 = H' ∧ b = (v.n == 0 && v.s.isEmpty && decide (v.l.length ≠ 1)), ?_, ?_⟩
    · refine ift.of (fun h => ?_) (fun h => ⟨rfl, by rw [h]; rfl⟩)
      refine bxL hb1 ⟨rfl, ?_⟩
      rw [h, bne, show ((x.L.len : Int) == 1) = decide (v.l.length = 1) from lenZ hl 1, decide_not]; rfl
    rintro _ _ ⟨rfl, rfl⟩
    exact ⟨rfl, rfl⟩
  rw [if_neg (by simpa using h)]
  refine ift.of (fun h => ?_) (fun h => ?_)
  · have h : v.k = 6 := by simpa using h
    rw [if_pos h]
    refine bxN hb1 ?_
    refine ⟨fun b H' => H1 = H' ∧ b = (v.n == 0 && namesS v.s), ?_, ?_⟩
    · rw [hn]
      refine ift.of (fun h => ?_) (fun h => ⟨rfl, by rw [h]; rfl⟩)
      refine bxS hb1 ?_
      rw [ht]
      refine ref02_Names_ok hbs ⟨rfl, ?_⟩
      rw [h]; rfl
    rintro _ _ ⟨rfl, rfl⟩
    exact ⟨rfl, rfl⟩
  rw [if_neg (by simpa using h)]
  exact ⟨rfl, rfl⟩

theorem okN_num {k n : Int} {s : Str} {m : Nat} (h : okN k n s m = true) (hk : k = 3) : numS s = true := by
  unfold okN at h
  rw [if_neg (by omega), if_neg (by omega), if_pos hk] at h
  simp only [Bool.and_eq_true] at h
  exact h.1.1

theorem ref02_fits_ok {v : V} {x : TV} {H : Heap} {K : Bool → Heap → Prop} (hv : VIs H v x) (hB : VB v) (hF : formV v = true) (k : K (fitsV v) H) : c_ref02_fits C x K H := by
  refine V.rec_ (P := fun v => ∀ {x H} {K : Bool → Heap → Prop}, VIs H v x → VB v → formV v = true → K (fitsV v) H → c_ref02_fits C x K H) (fun v ih => ?_) v hv hB hF k
  clear hv hB hF k
  intro x H K hv hB hF k
  apply c_ref02_fits.gh
  apply ad_ref02_fits
  unfold sh_ref02_fits
  intro b1 n1
  have hr := hv.row
  have hl := hr.len
  have hbl := hB.l
  have hbs := hB.s
  have hk := hv.kind
  have hn := hv.num
  have ht := hv.txt
  rw [formV_eq, Bool.and_eq_true] at hF
  have hb1 : (H.put b1 (.row (T_api_Value.c x))) b1 = some (true, .row (T_api_Value.c x)) := Heap.put_same ..
  have hle1 := Heap.le_put n1 (g := .row (T_api_Value.c x)) (m := true)
  generalize H.put b1 (.row (T_api_Value.c x)) = H1 at *
  refine ⟨fun b H' => H1 = H' ∧ b = fitN v.k v.s v.l.length, ?_, ?_⟩
  rotate_left
  · rintro b _ ⟨rfl, rfl⟩
    refine ⟨fun y H' => ∃ i : Nat, y.2 = (i : Int) ∧ i ≤ v.l.length ∧ H1 = H' ∧ (y.1 = true → fitN v.k v.s v.l.length = true ∧ fitsVs (v.l.take i) = true) ∧ (y.1 = false → fitsV v = false), fun y _ => v.l.length - y.2.toNat, ⟨0, rfl, Nat.zero_le _, rfl, fun h => ⟨h, rfl⟩, fun h => by dsimp only at h; rw [fitsV_eq, h]; rfl⟩, ?_⟩
    rintro ⟨f, y⟩ _ ⟨i, hy, hi, rfl, h1, h2⟩
    dsimp only at hy h1 h2
    subst hy
    refine bxL hb1 ?_
    rw [hl]
    refine ift.of (fun h => ?_) (fun h => ?_)
    · simp only [Bool.and_eq_true, decide_eq_true_eq] at h
      have hlt : i < v.l.length := by omega
      obtain ⟨h3, h4⟩ := h1 h.2
      have hmem := List.getElem_mem hlt
      refine bxL hb1 ?_
      refine hr.ld hle1 rfl hlt fun z hz => ?_
      refine ih _ hmem (hz.le hle1) (hB.at hlt) (formVs_mem hmem hF.2) ?_
      dsimp only
      rw [w_i64 (by omega) (by omega)]
      refine ⟨⟨i + 1, by omega, by omega, rfl, fun hf => ⟨h3, ?_⟩, fun hf => ?_⟩, by first | omega | (dsimp only; omega)⟩
      · rw [fitsVs_take hlt, h4]; exact hf
      · have h5 : fitsVs (v.l.take (i + 1)) = false := by rw [fitsVs_take hlt]; rw [hf, Bool.and_false]
        have h6 := fitsVs_append (v.l.take (i + 1)) (v.l.drop (i + 1))
        rw [List.take_append_drop, h5] at h6
        rw [fitsV_eq, h6]; simp
    · dsimp only
      refine ⟨H, Gh.le hle1, ?_⟩
      cases hf : f with
      | false => rw [h2 hf] at k; exact k
      | true =>
        rw [hf] at h
        simp only [Bool.and_true, decide_eq_false_iff_not] at h
        have hie : i = v.l.length := by omega
        subst hie
        obtain ⟨h3, h4⟩ := h1 hf
        rw [List.take_length] at h4
        rw [fitsV_eq, h3, h4] at k; exact k
  refine bxK hb1 ?_
  rw [hk]
  unfold fitN
  refine ift.of (fun h => ?_) (fun h => ?_)
  · have h : v.k = 3 := by simpa using h
    rw [if_pos h]
    refine bxS hb1 ?_
    rw [ht]
    refine ref02_Digits_ok hbs (okN_num hF.1 h) ⟨rfl, ?_⟩
    rw [decide_eq_decide]; omega
  rw [if_neg (by simpa using h)]
  refine ift.of (fun h => ?_) (fun h => ?_)
  · have h : v.k = 4 := by simpa using h
    rw [if_pos h]
    refine bxS hb1 ⟨rfl, ?_⟩
    rw [ht, decide_eq_decide]; omega
  rw [if_neg (by simpa using h)]
  refine ift.of (fun h => ?_) (fun h => ?_)
  · have h : v.k = 5 := by simpa using h
    rw [if_pos h]
    refine bxL hb1 ⟨rfl, ?_⟩
    rw [decide_eq_decide]; omega
  rw [if_neg (by simpa using h)]
  refine ift.of (fun h => ?_) (fun h => ?_)
  · have h : v.k = 6 := by simpa using h
    rw [if_pos h]
    refine bxL hb1 ⟨rfl, ?_⟩
    rw [decide_eq_decide]; omega
  rw [if_neg (by simpa using h)]
  exact ⟨rfl, rfl⟩

theorem ref02_Check_ok {v : V} {x : TV} {H : Heap} {K : Int → Heap → Prop} (hv : VIs H v x) (hB : VB v) (hs : vsize v ≤ 4611686018427387904) (k : K (checkV v) H) : c_ref02_Check C x K H := by
  apply c_ref02_Check.gh
  apply ad_ref02_Check
  unfold sh_ref02_Check
  intro b1 n1
  have hb1 : (H.put b1 (.row (T_api_Value.c x))) b1 = some (true, .row (T_api_Value.c x)) := Heap.put_same ..
  have hle1 := Heap.le_put n1 (g := .row (T_api_Value.c x)) (m := true)
  generalize H.put b1 (.row (T_api_Value.c x)) = H1 at *
  unfold checkV at k
  refine bxV hb1 (ref02_Depth_ok (hv.le hle1) hB hs ?_)
  refine ift.of (fun h => ?_) (fun h => ?_)
  · have h := of_decide_eq_true h
    rw [if_pos (by omega)] at k
    exact ⟨H, Gh.le hle1, k⟩
  have h := of_decide_eq_false h
  rw [if_neg (by omega)] at k
  refine bxV hb1 (ref02_form_ok (hv.le hle1) hB ?_)
  refine ift.of (fun h => ?_) (fun h => ?_)
  · have h : formV v = false := by simpa using h
    rw [if_pos h] at k
    exact ⟨H, Gh.le hle1, k⟩
  have hf : formV v = true := by simpa using h
  rw [if_neg (by rw [hf]; decide)] at k
  refine bxV hb1 (ref02_fits_ok (hv.le hle1) hB hf ?_)
  refine ift.of (fun h => ?_) (fun h => ?_)
  · have h : fitsV v = false := by simpa using h
    rw [if_pos h] at k
    exact ⟨H, Gh.le hle1, k⟩
  have hf : fitsV v = true := by simpa using h
  rw [if_neg (by rw [hf]; decide)] at k
  exact ⟨H, Gh.le hle1, k⟩
end
end Sx
end

noncomputable section
set_option linter.unusedVariables false
set_option linter.unusedSimpArgs false
set_option maxRecDepth 10000
namespace Sx
open Go Go.Proofs
theorem names_cut (s : Str) : namesS s = (match cutD s with | some (a, b) => nameS a && nameS b | none => nameS s && !decide (s = trueS) && !decide (s = falseS)) := by
  unfold namesS
  by_cases ht : s = trueS
  · subst ht; rfl
  by_cases hf : s = falseS
  · subst hf; rfl
  rw [if_neg (fun h => h.elim ht hf)]
  cases hc : cutD s with
  | none => simp [ht, hf]
  | some p => rfl

section
variable {C : Ctx} {H : Heap}
theorem look_ok {v : V} {x : TV} {H : Heap} {K : Bool → Bool → Heap → Prop} (hv : VIs H v x) (hB : VB v) (k : ∀ g, (formV v = true → g = fitsV v) → K (formV v) g H) : c_value_item_look C x K H := by
  refine V.rec_ (P := fun v => ∀ {x H} {K : Bool → Bool → Heap → Prop}, VIs H v x → VB v → (∀ g, (formV v = true → g = fitsV v) → K (formV v) g H) → c_value_item_look C x K H) (fun v ih => ?_) v hv hB k
  clear hv hB k
  intro x H K hv hB k
  apply c_value_item_look.gh
  apply ad_value_item_look
  unfold sh_value_item_look
  intro b1 n1
  have hr := hv.row
  have hl := hr.len
  have hbl := hB.l
  have hbs := hB.s
  have hk := hv.kind
  have hn := hv.num
  have ht := hv.txt
  have hb1 : (H.put b1 (.row (T_api_Value.c x))) b1 = some (true, .row (T_api_Value.c x)) := Heap.put_same ..
  have hle1 := Heap.le_put n1 (g := .row (T_api_Value.c x)) (m := true)
  generalize H.put b1 (.row (T_api_Value.c x)) = H1 at *
  refine bxN hb1 ?_
  refine ⟨fun b H' => H1 = H', ?_, ?_⟩
  · exact ift.of (fun _ => bxS hb1 rfl) (fun _ => rfl)
  rintro _ _ rfl
  refine ⟨fun b H' => H1 = H', ?_, ?_⟩
  · exact ift.of (fun _ => bxL hb1 rfl) (fun _ => rfl)
  rintro _ _ rfl
  refine ⟨fun b H' => H1 = H' ∧ b.1 = okN v.k v.n v.s v.l.length ∧ (b.1 = true → b.2 = fitN v.k v.s v.l.length), ?_, ?_⟩
  rotate_left
  · rintro ⟨o, g⟩ _ ⟨rfl, ho, hg⟩
    dsimp only at ho hg ⊢
    subst ho
    refine bxL hb1 ?_
    refine ⟨fun y H' => ∃ i : Nat, y.2.2 = (i : Int) ∧ i ≤ v.l.length ∧ H.le H' ∧ y.1 = (okN v.k v.n v.s v.l.length && formVs (v.l.take i)) ∧ (y.1 = true → y.2.1 = (fitN v.k v.s v.l.length && fitsVs (v.l.take i))), fun y _ => v.l.length - y.2.2.toNat, ⟨0, rfl, Nat.zero_le _, hle1, by simp [formVs], fun h => by simp [fitsVs, hg h]⟩, ?_⟩
    rintro ⟨f, g', y⟩ H2 ⟨i, hy, hi, hle, h1, h2⟩
    dsimp only at hy h1 h2
    subst hy
    dsimp only
    rw [hl]
    refine ift.of (fun h => ?_) (fun h => ?_)
    · have hlt : i < v.l.length := by have := of_decide_eq_true h; omega
      have hmem := List.getElem_mem hlt
      refine hr.ld hle rfl hlt fun z hz => ?_
      intro b20 n20
      refine ⟨_, Heap.put_same .., by simp [T_api_Value.c], ?_⟩
      rw [Heap.put_put]
      have esp : splice (T_api_Value.c T_api_Value.zero) (b20, 0).2 (T_api_Value.c z) = T_api_Value.c z := rfl
      rw [esp]
      have hle2 := hle.trans (Heap.le_put n20 (g := .row (T_api_Value.c z)) (m := true))
      refine bxV (Heap.put_same ..) ?_
      refine ih _ hmem (hz.le hle2) (hB.at hlt) fun q hq => ?_
      rw [w_i64 (by omega) (by omega)]
      refine ⟨⟨i + 1, by omega, by omega, hle2, ?_, fun hh => ?_⟩, by first | omega | (dsimp only; omega)⟩
      · rw [h1, formVs_take hlt, Bool.and_assoc]
      · rw [Bool.and_eq_true] at hh
        rw [h2 hh.1, fitsVs_take hlt, hq hh.2, Bool.and_assoc]
    · have hie : i = v.l.length := by have := of_decide_eq_false h; omega
      subst hie
      rw [List.take_length] at h1 h2
      rw [← formV_eq] at h1
      rw [← fitsV_eq] at h2
      refine ⟨H, Gh.le hle, ?_⟩
      rw [h1] at h2 ⊢
      exact k g' h2
  refine bxK hb1 ?_
  rw [hk]
  refine ift.of (fun h => ?_) (fun h => ?_)
  · have h : v.k = 1 := by simpa using h
    have eo : okN v.k v.n v.s v.l.length = ((v.n == 0 || v.n == 1) && v.s.isEmpty && decide (v.l.length = 0)) := by rw [h]; rfl
    have ef : fitN v.k v.s v.l.length = true := by rw [h]; rfl
    rw [eo, ef]
    refine bxN hb1 ?_
    refine ⟨fun b H' => H1 = H' ∧ b = (v.n == 0 || v.n == 1), ?_, ?_⟩
    · rw [hn]
      refine ift.of (fun h => ⟨rfl, by rw [h]; rfl⟩) (fun h => ?_)
      refine bxN hb1 ⟨rfl, ?_⟩
      rw [h, hn]; rfl
    rintro _ _ ⟨rfl, rfl⟩
    refine ⟨fun b H' => H1 = H' ∧ b = ((v.n == 0 || v.n == 1) && v.s.isEmpty), ?_, ?_⟩
    · refine ift.of (fun h => ?_) (fun h => ⟨rfl, by rw [h]; rfl⟩)
      refine bxS hb1 ⟨rfl, ?_⟩
      rw [h, ht, sEmpty]; rfl
    rintro _ _ ⟨rfl, rfl⟩
    refine ⟨fun b H' => H1 = H' ∧ b = ((v.n == 0 || v.n == 1) && v.s.isEmpty && decide (v.l.length = 0)), ?_, ?_⟩
    · refine ift.of (fun h => ?_) (fun h => ⟨rfl, by rw [h]; rfl⟩)
      refine bxL hb1 ⟨rfl, ?_⟩
      rw [h]; exact lenZ hl 0
    rintro _ _ ⟨rfl, rfl⟩
    exact ⟨rfl, rfl, fun _ => rfl⟩
  have g1 : v.k ≠ 1 := by simpa using h
  refine ift.of (fun h => ?_) (fun h => ?_)
  · have h : v.k = 2 := by simpa using h
    have eo : okN v.k v.n v.s v.l.length = (v.s.isEmpty && decide (v.l.length = 0)) := by rw [h]; rfl
    have ef : fitN v.k v.s v.l.length = true := by rw [h]; rfl
    rw [eo, ef]
    refine bxS hb1 ?_
    refine ⟨fun b H' => H1 = H' ∧ b = (v.s.isEmpty && decide (v.l.length = 0)), ?_, ?_⟩
    · rw [ht, sEmpty]
      refine ift.of (fun h => ?_) (fun h => ⟨rfl, by rw [h]; rfl⟩)
      refine bxL hb1 ⟨rfl, ?_⟩
      rw [h]; exact lenZ hl 0
    rintro _ _ ⟨rfl, rfl⟩
    exact ⟨rfl, rfl, fun _ => rfl⟩
  have g2 : v.k ≠ 2 := by simpa using h
  refine ift.of (fun h => ?_) (fun h => ?_)
  · have h : v.k = 3 := by simpa using h
    have eo : okN v.k v.n v.s v.l.length = (numS v.s && v.n == 0 && decide (v.l.length = 0)) := by rw [h]; rfl
    have ef : fitN v.k v.s v.l.length = decide (digits v.s ≤ 200) := by rw [h]; rfl
    rw [eo, ef]
    refine bxS hb1 ?_
    rw [ht]
    refine value_number_ok hbs ?_
    refine ⟨fun b H' => H1 = H' ∧ b = (numS v.s && v.n == 0), ?_, ?_⟩
    · refine ift.of (fun h => ?_) (fun h => ⟨rfl, by rw [h]; rfl⟩)
      refine bxN hb1 ⟨rfl, ?_⟩
      rw [h, hn]; rfl
    rintro _ _ ⟨rfl, rfl⟩
    refine ⟨fun b H' => H1 = H' ∧ b = (numS v.s && v.n == 0 && decide (v.l.length = 0)), ?_, ?_⟩
    · refine ift.of (fun h => ?_) (fun h => ⟨rfl, by rw [h]; rfl⟩)
      refine bxL hb1 ⟨rfl, ?_⟩
      rw [h]; exact lenZ hl 0
    rintro _ _ ⟨rfl, rfl⟩
    refine ⟨rfl, rfl, fun hh => ?_⟩
    dsimp only at hh ⊢
    simp only [Bool.and_eq_true] at hh
    rw [hh.1.1, if_pos rfl, decide_eq_decide]; omega
  have g3 : v.k ≠ 3 := by simpa using h
  refine ift.of (fun h => ?_) (fun h => ?_)
  · have h : v.k = 4 := by simpa using h
    have eo : okN v.k v.n v.s v.l.length = (v.n == 0 && decide (v.l.length = 0)) := by rw [h]; rfl
    have ef : fitN v.k v.s v.l.length = decide (v.s.length ≤ 4096) := by rw [h]; rfl
    rw [eo, ef]
    have ed : decide ((v.s.length : Int) ≤ 4096) = decide (v.s.length ≤ 4096) := by rw [decide_eq_decide]; omega
    refine ⟨fun b H' => H1 = H' ∧ b = ((v.n == 0 && decide (v.l.length = 0)), decide (v.s.length ≤ 4096)), ?_, ?_⟩
    · refine ⟨H1, Heap.le.refl _, bxN hb1 (bxS hb1 ?_)⟩
      rw [hn, ht, ed]
      refine ift.of (fun h => ?_) (fun h => ⟨rfl, by rw [h]; rfl⟩)
      refine bxL hb1 ⟨rfl, ?_⟩
      rw [h, show ((x.L.len : Int) == 0) = decide (v.l.length = 0) from lenZ hl 0]; rfl
    rintro _ _ ⟨rfl, rfl⟩
    exact ⟨rfl, rfl, fun _ => rfl⟩
  have g4 : v.k ≠ 4 := by simpa using h
  refine ift.of (fun h => ?_) (fun h => ?_)
  · have h : v.k = 5 := by simpa using h
    have eo : okN v.k v.n v.s v.l.length = (v.n == 0 && v.s.isEmpty && decide (v.l.length ≠ 1)) := by rw [h]; rfl
    have ef : fitN v.k v.s v.l.length = decide (v.l.length ≤ 16) := by rw [h]; rfl
    rw [eo, ef]
    have ed : decide ((x.L.len : Int) ≤ 16) = decide (v.l.length ≤ 16) := by rw [decide_eq_decide]; omega
    refine ⟨fun b H' => H1 = H' ∧ b = ((v.n == 0 && v.s.isEmpty && decide (v.l.length ≠ 1)), decide (v.l.length ≤ 16)), ?_, ?_⟩
    · refine ⟨H1, Heap.le.refl _, bxN hb1 (bxL hb1 ?_)⟩
      rw [hn, ed]
      refine ift.of (fun h => ?_) (fun h => ⟨rfl, by rw [h]; rfl⟩)
      refine bxS hb1 ?_
      rw [ht, sEmpty]
      refine ift.of (fun h2 => ?_) (fun h2 => ⟨rfl, by rw [h2]; simp⟩)
      refine bxL hb1 ⟨rfl, ?_⟩
      rw [h, h2, bne, show ((x.L.len : Int) == 1) = decide (v.l.length = 1) from lenZ hl 1, decide_not]; rfl
    rintro _ _ ⟨rfl, rfl⟩
    exact ⟨rfl, rfl, fun _ => rfl⟩
  have g5 : v.k ≠ 5 := by simpa using h
  refine ift.of (fun h => ?_) (fun h => ?_)
  · have h : v.k = 6 := by simpa using h
    have eo : okN v.k v.n v.s v.l.length = (v.n == 0 && namesS v.s) := by rw [h]; rfl
    have ef : fitN v.k v.s v.l.length = decide (v.l.length ≤ 8) := by rw [h]; rfl
    rw [eo, ef]
    have ed : decide ((x.L.len : Int) ≤ 8) = decide (v.l.length ≤ 8) := by rw [decide_eq_decide]; omega
    refine bxS hb1 ?_
    rw [ht]
    refine cutDot_ok hbs ?_
    have key : ∀ (a b : Str) (two : Bool), a.length ≤ 140737488355328 → b.length ≤ 140737488355328 → namesS v.s = (if two then nameS a && nameS b else nameS a && !decide (v.s = trueS) && !decide (v.s = falseS)) →
        jn (α := Bool × Bool) (fun x118 H119 => H1 = H119 ∧ x118.1 = (v.n == 0 && namesS v.s) ∧ (x118.1 = true → x118.2 = decide (v.l.length ≤ 8)))
          (fun J117 => dr H1 fun Hs121 =>
          ldI Hs121 .i64 ((b1, 0).1, (b1, 0).2 + 1) fun x123 =>
          ldL Hs121 ((b1, 0).1, (b1, 0).2 + 3) fun x125 =>
          ift ((x123 : Int) == 0)
          (c_value_name C a (fun r129 H130 =>
          Heap.le Hs121 H130 ∧
          ift r129
          (ift two
          (c_value_name C b (fun r134 H135 =>
          Heap.le Hs121 H135 ∧
          ift r134
          (J117 (true, (decide (((Sl.len x125 : Int) : Int) ≤ 8))) H135)
          (ift (!two)
          (ldS Hs121 ((b1, 0).1, (b1, 0).2 + 2) fun x138 =>
          ift (!(x138 == ([116, 114, 117, 101] : Str)))
          (ldS Hs121 ((b1, 0).1, (b1, 0).2 + 2) fun x141 =>
          J117 ((!(x141 == ([102, 97, 108, 115, 101] : Str))), (decide (((Sl.len x125 : Int) : Int) ≤ 8))) H135)
          (J117 (false, (decide (((Sl.len x125 : Int) : Int) ≤ 8))) H135))
          (J117 (false, (decide (((Sl.len x125 : Int) : Int) ≤ 8))) H135))) H130)
          (ift (!two)
          (ldS Hs121 ((b1, 0).1, (b1, 0).2 + 2) fun x144 =>
          ift (!(x144 == ([116, 114, 117, 101] : Str)))
          (ldS Hs121 ((b1, 0).1, (b1, 0).2 + 2) fun x147 =>
          J117 ((!(x147 == ([102, 97, 108, 115, 101] : Str))), (decide (((Sl.len x125 : Int) : Int) ≤ 8))) H130)
          (J117 (false, (decide (((Sl.len x125 : Int) : Int) ≤ 8))) H130))
          (J117 (false, (decide (((Sl.len x125 : Int) : Int) ≤ 8))) H130)))
          (J117 (false, (decide (((Sl.len x125 : Int) : Int) ≤ 8))) H130)) H1)
          (J117 (false, (decide (((Sl.len x125 : Int) : Int) ≤ 8))) H1)) := by
      intro a b two ha hb hns
      refine ⟨fun y H' => H1 = H' ∧ y = ((v.n == 0 && namesS v.s), decide (v.l.length ≤ 8)), ?_, ?_⟩
      · refine ⟨H1, Heap.le.refl _, bxN hb1 (bxL hb1 ?_)⟩
        rw [hn, ed]
        refine ift.of (fun h => ?_) (fun h => ⟨rfl, by rw [h]; rfl⟩)
        refine value_name_ok ha ⟨Heap.le.refl _, ?_⟩
        rw [h, hns]
        refine ift.of (fun h2 => ?_) (fun h2 => ⟨rfl, by rw [h2]; cases two <;> rfl⟩)
        rw [h2]
        have eq : ∀ t : Str, (v.s == t) = decide (v.s = t) := fun t => by rw [Bool.eq_iff_iff]; simp
        cases two with
        | true =>
          refine ift_pos rfl ?_
          refine value_name_ok hb ⟨Heap.le.refl _, ?_⟩
          exact ift.of (fun h3 => ⟨rfl, by rw [h3]; rfl⟩) (fun h3 => ift_neg rfl ⟨rfl, by rw [h3]; rfl⟩)
        | false =>
          refine ift_neg rfl (ift_pos rfl ?_)
          refine bxS hb1 ?_
          rw [ht, show (v.s == ([116, 114, 117, 101] : Str)) = decide (v.s = trueS) from eq _]
          refine ift.of (fun h3 => ?_) (fun h3 => ⟨rfl, ?_⟩)
          · refine bxS hb1 ⟨rfl, ?_⟩
            rw [ht, show (v.s == ([102, 97, 108, 115, 101] : Str)) = decide (v.s = falseS) from eq _, h3]; rfl
          · rw [h3]; rfl
      · rintro _ _ ⟨rfl, rfl⟩
        exact ⟨rfl, rfl, fun _ => rfl⟩
    have hc := names_cut v.s
    cases hcd : cutD v.s with
    | none =>
      rw [hcd] at hc
      exact key _ _ _ hbs (by simp) hc
    | some p =>
      obtain ⟨a, b⟩ := p
      rw [hcd] at hc
      have hlen : a.length ≤ v.s.length ∧ b.length ≤ v.s.length := by
        by_cases hm : (46 : UInt8) ∈ v.s
        · obtain ⟨a', b', e1, e2⟩ := cutD_mem _ hm
          have := cutD_at a' b' e2
          rw [← e1, hcd] at this
          injection this with this; injection this with h1 h2
          subst h1; subst h2
          rw [e1]; simp; omega
        · rw [cutD_no _ hm] at hcd; cases hcd
      exact key _ _ _ (by omega) (by omega) hc
  have g6 : v.k ≠ 6 := by simpa using h
  have eo : okN v.k v.n v.s v.l.length = false := by unfold okN; rw [if_neg g1, if_neg g2, if_neg g3, if_neg g4, if_neg g5, if_neg g6]
  rw [eo]
  exact ⟨rfl, rfl, fun hh => by cases hh⟩

theorem value_Check_ok {v : V} {x : TV} {H : Heap} {K : Int → Heap → Prop} (hv : VIs H v x) (hB : VB v) (k : K (checkV v) H) : c_value_Check C x K H := by
  apply c_value_Check.gh
  apply ad_value_Check
  unfold sh_value_Check
  intro b1 n1
  have hb1 : (H.put b1 (.row (T_api_Value.c x))) b1 = some (true, .row (T_api_Value.c x)) := Heap.put_same ..
  have hle1 := Heap.le_put n1 (g := .row (T_api_Value.c x)) (m := true)
  generalize H.put b1 (.row (T_api_Value.c x)) = H1 at *
  unfold checkV at k
  refine bxV hb1 (value_depth_ok (m := 65) (hv.le hle1) hB (by omega) fun r h0 h1 h2 => ?_)
  refine ift.of (fun h => ?_) (fun h => ?_)
  · have h := of_decide_eq_true h
    rw [if_pos (by omega)] at k
    exact ⟨H, Gh.le hle1, k⟩
  have h := of_decide_eq_false h
  rw [if_neg (by omega)] at k
  refine bxV hb1 (look_ok (hv.le hle1) hB fun g hg => ?_)
  refine ift.of (fun h => ?_) (fun h => ?_)
  · have h : formV v = false := by simpa using h
    rw [if_pos h] at k
    exact ⟨H, Gh.le hle1, k⟩
  have hf : formV v = true := by simpa using h
  rw [if_neg (by rw [hf]; decide)] at k
  rw [hg hf]
  refine ift.of (fun h => ?_) (fun h => ?_)
  · have h : fitsV v = false := by simpa using h
    rw [if_pos h] at k
    exact ⟨H, Gh.le hle1, k⟩
  have hf : fitsV v = true := by simpa using h
  rw [if_neg (by rw [hf]; decide)] at k
  exact ⟨H, Gh.le hle1, k⟩
end
end Sx
end

noncomputable section
set_option linter.unusedVariables false
set_option linter.unusedSimpArgs false
set_option maxRecDepth 10000
namespace Sx
open Go Go.Proofs
theorem vcmpS_nil_l (t : Str) : vcmpS [] t = sgn 0 t.length := by
  cases t with
  | nil => rfl
  | cons c t => unfold vcmpS sgn; rw [if_pos (by simp <;> omega)]
theorem vcmpS_nil_r (t : Str) : vcmpS t [] = sgn t.length 0 := by
  cases t with
  | nil => rfl
  | cons c t => unfold vcmpS sgn; rw [if_neg (by simp <;> omega), if_pos (by simp <;> omega)]
theorem sgn_add (a b : Int) (i : Int) : sgn (a + i) (b + i) = sgn a b := by
  unfold sgn
  by_cases h : a < b
  · rw [if_pos h, if_pos (by omega)]
  · rw [if_neg h, if_neg (by omega)]
    by_cases h2 : b < a
    · rw [if_pos h2, if_pos (by omega)]
    · rw [if_neg h2, if_neg (by omega)]
theorem cmpVs_nil_l (t : List V) : cmpVs [] t = sgn 0 t.length := by
  cases t with
  | nil => simp [cmpVs, sgn]
  | cons c t => simp only [cmpVs]; unfold sgn; rw [if_pos (by simp <;> omega)]
theorem cmpVs_nil_r (t : List V) : cmpVs t [] = sgn t.length 0 := by
  cases t with
  | nil => simp [cmpVs, sgn]
  | cons c t => simp only [cmpVs]; unfold sgn; rw [if_neg (by simp <;> omega), if_pos (by simp <;> omega)]
theorem numS_isMin {s : Str} (h : numS s = true) (hm : isMin s = true) : isMin s.tail = false ∧ s.tail ≠ [] := by
  cases s with
  | nil => simp [isMin] at hm
  | cons c t =>
    have hc : c = 45 := by simpa [isMin] using hm
    subst hc
    cases t with
    | nil => simp [numS, unmin] at h
    | cons d u =>
      refine ⟨?_, by simp⟩
      simp only [numS, unmin, List.head?_cons, if_true, List.tail_cons, Bool.and_eq_true, List.all_cons] at h
      have hd := h.1.2.1
      unfold isMin
      simp only [List.tail_cons, List.head?_cons, Option.some.injEq, decide_eq_false_iff_not]
      rintro rfl
      simp [digC] at hd
theorem cmpB_no {a b : Str} (ha : isMin a = false) (hb : isMin b = false) : cmpB a b = cmpD a b := by unfold cmpB; rw [ha, hb]; rfl
theorem numS_ne {s : Str} (h : numS s = true) : s ≠ [] := fun e => by subst e; simp [numS, unmin] at h

section
variable {C : Ctx} {H : Heap}
theorem ints_ok {a b : Int} {K : Int → Heap → Prop} (k : K (sgn a b) H) : c_ref02_ints C a b K H := by
  apply ad_ref02_ints
  unfold sh_ref02_ints
  unfold sgn at k
  refine ift.of (fun h => ?_) (fun h => ?_)
  · rw [if_pos (of_decide_eq_true h)] at k; exact k
  rw [if_neg (of_decide_eq_false h)] at k
  refine ift.of (fun h => ?_) (fun h => ?_)
  · rw [if_pos (of_decide_eq_true h)] at k; exact k
  · rw [if_neg (of_decide_eq_false h)] at k; exact k

theorem texts_ok {a b : Str} {K : Int → Heap → Prop} (ha : a.length ≤ 140737488355328) (hb : b.length ≤ 140737488355328) (k : K (vcmpS a b) H) : c_ref02_texts C a b K H := by
  apply ad_ref02_texts
  unfold sh_ref02_texts
  refine ⟨fun x H' => ∃ i : Nat, x = (i : Int) ∧ i ≤ a.length ∧ i ≤ b.length ∧ H = H' ∧ vcmpS a b = vcmpS (a.drop i) (b.drop i), fun x _ => a.length - x.toNat, ⟨0, rfl, Nat.zero_le _, Nat.zero_le _, rfl, rfl⟩, ?_⟩
  rintro x _ ⟨i, rfl, hi, hi2, rfl, hc⟩
  refine ift.of (fun h => ?_) (fun h => ?_)
  · simp only [Bool.and_eq_true, decide_eq_true_eq] at h
    have h1 : i < a.length := by omega
    have h2 : i < b.length := by omega
    rw [List.drop_eq_getElem_cons h1, List.drop_eq_getElem_cons h2] at hc
    have g1 := getE h1
    have g2 := getE h2
    generalize a[i] = c at *
    generalize b[i] = d at *
    refine ⟨c, by omega, g1, d, by omega, g2, ?_⟩
    have hcl : c.toNat < 256 := c.toBitVec.isLt
    have hdl : d.toNat < 256 := d.toBitVec.isLt
    refine ift.of (fun h => ?_) (fun h => ?_)
    · have hne : c ≠ d := fun e => by subst e; simp at h
      simp only [vcmpS, if_neg hne] at hc
      refine ⟨H, Heap.le.refl _, c, by omega, g1, d, by omega, g2, ?_⟩
      dsimp only
      rw [w_i64 (by omega) (by omega), w_i64 (by omega) (by omega)]
      refine ints_ok ⟨Heap.le.refl _, ?_⟩
      rw [hc] at k; exact k
    · have he : c = d := UInt8.toNat_inj.1 (by simp at h; omega)
      simp only [vcmpS, if_pos he] at hc
      rw [w_i64 (by omega) (by omega)]
      exact ⟨⟨i + 1, by omega, by omega, by omega, rfl, hc⟩, by first | omega | (dsimp only; omega)⟩
  · simp only [Bool.and_eq_false_iff, decide_eq_false_iff_not] at h
    refine ints_ok ?_
    have e : vcmpS a b = sgn a.length b.length := by
      rcases h with h | h
      · have : i = a.length := by omega
        subst this
        rw [hc, List.drop_length, vcmpS_nil_l, List.length_drop]
        have := sgn_add 0 ((b.length - a.length : Nat) : Int) a.length
        rw [← this]; congr 1 <;> omega
      · have : i = b.length := by omega
        subst this
        rw [hc, List.drop_length, vcmpS_nil_r, List.length_drop]
        have := sgn_add ((a.length - b.length : Nat) : Int) 0 b.length
        rw [← this]; congr 1 <;> omega
    rw [e] at k; exact k

theorem isMin_eq {c : UInt8} {t : Str} : ((c.toNat : Int) == 45) = isMin (c :: t) := by rw [e45]; unfold isMin; simp
theorem bigs0_ok {a b : Str} {K : Int → Heap → Prop} (ha : a.length ≤ 140737488355328) (hb : b.length ≤ 140737488355328) (na : a ≠ []) (nb : b ≠ []) (ma : isMin a = false) (mb : isMin b = false) (k : K (cmpD a b) H) : c_ref02_Bigs C a b K H := by
  apply ad_ref02_Bigs
  unfold sh_ref02_Bigs
  cases a with
  | nil => exact absurd rfl na
  | cons c a =>
  cases b with
  | nil => exact absurd rfl nb
  | cons d b =>
  refine ⟨c, by omega, rfl, d, by omega, rfl, ?_⟩
  dsimp only
  rw [isMin_eq (t := a), isMin_eq (t := b), ma, mb]
  refine ift_neg rfl (ift_neg rfl ?_)
  unfold cmpD at k
  refine ift.of (fun h => ?_) (fun h => ?_)
  · refine ints_ok ?_
    rw [if_neg (by simp at h ⊢; omega)] at k; exact k
  · rw [if_pos (by simp at h ⊢; omega)] at k
    exact texts_ok ha hb k
theorem bigs_ok {a b : Str} {K : Int → Heap → Prop} (ha : a.length ≤ 140737488355328) (hb : b.length ≤ 140737488355328) (na : numS a = true) (nb : numS b = true) (k : K (cmpB a b) H) : c_ref02_Bigs C a b K H := by
  by_cases hn : isMin a = false ∧ isMin b = false
  · rw [cmpB_no hn.1 hn.2] at k
    exact bigs0_ok ha hb (numS_ne na) (numS_ne nb) hn.1 hn.2 k
  apply ad_ref02_Bigs
  unfold sh_ref02_Bigs
  have nea := numS_ne na
  have neb := numS_ne nb
  cases a with
  | nil => exact absurd rfl nea
  | cons c a =>
  cases b with
  | nil => exact absurd rfl neb
  | cons d b =>
  refine ⟨c, by omega, rfl, d, by omega, rfl, ?_⟩
  dsimp only
  rw [isMin_eq (t := a), isMin_eq (t := b)]
  unfold cmpB at k
  cases ma : isMin (c :: a) with
  | false =>
    rw [ma] at k hn
    cases mb : isMin (d :: b) with
    | false => rw [mb] at hn; exact absurd ⟨rfl, rfl⟩ hn
    | true => rw [mb] at k; exact ift_pos rfl (ift_neg rfl k)
  | true =>
    rw [ma] at k
    cases mb : isMin (d :: b) with
    | false => rw [mb] at k; exact ift_pos rfl (ift_pos rfl k)
    | true =>
      rw [mb] at k
      refine ift_neg rfl (ift_pos rfl ?_)
      obtain ⟨h1, h2⟩ := numS_isMin na ma
      obtain ⟨h3, h4⟩ := numS_isMin nb mb
      refine ⟨H, Heap.le.refl _, by omega, by simp only [List.length_cons]; omega, by omega, b, ?_, by omega, by simp only [List.length_cons]; omega, by omega, a, ?_, ?_⟩
      · rw [List.take_of_length_le (by omega)]; rfl
      · rw [List.take_of_length_le (by omega)]; rfl
      · simp only [List.length_cons] at ha hb
        exact bigs0_ok (by omega) (by omega) h4 h2 h3 h1 ⟨Heap.le.refl _, k⟩

theorem rows_ok {l m : List V} {s t : Sl} {H : Heap} {K : Int → Heap → Prop} (hs : VRow H s l) (ht : VRow H t m) (hl : l.length ≤ 140737488355328) (hm : m.length ≤ 140737488355328)
    (ih : ∀ v ∈ l, ∀ w ∈ m, ∀ {x y : TV} {K : Int → Heap → Prop}, VIs H v x → VIs H w y → K (cmpV v w) H → c_ref02_cmp C x y K H) (k : K (cmpVs l m) H) : c_ref02_rows C s t K H := by
  apply ad_ref02_rows
  unfold sh_ref02_rows
  have hsl := hs.len
  have htl := ht.len
  rw [hsl, htl]
  refine ⟨fun x H' => ∃ i : Nat, x = (i : Int) ∧ i ≤ l.length ∧ i ≤ m.length ∧ H = H' ∧ cmpVs l m = cmpVs (l.drop i) (m.drop i), fun x _ => l.length - x.toNat, ⟨0, rfl, Nat.zero_le _, Nat.zero_le _, rfl, rfl⟩, ?_⟩
  rintro x _ ⟨i, rfl, hi, hi2, rfl, hc⟩
  refine ift.of (fun h => ?_) (fun h => ?_)
  · simp only [Bool.and_eq_true, decide_eq_true_eq] at h
    have h1 : i < l.length := by omega
    have h2 : i < m.length := by omega
    have m1 := List.getElem_mem h1
    have m2 := List.getElem_mem h2
    rw [List.drop_eq_getElem_cons h1, List.drop_eq_getElem_cons h2] at hc
    refine ⟨H, Heap.le.refl _, ?_⟩
    refine hs.ld (Heap.le.refl _) rfl h1 fun y hy => ?_
    refine ht.ld (Heap.le.refl _) rfl h2 fun z hz => ?_
    refine ih _ m1 _ m2 hy hz ⟨Heap.le.refl _, ?_⟩
    simp only [cmpVs] at hc
    refine ift.of (fun h => ?_) (fun h => ?_)
    · rw [if_pos (by simpa using h)] at hc
      rw [hc] at k; exact k
    · rw [if_neg (by simpa using h)] at hc
      rw [w_i64 (by omega) (by omega)]
      exact ⟨⟨i + 1, by omega, by omega, by omega, rfl, hc⟩, by first | omega | (dsimp only; omega)⟩
  · simp only [Bool.and_eq_false_iff, decide_eq_false_iff_not] at h
    refine ints_ok ?_
    have e : cmpVs l m = sgn l.length m.length := by
      rcases h with h | h
      · have : i = l.length := by omega
        subst this
        rw [hc, List.drop_length, cmpVs_nil_l, List.length_drop]
        have := sgn_add 0 ((m.length - l.length : Nat) : Int) l.length
        rw [← this]; congr 1 <;> omega
      · have : i = m.length := by omega
        subst this
        rw [hc, List.drop_length, cmpVs_nil_r, List.length_drop]
        have := sgn_add ((l.length - m.length : Nat) : Int) 0 m.length
        rw [← this]; congr 1 <;> omega
    rw [e] at k; exact k

theorem cmpV_eq (v w : V) : cmpV v w = if v.k ≠ w.k then sgn v.k w.k else if v.k = 3 then cmpB v.s w.s else if v.k = 4 then vcmpS v.s w.s else if v.k = 5 then cmpVs v.l w.l else if v.k = 6 then (if vcmpS v.s w.s ≠ 0 then vcmpS v.s w.s else cmpVs v.l w.l) else sgn v.n w.n := by
  obtain ⟨k, n, s, l⟩ := v
  obtain ⟨k', n', s', l'⟩ := w
  simp only [cmpV, V.k, V.n, V.s, V.l]
  rfl

theorem cmp_ok {v w : V} {x y : TV} {H : Heap} {K : Int → Heap → Prop} (hv : VIs H v x) (hw : VIs H w y) (hB : VB v) (hB2 : VB w) (hF : formV v = true) (hF2 : formV w = true) (k : K (cmpV v w) H) : c_ref02_cmp C x y K H := by
  refine V.rec_ (P := fun v => ∀ {w x y H} {K : Int → Heap → Prop}, VIs H v x → VIs H w y → VB v → VB w → formV v = true → formV w = true → K (cmpV v w) H → c_ref02_cmp C x y K H) (fun v ih => ?_) v hv hw hB hB2 hF hF2 k
  clear hv hw hB hB2 hF hF2 k
  intro w x y H K hv hw hB hB2 hF hF2 k
  apply c_ref02_cmp.gh
  apply ad_ref02_cmp
  unfold sh_ref02_cmp
  intro b1 n1 b3 n3
  have hb3 : ((H.put b1 (.row (T_api_Value.c x))).put b3 (.row (T_api_Value.c y))) b3 = some (true, .row (T_api_Value.c y)) := Heap.put_same ..
  have hne : b1 ≠ b3 := fun e => by rw [e, Heap.put_same] at n3; cases n3
  have hb1 : ((H.put b1 (.row (T_api_Value.c x))).put b3 (.row (T_api_Value.c y))) b1 = some (true, .row (T_api_Value.c x)) := by rw [Heap.put_ne _ _ _ hne, Heap.put_same]
  have hle := (Heap.le_put n1 (g := .row (T_api_Value.c x)) (m := true)).trans (Heap.le_put n3 (g := .row (T_api_Value.c y)) (m := true))
  generalize (H.put b1 (.row (T_api_Value.c x))).put b3 (.row (T_api_Value.c y)) = H1 at *
  have k' : ∃ H0, Gh C H1 H0 ∧ K (cmpV v w) H0 := ⟨H, Gh.le hle, k⟩
  have hk1 := hB.k
  have hk2 := hB2.k
  rw [formV_eq, Bool.and_eq_true] at hF hF2
  rw [cmpV_eq] at k'
  refine bxK hb1 (bxK hb3 ?_)
  rw [hv.kind, hw.kind]
  refine ift.of (fun h => ?_) (fun h => ?_)
  · refine bxK hb1 (bxK hb3 ?_)
    rw [hv.kind, hw.kind, w_i64 (by omega) (by omega), w_i64 (by omega) (by omega)]
    refine ints_ok ?_
    rw [if_pos (by simpa using h)] at k'; exact k'
  have hkk : v.k = w.k := by simpa using h
  rw [if_neg (by simp [hkk])] at k'
  have hr1 := hv.row.le hle
  have hr2 := hw.row.le hle
  have hrows : ∀ {K : Int → Heap → Prop}, K (cmpVs v.l w.l) H1 → c_ref02_rows C x.L y.L K H1 := fun k => by
    refine rows_ok hr1 hr2 hB.l hB2.l (fun p hp q hq {x' y'} {K'} hx hy kk => ih p hp hx hy (hB.ls.mem hp) (hB2.ls.mem hq) (formVs_mem hp hF.2) (formVs_mem hq hF2.2) kk) k
  refine bxK hb1 ?_
  rw [hv.kind]
  refine ift.of (fun h => ?_) (fun h => ?_)
  · have h : v.k = 3 := by simpa using h
    rw [if_pos h] at k'
    refine bxS hb1 (bxS hb3 ?_)
    rw [hv.txt, hw.txt]
    exact bigs_ok hB.s hB2.s (okN_num hF.1 h) (okN_num hF2.1 (by omega)) k'
  rw [if_neg (by simpa using h)] at k'
  refine ift.of (fun h => ?_) (fun h => ?_)
  · have h : v.k = 4 := by simpa using h
    rw [if_pos h] at k'
    refine bxS hb1 (bxS hb3 ?_)
    rw [hv.txt, hw.txt]
    exact texts_ok hB.s hB2.s k'
  rw [if_neg (by simpa using h)] at k'
  refine ift.of (fun h => ?_) (fun h => ?_)
  · have h : v.k = 5 := by simpa using h
    rw [if_pos h] at k'
    exact bxL hb1 (bxL hb3 (hrows k'))
  rw [if_neg (by simpa using h)] at k'
  refine ift.of (fun h => ?_) (fun h => ?_)
  · have h : v.k = 6 := by simpa using h
    rw [if_pos h] at k'
    refine bxS hb1 (bxS hb3 ?_)
    rw [hv.txt, hw.txt]
    refine texts_ok hB.s hB2.s ?_
    refine ift.of (fun h => ?_) (fun h => ?_)
    · rw [if_pos (by simpa using h)] at k'; exact k'
    · rw [if_neg (by simpa using h)] at k'
      exact bxL hb1 (bxL hb3 (hrows k'))
  rw [if_neg (by simpa using h)] at k'
  refine bxN hb1 (bxN hb3 ?_)
  rw [hv.num, hw.num]
  exact ints_ok k'

theorem last_ok {a b : Bool} {K : Int → Heap → Prop} (k : K (lastB a b) H) : c_ref02_last C a b K H := by
  apply ad_ref02_last
  unfold sh_ref02_last
  unfold lastB at k
  refine ift.of (fun h => ?_) (fun h => ?_)
  · rw [if_pos (by simpa using h)] at k; exact k
  rw [if_neg (by simpa using h)] at k
  refine ift.of (fun h => ?_) (fun h => ?_)
  · rw [if_pos h] at k; exact k
  · rw [if_neg (by rw [h]; decide)] at k; exact k

theorem mayV_dec (v : V) : ((checkV v : Int) == 0) = mayV v := by unfold mayV; rw [Bool.eq_iff_iff]; simp
theorem mayV_form {v : V} (h : mayV v = true) : formV v = true := ((mayV_iff v).1 h).2.1

theorem ref02_Cmp_ok {v w : V} {x y : TV} {H : Heap} {K : Int → Heap → Prop} (hv : VIs H v x) (hw : VIs H w y) (hB : VB v) (hB2 : VB w) (hs : vsize v ≤ 4611686018427387904) (hs2 : vsize w ≤ 4611686018427387904) (k : K (cmpA v w) H) : c_ref02_Cmp C x y K H := by
  apply c_ref02_Cmp.gh
  apply ad_ref02_Cmp
  unfold sh_ref02_Cmp
  intro b1 n1 b3 n3
  have hb3 : ((H.put b1 (.row (T_api_Value.c x))).put b3 (.row (T_api_Value.c y))) b3 = some (true, .row (T_api_Value.c y)) := Heap.put_same ..
  have hne : b1 ≠ b3 := fun e => by rw [e, Heap.put_same] at n3; cases n3
  have hb1 : ((H.put b1 (.row (T_api_Value.c x))).put b3 (.row (T_api_Value.c y))) b1 = some (true, .row (T_api_Value.c x)) := by rw [Heap.put_ne _ _ _ hne, Heap.put_same]
  have hle := (Heap.le_put n1 (g := .row (T_api_Value.c x)) (m := true)).trans (Heap.le_put n3 (g := .row (T_api_Value.c y)) (m := true))
  generalize (H.put b1 (.row (T_api_Value.c x))).put b3 (.row (T_api_Value.c y)) = H1 at *
  have k' : ∃ H0, Gh C H1 H0 ∧ K (cmpA v w) H0 := ⟨H, Gh.le hle, k⟩
  refine ⟨H1, Heap.le.refl _, bxV hb1 (bxV hb3 ?_)⟩
  refine ref02_Check_ok (hv.le hle) hB hs ⟨Heap.le.refl _, ?_⟩
  refine ref02_Check_ok (hw.le hle) hB2 hs2 ⟨Heap.le.refl _, ?_⟩
  rw [mayV_dec, mayV_dec]
  unfold cmpA at k'
  refine ift.of (fun h => ?_) (fun h => ?_)
  · refine last_ok ?_
    rw [if_neg (by intro hh; rw [hh.1, hh.2] at h; cases h)] at k'; exact k'
  · have h1 : mayV v = true ∧ mayV w = true := by simpa using h
    rw [if_pos h1] at k'
    exact bxV hb1 (bxV hb3 (cmp_ok (hv.le hle) (hw.le hle) hB hB2 (mayV_form h1.1) (mayV_form h1.2) k'))

theorem mayR_no {l : List V} {v : V} (h : v ∈ l) (hv : mayV v = false) : mayR l = false := by unfold mayR; rw [List.all_eq_false]; exact ⟨v, h, by simp [hv]⟩
theorem Row_ok {l : List V} {t : Sl} {H : Heap} {K : Bool → Heap → Prop} (ht : VRow H t l) (hl : l.length ≤ 140737488355328) (hB : VBs l) (hs : ∀ v ∈ l, vsize v ≤ 4611686018427387904) (k : K (mayR l) H) : c_ref02_Row C t K H := by
  apply ad_ref02_Row
  unfold sh_ref02_Row
  rw [ht.len]
  refine ⟨fun x H' => ∃ i : Nat, x = (i : Int) ∧ i ≤ l.length ∧ H = H' ∧ (l.take i).all mayV = true, fun x _ => l.length - x.toNat, ⟨0, rfl, Nat.zero_le _, rfl, rfl⟩, ?_⟩
  rintro x _ ⟨i, rfl, hi, rfl, ha⟩
  refine ift.of (fun h => ?_) (fun h => ?_)
  · have hlt : i < l.length := by have := of_decide_eq_true h; omega
    have hm := List.getElem_mem hlt
    refine ht.ld (Heap.le.refl _) rfl hlt fun y hy => ?_
    refine ref02_Check_ok hy (hB.mem hm) (hs _ hm) ?_
    rw [bne, mayV_dec]
    refine ift.of (fun h => ?_) (fun h => ?_)
    · rw [mayR_no hm (by simpa using h)] at k; exact k
    · rw [w_i64 (by omega) (by omega)]
      refine ⟨⟨i + 1, by omega, by omega, rfl, ?_⟩, by first | omega | (dsimp only; omega)⟩
      rw [all_take hlt, ha]; simpa using h
  · have hie : i = l.length := by have := of_decide_eq_false h; omega
    rw [hie, List.take_length] at ha
    unfold mayR at k
    rw [ha] at k; exact k

theorem ref02_CmpRows_ok {l m : List V} {s t : Sl} {H : Heap} {K : Int → Heap → Prop} (hs : VRow H s l) (ht : VRow H t m) (hl : l.length ≤ 140737488355328) (hm : m.length ≤ 140737488355328) (hB : VBs l) (hB2 : VBs m) (hz : ∀ v ∈ l, vsize v ≤ 4611686018427387904) (hz2 : ∀ v ∈ m, vsize v ≤ 4611686018427387904) (k : K (cmpR l m) H) : c_ref02_CmpRows C s t K H := by
  apply ad_ref02_CmpRows
  unfold sh_ref02_CmpRows
  refine Row_ok hs hl hB hz (Row_ok ht hm hB2 hz2 ?_)
  unfold cmpR at k
  refine ift.of (fun h => ?_) (fun h => ?_)
  · refine last_ok ?_
    rw [if_neg (by intro hh; rw [hh.1, hh.2] at h; cases h)] at k; exact k
  · have h1 : mayR l = true ∧ mayR m = true := by simpa using h
    rw [if_pos h1] at k
    refine rows_ok hs ht hl hm (fun p hp q hq {x' y'} {K'} hx hy kk => ?_) k
    have e1 := List.all_eq_true.1 h1.1 p hp
    have e2 := List.all_eq_true.1 h1.2 q hq
    exact cmp_ok hx hy (hB.mem hp) (hB2.mem hq) (mayV_form e1) (mayV_form e2) kk

end
end Sx
end

noncomputable section
set_option linter.unusedVariables false
set_option linter.unusedSimpArgs false
namespace Sx
open Go
section
variable {H : Type} {enc : TypeId × Value → H} {P : Program} {W : World}
/-- the type of values -/
structure ValT (P : Program) (t tl : TypeId) : Prop where
  st : ∃ fs : Array Field, P.underlying t = some (.struct fs) ∧ fs.size = 4 ∧ (∃ f tk, fs[0]? = some f ∧ f.type = tk ∧ f.offset = 0 ∧ P.underlying tk = some (.int .u8) ∧ P.cellsOf tk = 1) ∧ (∃ f tk, fs[1]? = some f ∧ f.type = tk ∧ f.offset = 1 ∧ P.underlying tk = some (.int .i64) ∧ P.cellsOf tk = 1) ∧ (∃ f tk, fs[2]? = some f ∧ f.type = tk ∧ f.offset = 2 ∧ P.underlying tk = some .string ∧ P.cellsOf tk = 1) ∧ (∃ f, fs[3]? = some f ∧ f.type = tl ∧ f.offset = 3 ∧ P.cellsOf tl = 1)
  cells : P.cellsOf t = 4
  sl : P.underlying tl = some (.slice t)

end
end Sx
end

noncomputable section
set_option linter.unusedVariables false
set_option linter.unusedSimpArgs false
namespace Sx
open Go
section
variable {H : Type} {enc : TypeId × Value → H} {P : Program} {W : World}
theorem rows_genw {t tl : TypeId} {css : List (List Value)} {s : Sl} (hl : css.length = s.len) (hr : rdsl (heapOf W) s css.flatten)
    (ih : ∀ c ∈ css, ∃ (v : V) (x : TV), c = T_api_Value.c x ∧ VIs (heapOf W) v x ∧ VB v) : ∃ l : List V, VRow (heapOf W) s l ∧ VBs l := by
  have key : ∀ (css : List (List Value)), (∀ c ∈ css, ∃ (v : V) (x : TV), c = T_api_Value.c x ∧ VIs (heapOf W) v x ∧ VB v) →
      ∃ (l : List V) (xs : List TV), css.flatten = xs.flatMap T_api_Value.c ∧ css.length = xs.length ∧ VsAre (heapOf W) l xs ∧ VBs l := by
    intro css
    induction css with
    | nil => intro _; exact ⟨[], [], rfl, rfl, trivial, trivial⟩
    | cons c css ihc =>
      intro hh
      obtain ⟨v, x, h1, h2, h3⟩ := hh c (List.mem_cons_self ..)
      obtain ⟨l, xs, g1, g2, g3, g4⟩ := ihc fun c' hc => hh c' (List.mem_cons_of_mem _ hc)
      exact ⟨v :: l, x :: xs, by rw [List.flatten_cons, List.flatMap_cons, g1, h1], by simp [g2], ⟨h2, g3⟩, ⟨h3, g4⟩⟩
  obtain ⟨l, xs, g1, g2, g3, g4⟩ := key css ih
  exact ⟨l, ⟨xs, by rw [← g1]; exact hr, by omega, g3⟩, g4⟩

theorem valw_of {t tl : TypeId} (hT : ValT P t tl) (hb : 1 ≤ P.bytesOf t) : ∀ (n : Nat) {cs : List Value}, TrW P W n t cs → ∃ (v : V) (y : TV), cs = T_api_Value.c y ∧ VIs (heapOf W) v y ∧ VB v := by
  intro n
  induction n using Nat.strongRecOn with
  | _ n ih =>
  intro cs h
  obtain ⟨fs, hu, hfs, ⟨f0, t0, a0, b0, c0, d0, e0⟩, ⟨f1, t1, a1, b1, c1, d1, e1⟩, ⟨f2, t2, a2, b2, c2, d2, e2⟩, ⟨f3, a3, b3, c3, e3⟩⟩ := hT.st
  obtain ⟨hl, m, rfl, hf⟩ := h.struct hu
  rw [hT.cells] at hl
  match cs, hl with
  | [q0, q1, q2, q3], _ =>
  have g0 := hf 0 f0 a0
  have g1 := hf 1 f1 a1
  have g2 := hf 2 f2 a2
  have g3 := hf 3 f3 a3
  rw [b0, c0, e0] at g0
  rw [b1, c1, e1] at g1
  rw [b2, c2, e2] at g2
  rw [b3, c3, e3] at g3
  simp at g0 g1 g2 g3
  obtain ⟨n0, k0, k2⟩ := g0.int d0
  obtain ⟨n1, l0, l2⟩ := g1.int d1
  obtain ⟨s2, m0, m1, m2⟩ := g2.str d2
  obtain ⟨s, css, m', hm', p0, p1, p2, p3, p4, p5, p6⟩ := g3.slice hT.sl hT.cells (by omega)
  have hmx : reachBytes = 140737488351232 := rfl
  rw [hmx] at p3 m2
  obtain ⟨l, r1, r2⟩ := rows_genw (t := t) (tl := tl) p4 p5 fun c hc => ih m' (by omega) (p6 c hc).2
  have hll := r1.len
  have hsl : s.len ≤ 140737488351232 := Nat.le_trans (Nat.le_mul_of_pos_right _ (by omega)) p3
  refine ⟨.mk n0 n1 s2 l, ⟨n0, n1, s2, s⟩, ?_, VIs_iff.2 ⟨rfl, rfl, rfl, r1⟩, ⟨?_, ?_, by omega, by omega, r2⟩⟩
  · injection k0 with k0
    injection l0 with l0
    injection m0 with m0
    injection p0 with p0
    subst k0; subst l0; subst m0; subst p0
    simp [T_api_Value.c]
  · simpa [Lit.wf, IntKind.min, IntKind.max, IntKind.signed, IntKind.bits] using k2
  · simpa [Lit.wf, IntKind.min, IntKind.max, IntKind.signed, IntKind.bits] using l2

end
end Sx
end

noncomputable section
set_option linter.unusedVariables false
set_option linter.unusedSimpArgs false
namespace Sx
open Go Go.Proofs
section
variable {H : Type} {enc : TypeId × Value → H} {P : Program} {W : World}
theorem argw_vals {t tl : TypeId} (hT : ValT P t tl) (hb : 1 ≤ P.bytesOf t) {base : Nat} {v : Value} {d : DataW H} {p : List MemPlace} (hv : Value.okWide P W .any base tl v) (h : DataW.Trod enc P W 0 (fun _ => true) true tl v d p) (hw : ∀ w ∈ d.weights P tl, w ≤ reachBytes) :
    ∃ (s : Sl) (l : List V), v = slv s ∧ VRow (heapOf W) s l ∧ VBs l ∧ l.length ≤ 140737488355328 := by
  obtain ⟨s, css, m, h1, h2, h3, h4, h5, h6, h7⟩ := argw_slice hT.sl hT.cells (by omega) hv h hw
  obtain ⟨l, r1, r2⟩ := rows_genw (t := t) (tl := tl) h5 h6 fun c hc => valw_of hT hb m (h7 c hc).2
  have hll := r1.len
  have hmx : reachBytes = 140737488351232 := rfl
  rw [hmx] at h4
  have hsl : s.len ≤ 140737488351232 := Nat.le_trans (Nat.le_mul_of_pos_right _ (by omega)) h4
  exact ⟨s, l, h1, r1, r2, by omega⟩
end
end Sx
end

noncomputable section
set_option linter.unusedVariables false
set_option linter.unusedSimpArgs false
namespace Sx
open Go Go.Proofs
theorem vslt_cons (a b : UInt8) (s t : Str) : slt (a :: s) (b :: t) = (decide (a < b) || (decide (a = b) && slt s t)) := by
  simp only [slt, Op.bytesLess]
  by_cases h : a < b
  · simp [h]
  · by_cases h2 : a = b
    · subst h2; simp [h]
    · simp [h, h2]
theorem sgn_self (a : Int) : sgn a a = 0 := by unfold sgn; rw [if_neg (by omega), if_neg (by omega)]
theorem sgn_rng (a b : Int) : -1 ≤ sgn a b ∧ sgn a b ≤ 1 := by unfold sgn; (split; · omega); (split <;> omega)
theorem sgn_neg {a b : Int} : sgn a b < 0 ↔ a < b := by unfold sgn; (split; · omega); (split <;> omega)
theorem sgn_zero {a b : Int} : sgn a b = 0 ↔ a = b := by unfold sgn; (split; · omega); (split <;> omega)
theorem vslt : ∀ s t : Str, slt s t = decide (vcmpS s t < 0) ∧ (vcmpS s t = 0 ↔ s = t) ∧ -1 ≤ vcmpS s t ∧ vcmpS s t ≤ 1
  | [], [] => ⟨rfl, by simp [vcmpS], by simp [vcmpS], by simp [vcmpS]⟩
  | [], b :: t => ⟨rfl, by simp [vcmpS], by simp [vcmpS], by simp [vcmpS]⟩
  | a :: s, [] => ⟨rfl, by simp [vcmpS], by simp [vcmpS], by simp [vcmpS]⟩
  | a :: s, b :: t => by
    obtain ⟨h1, h2, h3, h4⟩ := vslt s t
    rw [vslt_cons, h1]
    simp only [vcmpS]
    by_cases he : a = b
    · subst he
      have : ¬ a < a := fun h => Nat.lt_irrefl _ h
      refine ⟨by simp [this], ?_, by rw [if_pos rfl]; exact h3, by rw [if_pos rfl]; exact h4⟩
      rw [if_pos rfl, h2]; simp
    · have hne : ¬ (a.toNat : Int) = b.toNat := fun h => he (UInt8.toNat_inj.1 (by omega))
      have hz : ¬ sgn a.toNat b.toNat = 0 := fun h => hne (sgn_zero.1 h)
      refine ⟨?_, ?_, ?_⟩
      · simp only [he, if_false, decide_false, Bool.false_and, Bool.or_false]
        rw [decide_eq_decide, sgn_neg, UInt8.lt_iff_toNat_lt]; omega
      · simp only [he, if_false, List.cons.injEq, false_and]; exact ⟨fun h => hz h, fun h => h.elim⟩
      · rw [if_neg he]; exact sgn_rng _ _

section
variable {C : Ctx} {H : Heap}
theorem pcmp8_ok {a b : Int} {K : Int → Heap → Prop} (k : K (sgn a b) H) : c_cmp_Compare_uint8 C a b K H := by
  have nan : ∀ {a : Int} {K : Bool → Heap → Prop}, K false H → c_cmp_isNaN_uint8 C a K H := fun {a K} k => by
    apply ad_cmp_isNaN_uint8
    unfold sh_cmp_isNaN_uint8
    simpa using k
  apply ad_cmp_Compare_uint8
  unfold sh_cmp_Compare_uint8
  refine nan (nan (ift_neg rfl (ift_neg rfl ?_)))
  unfold sgn at k
  refine ift.of (fun h => ?_) (fun h => ?_)
  · rw [if_pos (of_decide_eq_true h)] at k; exact k
  rw [if_neg (of_decide_eq_false h)] at k
  refine ift.of (fun h => ?_) (fun h => ?_)
  · rw [if_pos (show b < a from of_decide_eq_true h)] at k; exact k
  · rw [if_neg (show ¬ b < a from of_decide_eq_false h)] at k; exact k
theorem pcmp64_ok {a b : Int} {K : Int → Heap → Prop} (k : K (sgn a b) H) : c_cmp_Compare_int64 C a b K H := by
  have nan : ∀ {a : Int} {K : Bool → Heap → Prop}, K false H → c_cmp_isNaN_int64 C a K H := fun {a K} k => by
    apply ad_cmp_isNaN_int64
    unfold sh_cmp_isNaN_int64
    simpa using k
  apply ad_cmp_Compare_int64
  unfold sh_cmp_Compare_int64
  refine nan (nan (ift_neg rfl (ift_neg rfl ?_)))
  unfold sgn at k
  refine ift.of (fun h => ?_) (fun h => ?_)
  · rw [if_pos (of_decide_eq_true h)] at k; exact k
  rw [if_neg (of_decide_eq_false h)] at k
  refine ift.of (fun h => ?_) (fun h => ?_)
  · rw [if_pos (show b < a from of_decide_eq_true h)] at k; exact k
  · rw [if_neg (show ¬ b < a from of_decide_eq_false h)] at k; exact k
theorem pcmpI_ok {a b : Int} {K : Int → Heap → Prop} (k : K (sgn a b) H) : c_cmp_Compare_int C a b K H := by
  have nan : ∀ {a : Int} {K : Bool → Heap → Prop}, K false H → c_cmp_isNaN_int C a K H := fun {a K} k => by
    apply ad_cmp_isNaN_int
    unfold sh_cmp_isNaN_int
    simpa using k
  apply ad_cmp_Compare_int
  unfold sh_cmp_Compare_int
  refine nan (nan (ift_neg rfl (ift_neg rfl ?_)))
  unfold sgn at k
  refine ift.of (fun h => ?_) (fun h => ?_)
  · rw [if_pos (of_decide_eq_true h)] at k; exact k
  rw [if_neg (of_decide_eq_false h)] at k
  refine ift.of (fun h => ?_) (fun h => ?_)
  · rw [if_pos (show b < a from of_decide_eq_true h)] at k; exact k
  · rw [if_neg (show ¬ b < a from of_decide_eq_false h)] at k; exact k
theorem pcmpS_ok {a b : Str} {K : Int → Heap → Prop} (k : K (vcmpS a b) H) : c_cmp_Compare_string C a b K H := by
  have nan : ∀ {a : Str} {K : Bool → Heap → Prop}, K false H → c_cmp_isNaN_string C a K H := fun {a K} k => by
    apply ad_cmp_isNaN_string
    unfold sh_cmp_isNaN_string
    simpa using k
  apply ad_cmp_Compare_string
  unfold sh_cmp_Compare_string
  obtain ⟨h1, h2, h3, h4⟩ := vslt a b
  refine nan (nan (ift_neg rfl (ift_neg rfl ?_)))
  refine ift.of (fun h => ?_) (fun h => ?_)
  · rw [h1] at h
    have := of_decide_eq_true h
    rw [show vcmpS a b = -1 by omega] at k; exact k
  have hn : ¬ vcmpS a b < 0 := by rw [h1] at h; exact of_decide_eq_false h
  rw [h, Bool.false_or]
  refine ift.of (fun h => ?_) (fun h => ?_)
  · have : ¬ a = b := by simpa using h
    have : ¬ vcmpS a b = 0 := fun e => this (h2.1 e)
    rw [show vcmpS a b = 1 by omega] at k; exact k
  · have : a = b := by simpa using h
    rw [h2.2 this] at k; exact k
theorem por_ok {b : Nat} {m : Bool} {l : List Int} {n : Nat} {K : Int → Heap → Prop} (hb : H b = some (m, .row (l.map fun x => Value.int .i64 x))) (hn : n = l.length) (hl : l.length ≤ 1000) (k : K ((l.find? fun x => x != 0).getD 0) H) : c_cmp_Or_int C (Sl.of (some (b, 0)) n n) K H := by
  subst hn
  apply ad_cmp_Or_int
  unfold sh_cmp_Or_int
  refine ⟨fun x H' => ∃ i : Nat, x = (i : Int) ∧ i ≤ l.length ∧ H = H' ∧ (l.find? fun x => x != 0) = ((l.drop i).find? fun x => x != 0), fun x _ => l.length - x.toNat, ⟨0, rfl, Nat.zero_le _, rfl, rfl⟩, ?_⟩
  rintro x _ ⟨i, rfl, hi, rfl, hc⟩
  refine ift.of (fun h => ?_) (fun h => ?_)
  · have h1 : i < l.length := by have := of_decide_eq_true h; simp only [Sl.of] at this; omega
    refine ⟨(b, 0), rfl, rfl, by omega, of_decide_eq_true h, l[i], ?_, ?_⟩
    · simp [rd, hb, GO.cells?, h1]
    rw [List.drop_eq_getElem_cons h1, List.find?_cons] at hc
    refine ift.of (fun h => ?_) (fun h => ?_)
    · rw [h] at hc
      rw [hc] at k; exact k
    · rw [h] at hc
      rw [w_i64 (by omega) (by omega)]
      exact ⟨⟨i + 1, by omega, by omega, rfl, hc⟩, by first | omega | (dsimp only; omega)⟩
  · have : i = l.length := by have := of_decide_eq_false h; simp only [Sl.of] at this; omega
    subst this
    rw [hc, List.drop_length] at k; exact k
theorem pHasPrefix_ok {s p : Str} {K : Bool → Heap → Prop} (k : K (p.isPrefixOf s) H) : c_strings_HasPrefix C s p K H := by
  apply ad_strings_HasPrefix
  unfold sh_strings_HasPrefix
  exact hasPrefix_ok k
theorem pre45 (s : Str) : ([45] : Str).isPrefixOf s = isMin s := by
  cases s with
  | nil => rfl
  | cons c s =>
    simp only [List.isPrefixOf, isMin, List.head?_cons, Option.some.injEq, Bool.and_true]
    by_cases h : c = 45
    · subst h; rfl
    · have h2 : ¬ (45 : UInt8) = c := fun e => h e.symm
      simp [h, h2]
theorem or2 (a b : Int) : (([a, b].find? fun x => x != 0).getD 0) = if a ≠ 0 then a else b := by
  by_cases h : a = 0
  · subst h
    by_cases hb : b = 0
    · subst hb; rfl
    · simp [hb]
  · simp [h]
theorem or3 (a b c : Int) : (([a, b, c].find? fun x => x != 0).getD 0) = if a ≠ 0 then a else if b ≠ 0 then b else c := by
  by_cases h : a = 0
  · subst h
    have := or2 b c
    simpa using this
  · simp [h]
theorem pbigs0_ok {a b : Str} {K : Int → Heap → Prop} (ma : isMin a = false) (mb : isMin b = false) (k : K (cmpD a b) H) : c_value_bigs C a b K H := by
  apply c_value_bigs.gh
  apply ad_value_bigs
  unfold sh_value_bigs
  refine pHasPrefix_ok (pHasPrefix_ok ?_)
  rw [pre45, pre45, ma, mb]
  refine ift_neg rfl (ift_neg rfl (ift_neg rfl ?_))
  refine pcmpI_ok (pcmpS_ok ?_)
  intro c hc
  refine por_ok (l := [sgn a.length b.length, vcmpS a b]) (Heap.put_same ..) rfl (by simp) ?_
  refine ⟨H, Gh.le (Heap.le_put hc), ?_⟩
  rw [or2]
  unfold cmpD at k
  by_cases h : a.length = b.length
  · rw [if_pos h] at k
    rw [if_neg (by rw [h, sgn_self]; simp)]; exact k
  · rw [if_neg h] at k
    rw [if_pos (fun e => h (by have := sgn_zero.1 e; omega))]; exact k
theorem pbigs_ok {a b : Str} {K : Int → Heap → Prop} (na : numS a = true) (nb : numS b = true) (k : K (cmpB a b) H) : c_value_bigs C a b K H := by
  by_cases hn : isMin a = false ∧ isMin b = false
  · rw [cmpB_no hn.1 hn.2] at k; exact pbigs0_ok hn.1 hn.2 k
  apply ad_value_bigs
  unfold sh_value_bigs
  refine pHasPrefix_ok (pHasPrefix_ok ?_)
  rw [pre45, pre45]
  unfold cmpB at k
  refine ift.of (fun h => ?_) (fun h => ?_)
  · obtain ⟨h1, h2⟩ := Bool.and_eq_true_iff.1 h
    rw [if_pos h1, if_pos h2] at k
    have la : 1 ≤ a.length := by have := numS_ne na; cases a <;> simp_all
    have lb : 1 ≤ b.length := by have := numS_ne nb; cases b <;> simp_all
    refine ⟨H, Heap.le.refl _, by omega, by omega, by omega, _, rfl, by omega, by omega, by omega, _, rfl, ?_⟩
    have ea : (a.take (a.length : Int).toNat).drop (1 : Int).toNat = a.tail := by simp
    have eb : (b.take (b.length : Int).toNat).drop (1 : Int).toNat = b.tail := by simp
    rw [ea, eb]
    exact pbigs0_ok (numS_isMin nb h2).1 (numS_isMin na h1).1 ⟨Heap.le.refl _, k⟩
  refine ift.of (fun h1 => ?_) (fun h1 => ?_)
  · rw [if_pos h1] at k
    have h2 : isMin b = false := by rw [h1] at h; simpa using h
    rw [if_neg (by rw [h2]; simp)] at k; exact k
  rw [if_neg (by rw [h1]; simp)] at k
  refine ift.of (fun h2 => ?_) (fun h2 => ?_)
  · rw [if_pos h2] at k; exact k
  · exact absurd ⟨h1, h2⟩ hn

theorem plast_ok {a b : Bool} {K : Int → Heap → Prop} (k : K (lastB a b) H) : c_value_last C a b K H := by
  apply ad_value_last
  unfold sh_value_last
  unfold lastB at k
  refine ift.of (fun h => ?_) (fun h => ?_)
  · rw [if_pos (by simpa using h)] at k; exact k
  rw [if_neg (by simpa using h)] at k
  refine ift.of (fun h => ?_) (fun h => ?_)
  · rw [if_pos h] at k; exact k
  · rw [if_neg (by rw [h]; decide)] at k; exact k

theorem may1_ok {v : V} {x : TV} {K : Bool → Heap → Prop} (hv : VIs H v x) (hB : VB v) (k : K (!mayV v) H) : c_value_may_1 C x K H := by
  apply c_value_may_1.gh
  apply ad_value_may_1
  unfold sh_value_may_1
  intro c hc
  have hle := Heap.le_put hc (g := .row (T_api_Value.c x)) (m := true)
  refine bxV (Heap.put_same ..) ?_
  refine value_Check_ok (hv.le hle) hB ⟨H, Gh.le hle, ?_⟩
  rw [bne, mayV_dec]; exact k
/-- a function that is asked of each value -/
theorem indexF_ok {l : List V} {s : Sl} {f : Value} {φ : V → Bool} {K : Int → Heap → Prop} (hs : VRow H s l) (hl : l.length ≤ 140737488355328)
    (hf : ∀ v x, v ∈ l → VIs H v x → ∀ Φ : Value → Heap → Prop, Φ (.bool (φ v)) H → callU Tryz.prog C f [.agg (T_api_Value.c x).toArray] H Φ)
    (k : ∀ i : Int, (0 ≤ i ↔ l.any φ = true) → K i H) : c_slices_IndexFunc_api_Value_api_Value C s f K H := by
  apply ad_slices_IndexFunc_api_Value_api_Value
  unfold sh_slices_IndexFunc_api_Value_api_Value
  rw [hs.len]
  refine ⟨fun x H' => ∃ i : Nat, x = (i : Int) ∧ i ≤ l.length ∧ H = H' ∧ (l.take i).any φ = false, fun x _ => l.length - x.toNat, ⟨0, rfl, Nat.zero_le _, rfl, rfl⟩, ?_⟩
  rintro x _ ⟨i, rfl, hi, rfl, ha⟩
  refine ift.of (fun h => ?_) (fun h => ?_)
  · have hlt : i < l.length := by have := of_decide_eq_true h; omega
    have hm := List.getElem_mem hlt
    refine hs.ld (Heap.le.refl _) rfl hlt fun y hy => ?_
    refine hf _ y hm hy _ ⟨_, rfl, ?_⟩
    refine ift.of (fun h => ?_) (fun h => ?_)
    · exact k _ ⟨fun _ => List.any_eq_true.2 ⟨_, hm, h⟩, fun _ => by omega⟩
    · rw [w_i64 (by omega) (by omega)]
      refine ⟨⟨i + 1, by omega, by omega, rfl, ?_⟩, by first | omega | (dsimp only; omega)⟩
      rw [List.take_add_one, List.getElem?_eq_getElem hlt, Option.toList_some, List.any_append, ha]; simp [h]
  · have hie : i = l.length := by have := of_decide_eq_false h; omega
    rw [hie, List.take_length] at ha
    exact k _ ⟨fun h => by omega, fun h => by rw [h] at ha; cases ha⟩
theorem containsF_ok {l : List V} {s : Sl} {f : Value} {φ : V → Bool} {K : Bool → Heap → Prop} (hs : VRow H s l) (hl : l.length ≤ 140737488355328)
    (hf : ∀ v x, v ∈ l → VIs H v x → ∀ Φ : Value → Heap → Prop, Φ (.bool (φ v)) H → callU Tryz.prog C f [.agg (T_api_Value.c x).toArray] H Φ)
    (k : K (l.any φ) H) : c_slices_ContainsFunc_api_Value_api_Value C s f K H := by
  apply ad_slices_ContainsFunc_api_Value_api_Value
  unfold sh_slices_ContainsFunc_api_Value_api_Value
  refine indexF_ok hs hl hf fun i hi => ?_
  have : decide (i ≥ 0) = l.any φ := by
    rw [Bool.eq_iff_iff, decide_eq_true_eq]; exact hi
  rw [this]; exact k
theorem pmay_ok {l : List V} {s : Sl} {K : Bool → Heap → Prop} (hs : VRow H s l) (hl : l.length ≤ 140737488355328) (hB : VBs l) (k : K (mayR l) H) : c_value_may C s K H := by
  apply ad_value_may
  unfold sh_value_may
  refine containsF_ok (φ := fun v => !mayV v) hs hl (fun v x hv hx Φ hΦ => ⟨_, [], [], rfl, ok_value_may_1, ?_⟩) ?_
  · have h : c_value_may_1 C x (fun r H2 => Φ (.bool r) H2) H := may1_ok hx (hB.mem hv) hΦ
    exact Spec.mono h fun v H2 ⟨r, hv, h⟩ => by rw [hv]; exact h
  · have : (!(l.any fun v => !mayV v)) = mayR l := by unfold mayR; rw [List.not_any_eq_all_not]; simp
    rw [this]; exact k

/-- rows, value by value -/
theorem compareF_ok {l m : List V} {s t : Sl} {f : Value} {K : Int → Heap → Prop} (hs : VRow H s l) (ht : VRow H t m) (hl : l.length ≤ 140737488355328) (hm : m.length ≤ 140737488355328)
    (hf : ∀ v x w y, v ∈ l → w ∈ m → ∀ A : Heap, H.le A → VIs A v x → VIs A w y → ∀ Φ : Value → Heap → Prop, Φ (.int .i64 (cmpV v w)) A → callU Tryz.prog C f [.agg (T_api_Value.c x).toArray, .agg (T_api_Value.c y).toArray] A Φ)
    (k : K (cmpVs l m) H) : c_slices_CompareFunc_api_Value_api_Value_api_Value_api_Value C s t f K H := by
  apply c_slices_CompareFunc_api_Value_api_Value_api_Value_api_Value.gh
  apply ad_slices_CompareFunc_api_Value_api_Value_api_Value_api_Value
  unfold sh_slices_CompareFunc_api_Value_api_Value_api_Value_api_Value
  rw [hs.len, ht.len]
  refine ⟨fun x A => ∃ i : Nat, x = (i : Int) ∧ i ≤ l.length ∧ i ≤ m.length ∧ H.le A ∧ cmpVs l m = cmpVs (l.drop i) (m.drop i), fun x _ => l.length - x.toNat, ⟨0, rfl, Nat.zero_le _, Nat.zero_le _, Heap.le.refl _, rfl⟩, ?_⟩
  rintro x A ⟨i, rfl, hi, hi2, hA, hc⟩
  refine ift.of (fun h => ?_) (fun h => ?_)
  · have h1 : i < l.length := by have := of_decide_eq_true h; omega
    have m1 := List.getElem_mem h1
    refine hs.ld hA rfl h1 fun y hy => ?_
    intro b1 n1
    have hle1 := Heap.le_put n1 (g := .row (T_api_Value.c T_api_Value.zero)) (m := true)
    refine ⟨_, Heap.put_same .., by simp [T_api_Value.c], ?_⟩
    have e1 : ∀ z : TV, splice (T_api_Value.c T_api_Value.zero) 0 (T_api_Value.c z) = T_api_Value.c z := fun z => by simp [splice, T_api_Value.c]
    dsimp only
    rw [e1, Heap.put_put]
    have hle1 := Heap.le_put n1 (g := .row (T_api_Value.c y)) (m := true)
    refine ift.of (fun h => ?_) (fun h => ?_)
    · have h2 : i = m.length := by have := of_decide_eq_true h; omega
      refine ⟨H, Gh.le (hA.trans hle1), ?_⟩
      subst h2
      rw [hc, List.drop_length, List.drop_eq_getElem_cons h1] at k; exact k
    · have h2 : i < m.length := by have := of_decide_eq_false h; omega
      have m2 := List.getElem_mem h2
      rw [List.drop_eq_getElem_cons h1, List.drop_eq_getElem_cons h2] at hc
      refine ht.ld (hA.trans hle1) rfl h2 fun z hz => ?_
      intro b2 n2
      refine ⟨_, Heap.put_same .., by simp [T_api_Value.c], ?_⟩
      dsimp only
      rw [e1, Heap.put_put]
      have hle2 := Heap.le_put n2 (g := .row (T_api_Value.c z)) (m := true)
      have hne : b1 ≠ b2 := fun e => by rw [← e, Heap.put_same] at n2; cases n2
      refine bxV (m := true) (by rw [Heap.put_ne _ _ _ hne, Heap.put_same]) (bxV (m := true) (Heap.put_same ..) ?_)
      have hle := (hA.trans hle1).trans hle2
      refine hf _ y _ z m1 m2 _ hle (hy.le hle) (hz.le hle) _ ⟨_, rfl, ?_⟩
      simp only [cmpVs] at hc
      refine ift.of (fun h => ?_) (fun h => ?_)
      · rw [if_pos (by simpa using h)] at hc
        rw [hc] at k; exact ⟨H, Gh.le hle, k⟩
      · rw [if_neg (by simpa using h)] at hc
        rw [w_i64 (by omega) (by omega)]
        exact ⟨⟨i + 1, by omega, by omega, by omega, hle, hc⟩, by first | omega | (dsimp only; omega)⟩
  · have h1 : i = l.length := by have := of_decide_eq_false h; omega
    subst h1
    rw [hc, List.drop_length, cmpVs_nil_l, List.length_drop] at k
    refine ift.of (fun h => ?_) (fun h => ?_)
    · have := of_decide_eq_true h
      rw [show sgn 0 ((m.length - l.length : Nat) : Int) = -1 by unfold sgn; rw [if_pos (by omega)]] at k
      exact ⟨H, Gh.le hA, k⟩
    · have := of_decide_eq_false h
      rw [show sgn 0 ((m.length - l.length : Nat) : Int) = 0 by rw [sgn_zero]; omega] at k
      exact ⟨H, Gh.le hA, k⟩
theorem prows_gen {l m : List V} {s t : Sl} {K : Int → Heap → Prop} (hs : VRow H s l) (ht : VRow H t m) (hl : l.length ≤ 140737488355328) (hm : m.length ≤ 140737488355328)
    (ih : ∀ v ∈ l, ∀ w ∈ m, ∀ {A : Heap} {x y : TV} {K : Int → Heap → Prop}, VIs A v x → VIs A w y → K (cmpV v w) A → c_value_item_cmp C x y K A) (k : K (cmpVs l m) H) : c_value_rows C s t K H := by
  apply ad_value_rows
  unfold sh_value_rows
  refine compareF_ok hs ht hl hm (fun v x w y hv hw A hA hx hy Φ hΦ => ⟨_, [], [], rfl, ok_value_rows_1, ?_⟩) k
  have h : c_value_rows_1 C x y (fun r H2 => Φ (.int .i64 r) H2) A := by
    apply c_value_rows_1.gh
    apply ad_value_rows_1
    unfold sh_value_rows_1
    intro b1 n1 b3 n3
    have hb3 : ((A.put b1 (.row (T_api_Value.c x))).put b3 (.row (T_api_Value.c y))) b3 = some (true, .row (T_api_Value.c y)) := Heap.put_same ..
    have hne : b1 ≠ b3 := fun e => by rw [e, Heap.put_same] at n3; cases n3
    have hb1 : ((A.put b1 (.row (T_api_Value.c x))).put b3 (.row (T_api_Value.c y))) b1 = some (true, .row (T_api_Value.c x)) := by rw [Heap.put_ne _ _ _ hne, Heap.put_same]
    have hle := (Heap.le_put n1 (g := .row (T_api_Value.c x)) (m := true)).trans (Heap.le_put n3 (g := .row (T_api_Value.c y)) (m := true))
    generalize (A.put b1 (.row (T_api_Value.c x))).put b3 (.row (T_api_Value.c y)) = B at *
    refine bxV hb1 (bxV hb3 ?_)
    exact ih v hv w hw (hx.le hle) (hy.le hle) ⟨A, Gh.le hle, hΦ⟩
  exact Spec.mono h fun v H2 ⟨r, hv, h⟩ => by rw [hv]; exact h

theorem okN_kinds {k n : Int} {s : Str} {m : Nat} (h : okN k n s m = true) : (k = 1 ∧ s = [] ∧ m = 0) ∨ (k = 2 ∧ s = [] ∧ m = 0) ∨ (k = 3 ∧ n = 0 ∧ m = 0) ∨ (k = 4 ∧ n = 0 ∧ m = 0) ∨ (k = 5 ∧ n = 0 ∧ s = []) ∨ (k = 6 ∧ n = 0) := by
  unfold okN at h
  split at h
  · rename_i e
    simp only [Bool.and_eq_true, decide_eq_true_eq, List.isEmpty_iff] at h
    exact .inl ⟨e, h.1.2, h.2⟩
  split at h
  · rename_i e
    simp only [Bool.and_eq_true, decide_eq_true_eq, List.isEmpty_iff] at h
    exact .inr (.inl ⟨e, h.1, h.2⟩)
  split at h
  · rename_i e
    simp only [Bool.and_eq_true, decide_eq_true_eq, beq_iff_eq] at h
    exact .inr (.inr (.inl ⟨e, h.1.2, h.2⟩))
  split at h
  · rename_i e
    simp only [Bool.and_eq_true, decide_eq_true_eq, beq_iff_eq] at h
    exact .inr (.inr (.inr (.inl ⟨e, h.1, h.2⟩)))
  split at h
  · rename_i e
    simp only [Bool.and_eq_true, decide_eq_true_eq, beq_iff_eq, List.isEmpty_iff] at h
    exact .inr (.inr (.inr (.inr (.inl ⟨e, h.1.1, h.1.2⟩))))
  split at h
  · rename_i e
    simp only [Bool.and_eq_true, decide_eq_true_eq, beq_iff_eq] at h
    exact .inr (.inr (.inr (.inr (.inr ⟨e, h.1⟩))))
  · cases h

theorem pcmp_ok {v w : V} {x y : TV} {H : Heap} {K : Int → Heap → Prop} (hv : VIs H v x) (hw : VIs H w y) (hB : VB v) (hB2 : VB w) (hF : formV v = true) (hF2 : formV w = true) (k : K (cmpV v w) H) : c_value_item_cmp C x y K H := by
  refine V.rec_ (P := fun v => ∀ {w x y H} {K : Int → Heap → Prop}, VIs H v x → VIs H w y → VB v → VB w → formV v = true → formV w = true → K (cmpV v w) H → c_value_item_cmp C x y K H) (fun v ih => ?_) v hv hw hB hB2 hF hF2 k
  clear hv hw hB hB2 hF hF2 k
  intro w x y H K hv hw hB hB2 hF hF2 k
  apply c_value_item_cmp.gh
  apply ad_value_item_cmp
  unfold sh_value_item_cmp
  intro b1 n1 b3 n3
  have hb3 : ((H.put b1 (.row (T_api_Value.c x))).put b3 (.row (T_api_Value.c y))) b3 = some (true, .row (T_api_Value.c y)) := Heap.put_same ..
  have hne : b1 ≠ b3 := fun e => by rw [e, Heap.put_same] at n3; cases n3
  have hb1 : ((H.put b1 (.row (T_api_Value.c x))).put b3 (.row (T_api_Value.c y))) b1 = some (true, .row (T_api_Value.c x)) := by rw [Heap.put_ne _ _ _ hne, Heap.put_same]
  have hle := (Heap.le_put n1 (g := .row (T_api_Value.c x)) (m := true)).trans (Heap.le_put n3 (g := .row (T_api_Value.c y)) (m := true))
  generalize (H.put b1 (.row (T_api_Value.c x))).put b3 (.row (T_api_Value.c y)) = H1 at *
  have k' : ∃ H0, Gh C H1 H0 ∧ K (cmpV v w) H0 := ⟨H, Gh.le hle, k⟩
  rw [formV_eq, Bool.and_eq_true] at hF hF2
  rw [cmpV_eq] at k'
  refine bxK hb1 (bxK hb3 ?_)
  rw [hv.kind, hw.kind]
  refine pcmp8_ok ?_
  refine ift.of (fun h => ?_) (fun h => ?_)
  · rw [if_pos (fun e => by rw [e, sgn_self] at h; simp at h)] at k'; exact k'
  have hkk : v.k = w.k := sgn_zero.1 (by simpa using h)
  rw [if_neg (by simp [hkk])] at k'
  have hr1 := hv.row.le hle
  have hr2 := hw.row.le hle
  refine bxK hb1 ?_
  rw [hv.kind]
  refine ift.of (fun h => ?_) (fun h3 => ?_)
  · have h : v.k = 3 := by simpa using h
    rw [if_pos h] at k'
    refine bxS hb1 (bxS hb3 ?_)
    rw [hv.txt, hw.txt]
    exact pbigs_ok (okN_num hF.1 h) (okN_num hF2.1 (by omega)) k'
  have h3 : ¬ v.k = 3 := by simpa using h3
  rw [if_neg h3] at k'
  refine ift.of (fun h => ?_) (fun h4 => ?_)
  · have h : v.k = 4 := by simpa using h
    rw [if_pos h] at k'
    refine bxS hb1 (bxS hb3 ?_)
    rw [hv.txt, hw.txt]
    exact pcmpS_ok k'
  have h4 : ¬ v.k = 4 := by simpa using h4
  rw [if_neg h4] at k'
  refine ⟨H1, Heap.le.refl _, ?_⟩
  refine bxN hb1 (bxN hb3 (bxS hb1 (bxS hb3 (bxL hb1 (bxL hb3 ?_)))))
  rw [hv.num, hw.num, hv.txt, hw.txt]
  refine pcmp64_ok ⟨Heap.le.refl _, pcmpS_ok ⟨Heap.le.refl _, ?_⟩⟩
  refine prows_gen hr1 hr2 hB.l hB2.l (fun p hp q hq {A x' y'} {K'} hx hy kk => ih p hp hx hy (hB.ls.mem hp) (hB2.ls.mem hq) (formVs_mem hp hF.2) (formVs_mem hq hF2.2) kk) ⟨Heap.le.refl _, ?_⟩
  intro b5 n5
  have hle5 := Heap.le_put n5 (g := .row [Value.int .i64 (sgn v.n w.n), .int .i64 (vcmpS v.s w.s), .int .i64 (cmpVs v.l w.l)]) (m := true)
  refine ⟨hle5, ?_⟩
  refine por_ok (l := [sgn v.n w.n, vcmpS v.s w.s, cmpVs v.l w.l]) (Heap.put_same ..) rfl (by simp) ⟨hle5, ?_⟩
  rw [or3]
  obtain ⟨H0, hg, hk⟩ := k'
  refine ⟨H0, (Gh.le hle5).trans hg, ?_⟩
  rcases okN_kinds hF.1 with ⟨e, e1, e2⟩ | ⟨e, e1, e2⟩ | ⟨e, _⟩ | ⟨e, _⟩ | ⟨e, e1, e2⟩ | ⟨e, e1⟩
  · rcases okN_kinds hF2.1 with ⟨f, f1, f2⟩ | ⟨f, _⟩ | ⟨f, _⟩ | ⟨f, _⟩ | ⟨f, _⟩ | ⟨f, _⟩ <;> try (exfalso; omega)
    rw [if_neg (by omega), if_neg (by omega)] at hk
    have l1 := List.length_eq_zero_iff.1 e2
    have l2 := List.length_eq_zero_iff.1 f2
    rw [e1, f1, l1, l2]
    split
    · exact hk
    · rename_i hz
      have : sgn v.n w.n = 0 := by omega
      rw [this] at hk
      simpa [vcmpS, cmpVs] using hk
  · rcases okN_kinds hF2.1 with ⟨f, _⟩ | ⟨f, f1, f2⟩ | ⟨f, _⟩ | ⟨f, _⟩ | ⟨f, _⟩ | ⟨f, _⟩ <;> try (exfalso; omega)
    rw [if_neg (by omega), if_neg (by omega)] at hk
    have l1 := List.length_eq_zero_iff.1 e2
    have l2 := List.length_eq_zero_iff.1 f2
    rw [e1, f1, l1, l2]
    split
    · exact hk
    · rename_i hz
      have : sgn v.n w.n = 0 := by omega
      rw [this] at hk
      simpa [vcmpS, cmpVs] using hk
  · exact absurd e h3
  · exact absurd e h4
  · rcases okN_kinds hF2.1 with ⟨f, _⟩ | ⟨f, _⟩ | ⟨f, _⟩ | ⟨f, _⟩ | ⟨f, f1, f2⟩ | ⟨f, _⟩ <;> try (exfalso; omega)
    rw [if_pos e] at hk
    rw [e1, f1, e2, f2, sgn_self]
    simpa [vcmpS] using hk
  · rcases okN_kinds hF2.1 with ⟨f, _⟩ | ⟨f, _⟩ | ⟨f, _⟩ | ⟨f, _⟩ | ⟨f, _⟩ | ⟨f, f1⟩ <;> try (exfalso; omega)
    rw [if_neg (by omega), if_pos e] at hk
    rw [e1, f1, sgn_self]
    simpa using hk

theorem prows_ok {l m : List V} {s t : Sl} {K : Int → Heap → Prop} (hs : VRow H s l) (ht : VRow H t m) (hl : l.length ≤ 140737488355328) (hm : m.length ≤ 140737488355328) (hB : VBs l) (hB2 : VBs m) (hF : mayR l = true) (hF2 : mayR m = true) (k : K (cmpVs l m) H) : c_value_rows C s t K H :=
  prows_gen hs ht hl hm (fun p hp q hq {A x' y'} {K'} hx hy kk => pcmp_ok hx hy (hB.mem hp) (hB2.mem hq) (mayV_form (List.all_eq_true.1 hF p hp)) (mayV_form (List.all_eq_true.1 hF2 q hq)) kk) k
theorem pCmpRows_ok {l m : List V} {s t : Sl} {K : Int → Heap → Prop} (hs : VRow H s l) (ht : VRow H t m) (hl : l.length ≤ 140737488355328) (hm : m.length ≤ 140737488355328) (hB : VBs l) (hB2 : VBs m) (k : K (cmpR l m) H) : c_value_CmpRows C s t K H := by
  apply ad_value_CmpRows
  unfold sh_value_CmpRows
  refine pmay_ok hs hl hB (pmay_ok ht hm hB2 ?_)
  unfold cmpR at k
  refine ift.of (fun h => ?_) (fun h => ?_)
  · refine plast_ok ?_
    rw [if_neg (by intro hh; rw [hh.1, hh.2] at h; cases h)] at k; exact k
  · have h1 : mayR l = true ∧ mayR m = true := by simpa using h
    rw [if_pos h1] at k
    exact prows_ok hs ht hl hm hB hB2 h1.1 h1.2 k
end
end Sx
end

noncomputable section
set_option linter.unusedVariables false
set_option linter.unusedSimpArgs false
namespace Sx
open Go Go.Proofs
theorem vsizes_take {l : List V} {i : Nat} (h : i < l.length) : vsizes (l.take (i + 1)) = vsizes (l.take i) + vsize l[i] := by
  have e : ∀ a b : List V, vsizes (a ++ b) = vsizes a + vsizes b := by
    intro a
    induction a with
    | nil => intro b; simp [vsizes]
    | cons v a ih => intro b; simp only [List.cons_append, vsizes, ih]; omega
  rw [List.take_add_one, List.getElem?_eq_getElem h, Option.toList_some, e]; simp [vsizes]
section
variable {C : Ctx} {H : Heap}
theorem div50 {n : Nat} (h : n ≤ 140737488355328) : w .i64 (1 + w .i64 (Int.tdiv (n : Int) 50)) = ((1 + n / 50 : Nat) : Int) := by
  have e : Int.tdiv (n : Int) 50 = ((n / 50 : Nat) : Int) := by
    rw [Int.tdiv_eq_ediv_of_nonneg (by omega)]; omega
  rw [e, w_i64 (x := ((n / 50 : Nat) : Int)) (by omega) (by omega), w_i64 (by omega) (by omega)]; omega
theorem weight_ok {v : V} {x : TV} {H : Heap} {m : Nat} {K : Int → Heap → Prop} (hv : VIs H v x) (hB : VB v) (h0 : 1 ≤ m) (hm : m ≤ 1000000) (k : ∀ r : Nat, 1 ≤ r → r ≤ 8796093022208 + m → (r < m → vsize v ≤ r) → K r H) : c_law02_weight C x m K H := by
  refine V.rec_ (P := fun v => ∀ {x H} {m : Nat} {K : Int → Heap → Prop}, VIs H v x → VB v → 1 ≤ m → m ≤ 1000000 → (∀ r : Nat, 1 ≤ r → r ≤ 8796093022208 + m → (r < m → vsize v ≤ r) → K r H) → c_law02_weight C x m K H) (fun v ih => ?_) v hv hB h0 hm k
  clear hv hB h0 hm k m
  intro x H m K hv hB h0 hm k
  apply c_law02_weight.gh
  apply ad_law02_weight
  unfold sh_law02_weight
  intro b1 n1
  have hr := hv.row
  have hl := hr.len
  have hbl := hB.l
  have hbs := hB.s
  have hsz : vsize v = vsizes v.l + 1 := by obtain ⟨k, n, s, l⟩ := v; rfl
  have hb1 : (H.put b1 (.row (T_api_Value.c x))) b1 = some (true, .row (T_api_Value.c x)) := Heap.put_same ..
  have hle1 := Heap.le_put n1 (g := .row (T_api_Value.c x)) (m := true)
  generalize H.put b1 (.row (T_api_Value.c x)) = H1 at *
  refine bxS hb1 ?_
  rw [hv.txt, div50 hbs]
  have hd : v.s.length / 50 ≤ 2814749767107 := by omega
  refine ⟨fun y A => A = H1 ∧ ∃ i n : Nat, y = ((n : Int), (i : Int)) ∧ i ≤ v.l.length ∧ 1 ≤ n ∧ n ≤ 8796093022208 + m ∧ (n < m → 1 + vsizes (v.l.take i) ≤ n), fun y _ => v.l.length - y.2.toNat,
    ⟨rfl, 0, _, rfl, Nat.zero_le _, by omega, by omega, fun _ => by simp [vsizes]⟩, ?_⟩
  rintro _ A ⟨rfl, i, n, rfl, hi, hn1, hn2, hn3⟩
  refine bxL hb1 ?_
  rw [hl]
  refine ift.of (fun h => ?_) (fun h => ?_)
  · simp only [Bool.and_eq_true, decide_eq_true_eq] at h
    have hlt : i < v.l.length := by omega
    have hnm : n < m := by omega
    have hmem := List.getElem_mem hlt
    refine bxL hb1 ?_
    refine hr.ld hle1 rfl hlt fun y hy => ?_
    rw [w_i64 (x := (m : Int) - n) (by omega) (by omega), show (m : Int) - n = ((m - n : Nat) : Int) by omega]
    refine ih _ hmem (hy.le hle1) (hB.ls.mem hmem) (by omega) (by omega) fun r r1 r2 r3 => ?_
    rw [w_i64 (by omega) (by omega), w_i64 (by omega) (by omega)]
    refine ⟨⟨rfl, i + 1, n + r, by simp, by omega, by omega, by omega, fun hh => ?_⟩, by first | omega | (dsimp only; omega)⟩
    rw [vsizes_take hlt]
    have := r3 (by omega)
    have := hn3 hnm
    omega
  · refine ⟨H, Gh.le hle1, k n hn1 hn2 fun hh => ?_⟩
    have hie : i = v.l.length := by
      have hnm := hh
      simp only [Bool.and_eq_false_iff, decide_eq_false_iff_not] at h
      omega
    have := hn3 hh
    rw [hie, List.take_length] at this
    omega
theorem heavy_ok {l : List V} {s : Sl} {H : Heap} {K : Bool → Heap → Prop} (hs : VRow H s l) (hl : l.length ≤ 140737488355328) (hB : VBs l) (k : ∀ b : Bool, (b = false → vsizes l ≤ 600) → K b H) : c_law02_heavy C s K H := by
  apply ad_law02_heavy
  unfold sh_law02_heavy
  rw [hs.len]
  refine ⟨fun y A => A = H ∧ ∃ i n : Nat, y = ((n : Int), (i : Int)) ∧ i ≤ l.length ∧ n ≤ 8796093024000 ∧ (n < 600 → vsizes (l.take i) ≤ n), fun y _ => l.length - y.2.toNat,
    ⟨rfl, 0, 0, rfl, Nat.zero_le _, by omega, fun _ => by simp [vsizes]⟩, ?_⟩
  rintro _ A ⟨rfl, i, n, rfl, hi, hn2, hn3⟩
  refine ift.of (fun h => ?_) (fun h => ?_)
  · simp only [Bool.and_eq_true, decide_eq_true_eq] at h
    have hlt : i < l.length := by omega
    have hnm : n < 600 := by omega
    have hmem := List.getElem_mem hlt
    refine hs.ld (Heap.le.refl _) rfl hlt fun y hy => ?_
    refine weight_ok (m := 600) hy (hB.mem hmem) (by omega) (by omega) fun r r1 r2 r3 => ?_
    rw [w_i64 (by omega) (by omega), w_i64 (by omega) (by omega)]
    refine ⟨⟨rfl, i + 1, n + r, by simp, by omega, by omega, fun hh => ?_⟩, by first | omega | (dsimp only; omega)⟩
    rw [vsizes_take hlt]
    have := r3 (by omega)
    have := hn3 hnm
    omega
  · refine k _ fun hh => ?_
    have hn : ¬ ((n : Int) ≥ 600) := of_decide_eq_false hh
    have hie : i = l.length := by
      simp only [Bool.and_eq_false_iff, decide_eq_false_iff_not] at h
      omega
    have := hn3 (by omega)
    rw [hie, List.take_length] at this
    omega

end
end Sx
end

noncomputable section
set_option linter.unusedVariables false
set_option linter.unusedSimpArgs false
namespace Sx
open Go Go.Proofs
section
variable {C : Ctx} {H : Heap}
theorem cmpR_one (v w : V) : cmpR [v] [w] = cmpA v w := by
  unfold cmpR cmpA
  have e1 : ∀ v : V, mayR [v] = mayV v := fun v => by simp [mayR]
  rw [e1, e1]
  have e2 : cmpVs [v] [w] = cmpV v w := by
    simp only [cmpVs]
    split
    · rfl
    · omega
  rw [e2]
theorem one_row {A : Heap} {b : Nat} {v : V} {x : TV} (h : A b = some (true, .row (T_api_Value.c x ++ []))) (hv : VIs A v x) : VRow A (Sl.of (some (b, 0)) 1 1) [v] := by
  refine ⟨[x], .inr ⟨rfl, _, rfl, rds_row h fun j v hj => ?_⟩, rfl, hv, trivial⟩
  simpa using hj
theorem pCmp_ok {v w : V} {x y : TV} {K : Int → Heap → Prop} (hv : VIs H v x) (hw : VIs H w y) (hB : VB v) (hB2 : VB w) (k : K (cmpA v w) H) : c_value_Cmp C x y K H := by
  apply c_value_Cmp.gh
  apply ad_value_Cmp
  unfold sh_value_Cmp
  intro b1 n1 b3 n3
  have hb3 : ((H.put b1 (.row (T_api_Value.c x))).put b3 (.row (T_api_Value.c y))) b3 = some (true, .row (T_api_Value.c y)) := Heap.put_same ..
  have hne : b1 ≠ b3 := fun e => by rw [e, Heap.put_same] at n3; cases n3
  have hb1 : ((H.put b1 (.row (T_api_Value.c x))).put b3 (.row (T_api_Value.c y))) b1 = some (true, .row (T_api_Value.c x)) := by rw [Heap.put_ne _ _ _ hne, Heap.put_same]
  have hle := (Heap.le_put n1 (g := .row (T_api_Value.c x)) (m := true)).trans (Heap.le_put n3 (g := .row (T_api_Value.c y)) (m := true))
  generalize (H.put b1 (.row (T_api_Value.c x))).put b3 (.row (T_api_Value.c y)) = H1 at *
  refine bxV hb1 ?_
  intro b7 n7
  have hle7 := Heap.le_put n7 (g := .row (T_api_Value.c x ++ [])) (m := true)
  refine bxV (hle7 _ _ hb3) ?_
  intro b11 n11
  have hle11 := Heap.le_put n11 (g := .row (T_api_Value.c y ++ [])) (m := true)
  have ha := (hle.trans hle7).trans hle11
  refine pCmpRows_ok (l := [v]) (m := [w]) (one_row (hle11 _ _ (Heap.put_same ..)) (hv.le ha)) (one_row (Heap.put_same ..) (hw.le ha)) (by simp) (by simp) ⟨hB, trivial⟩ ⟨hB2, trivial⟩ ⟨H, Gh.le ha, ?_⟩
  rw [cmpR_one]; exact k
theorem vsizes_mem_le {l : List V} {v : V} (h : v ∈ l) : vsize v ≤ vsizes l := vsize_mem h
theorem ValueCompares_ok {la lb : List V} {sa sb : Sl} {K : Bool → Heap → Prop} (ha : VRow H sa la) (hb : VRow H sb lb) (na : la.length ≤ 140737488355328) (nb : lb.length ≤ 140737488355328)
    (Ba : VBs la) (Bb : VBs lb) (k : ∀ H2, K true H2) : c_law02_ValueCompares C sa sb K H := by
  apply ad_law02_ValueCompares
  unfold sh_law02_ValueCompares
  refine heavy_ok ha na Ba fun b1 h1 => ?_
  refine ⟨fun b A => A = H ∧ (b = false → vsizes la ≤ 600 ∧ vsizes lb ≤ 600), ift.of (fun h => ⟨rfl, fun h => by cases h⟩) (fun hb1 => heavy_ok hb nb Bb fun b2 h2 => ⟨rfl, fun hb2 => ⟨h1 hb1, h2 hb2⟩⟩), ?_⟩
  rintro b3 A ⟨rfl, h3⟩
  refine ift.of (fun _ => awake_ok fun H2 _ => k H2) (fun h => ?_)
  obtain ⟨z1, z2⟩ := h3 h
  have za : ∀ v ∈ la, vsize v ≤ 4611686018427387904 := fun v hv => by have := vsizes_mem_le hv; omega
  have zb : ∀ v ∈ lb, vsize v ≤ 4611686018427387904 := fun v hv => by have := vsizes_mem_le hv; omega
  refine pCmpRows_ok ha hb na nb Ba Bb (ref02_CmpRows_ok ha hb na nb Ba Bb za zb ?_)
  refine ift_neg (by simp) ?_
  refine ⟨fun x B => B = A ∧ ∃ i : Nat, x = (i : Int) ∧ i ≤ la.length, fun x _ => la.length - x.toNat, ⟨rfl, 0, rfl, Nat.zero_le _⟩, ?_⟩
  rintro _ B ⟨rfl, i, rfl, hi⟩
  rw [ha.len, hb.len]
  refine ift.of (fun hlt => ?_) (fun hlt => awake_ok fun H2 _ => k H2)
  simp only [Bool.and_eq_true, decide_eq_true_eq] at hlt
  have l1 : i < la.length := by omega
  have l2 : i < lb.length := by omega
  have m1 := List.getElem_mem l1
  have m2 := List.getElem_mem l2
  refine ⟨B, Heap.le.refl _, ?_⟩
  refine ha.ld (Heap.le.refl _) rfl l1 fun x1 hx1 => hb.ld (Heap.le.refl _) rfl l2 fun y1 hy1 => ha.ld (Heap.le.refl _) rfl l1 fun x2 hx2 => hb.ld (Heap.le.refl _) rfl l2 fun y2 hy2 => ?_
  refine pCmp_ok hx1 hy1 (Ba.mem m1) (Bb.mem m2) ⟨Heap.le.refl _, ref02_Cmp_ok hx2 hy2 (Ba.mem m1) (Bb.mem m2) (za _ m1) (zb _ m2) ⟨Heap.le.refl _, ?_⟩⟩
  refine ift_neg (by simp) ?_
  rw [w_i64 (by omega) (by omega)]
  exact ⟨⟨rfl, i + 1, by omega, by omega⟩, by first | omega | (dsimp only; omega)⟩
end
end Sx
end

