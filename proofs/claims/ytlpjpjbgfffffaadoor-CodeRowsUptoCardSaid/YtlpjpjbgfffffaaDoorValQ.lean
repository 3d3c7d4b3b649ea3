/-
  Values: plain laws.
-/
import Derived.Test.YtlpjpjbgfffffaaDoorSxUse2
set_option linter.unusedVariables false
set_option linter.unusedSimpArgs false
namespace Sx
open Go

inductive V where
  | mk (k n : Int) (s : Str) (l : List V)

namespace V
def k : V → Int | .mk k _ _ _ => k
def n : V → Int | .mk _ n _ _ => n
def s : V → Str | .mk _ _ s _ => s
def l : V → List V | .mk _ _ _ l => l
end V

mutual
def vsize : V → Nat
  | .mk _ _ _ l => vsizes l + 1
def vsizes : List V → Nat
  | [] => 0
  | v :: l => vsize v + vsizes l
end
theorem vsize_mem : ∀ {l : List V} {v : V}, v ∈ l → vsize v ≤ vsizes l
  | w :: l, v, h => by
    simp only [vsizes]
    rcases List.mem_cons.1 h with rfl | h
    · omega
    · have := vsize_mem h; omega
theorem vsize_l {v w : V} (h : w ∈ v.l) : vsize w < vsize v := by
  obtain ⟨k, n, s, l⟩ := v
  have := vsize_mem (show w ∈ l from h)
  simp only [vsize]; omega
/-- by how great a value is -/
theorem V.rec_ {P : V → Prop} (h : ∀ v, (∀ w ∈ v.l, P w) → P v) (v : V) : P v := by
  have : ∀ n v, vsize v ≤ n → P v := by
    intro n
    induction n with
    | zero => intro v hv; obtain ⟨k, n, s, l⟩ := v; simp [vsize] at hv
    | succ n ih => intro v hv; exact h v fun w hw => ih w (by have := vsize_l hw; omega)
  exact this _ v (Nat.le_refl _)

/-! how deep -/
mutual
def dep : V → Nat
  | .mk _ _ _ l => deps l + 1
def deps : List V → Nat
  | [] => 0
  | v :: l => max (dep v) (deps l)
end
theorem dep_eq (v : V) : dep v = deps v.l + 1 := by obtain ⟨k, n, s, l⟩ := v; rfl
theorem deps_append : ∀ (a b : List V), deps (a ++ b) = max (deps a) (deps b)
  | [], b => by simp [deps]
  | v :: a, b => by simp only [List.cons_append, deps, deps_append a b]; omega
theorem deps_take {l : List V} {i : Nat} (h : i < l.length) : deps (l.take (i + 1)) = max (deps (l.take i)) (dep l[i]) := by
  rw [List.take_add_one, List.getElem?_eq_getElem h, Option.toList_some, deps_append]; simp [deps]
theorem deps_le : ∀ {l : List V} {v : V}, v ∈ l → dep v ≤ deps l
  | w :: l, v, h => by
    simp only [deps]
    rcases List.mem_cons.1 h with rfl | h
    · omega
    · have := deps_le h; omega
theorem dep_le_size (v : V) : dep v ≤ vsize v := by
  have h : ∀ (l : List V), (∀ w ∈ l, dep w ≤ vsize w) → deps l ≤ vsizes l := by
    intro l
    induction l with
    | nil => intro _; simp [deps]
    | cons v l ih =>
      intro h
      have h1 := h v (List.mem_cons_self ..)
      have h2 := ih fun w hw => h w (List.mem_cons_of_mem _ hw)
      simp only [deps, vsizes]; omega
  refine V.rec_ (P := fun v => dep v ≤ vsize v) (fun v ih => ?_) v
  obtain ⟨k, n, s, l⟩ := v
  have := h l ih
  simp only [dep, vsize]; omega

/-! texts -/
def lowC (c : UInt8) : Bool := decide (97 ≤ c.toNat) && decide (c.toNat ≤ 122)
def nameC (c : UInt8) : Bool := lowC c || (decide (65 ≤ c.toNat) && decide (c.toNat ≤ 90)) || (decide (48 ≤ c.toNat) && decide (c.toNat ≤ 57)) || decide (c.toNat = 95)
def nameS (s : Str) : Bool := !s.isEmpty && decide (s.length ≤ 32) && lowC (s.headD 0) && s.all nameC
def digC (c : UInt8) : Bool := decide (48 ≤ c.toNat) && decide (c.toNat ≤ 57)
def cutD : Str → Option (Str × Str)
  | [] => none
  | c :: t => if c = 46 then some ([], t) else (cutD t).map fun p => (c :: p.1, p.2)
theorem cutD_at : ∀ (a b : Str), (46 : UInt8) ∉ a → cutD (a ++ 46 :: b) = some (a, b)
  | [], b, _ => by simp [cutD]
  | c :: a, b, h => by
    have h1 : c ≠ 46 := fun e => h (by rw [e]; exact List.mem_cons_self ..)
    simp only [List.cons_append, cutD, if_neg h1, cutD_at a b fun hh => h (List.mem_cons_of_mem _ hh)]; rfl
theorem cutD_no : ∀ (a : Str), (46 : UInt8) ∉ a → cutD a = none
  | [], _ => rfl
  | c :: a, h => by
    have h1 : c ≠ 46 := fun e => h (by rw [e]; exact List.mem_cons_self ..)
    simp only [cutD, if_neg h1, cutD_no a fun hh => h (List.mem_cons_of_mem _ hh)]; rfl
theorem cutD_mem : ∀ (s : Str), (46 : UInt8) ∈ s → ∃ a b, s = a ++ 46 :: b ∧ 46 ∉ a
  | c :: s, h => by
    by_cases hc : c = 46
    · exact ⟨[], s, by rw [hc]; rfl, by simp⟩
    · obtain ⟨a, b, h1, h2⟩ := cutD_mem s (by simpa [Ne.symm hc] using h)
      exact ⟨c :: a, b, by rw [h1]; rfl, by simp [h2, Ne.symm hc]⟩
def trueS : Str := [116, 114, 117, 101]
def falseS : Str := [102, 97, 108, 115, 101]
def namesS (s : Str) : Bool := if s = trueS ∨ s = falseS then false else match cutD s with
  | some (a, b) => nameS a && nameS b
  | none => nameS s
def unmin (s : Str) : Str := if s.head? = some 45 then s.tail else s
def numS (s : Str) : Bool := !(unmin s).isEmpty && (unmin s).all digC && !(decide ((unmin s).head? = some 48) && decide (s ≠ [48]))
def digits (s : Str) : Nat := (unmin s).length

/-! what may be -/
def okN (k n : Int) (s : Str) (m : Nat) : Bool :=
  if k = 1 then (n == 0 || n == 1) && s.isEmpty && decide (m = 0)
  else if k = 2 then s.isEmpty && decide (m = 0)
  else if k = 3 then numS s && n == 0 && decide (m = 0)
  else if k = 4 then n == 0 && decide (m = 0)
  else if k = 5 then n == 0 && s.isEmpty && decide (m ≠ 1)
  else if k = 6 then n == 0 && namesS s
  else false
def fitN (k : Int) (s : Str) (m : Nat) : Bool :=
  if k = 3 then decide (digits s ≤ 200)
  else if k = 4 then decide (s.length ≤ 4096)
  else if k = 5 then decide (m ≤ 16)
  else if k = 6 then decide (m ≤ 8)
  else true
mutual
def formV : V → Bool
  | .mk k n s l => okN k n s l.length && formVs l
def formVs : List V → Bool
  | [] => true
  | v :: l => formV v && formVs l
end
mutual
def fitsV : V → Bool
  | .mk k n s l => fitN k s l.length && fitsVs l
def fitsVs : List V → Bool
  | [] => true
  | v :: l => fitsV v && fitsVs l
end
theorem formV_eq (v : V) : formV v = (okN v.k v.n v.s v.l.length && formVs v.l) := by obtain ⟨k, n, s, l⟩ := v; rfl
theorem fitsV_eq (v : V) : fitsV v = (fitN v.k v.s v.l.length && fitsVs v.l) := by obtain ⟨k, n, s, l⟩ := v; rfl
theorem formVs_append : ∀ (a b : List V), formVs (a ++ b) = (formVs a && formVs b)
  | [], b => by simp [formVs]
  | v :: a, b => by simp only [List.cons_append, formVs, formVs_append a b, Bool.and_assoc]
theorem fitsVs_append : ∀ (a b : List V), fitsVs (a ++ b) = (fitsVs a && fitsVs b)
  | [], b => by simp [fitsVs]
  | v :: a, b => by simp only [List.cons_append, fitsVs, fitsVs_append a b, Bool.and_assoc]
theorem formVs_take {l : List V} {i : Nat} (h : i < l.length) : formVs (l.take (i + 1)) = (formVs (l.take i) && formV l[i]) := by
  rw [List.take_add_one, List.getElem?_eq_getElem h, Option.toList_some, formVs_append]; simp [formVs]
theorem fitsVs_take {l : List V} {i : Nat} (h : i < l.length) : fitsVs (l.take (i + 1)) = (fitsVs (l.take i) && fitsV l[i]) := by
  rw [List.take_add_one, List.getElem?_eq_getElem h, Option.toList_some, fitsVs_append]; simp [fitsVs]
theorem formVs_false : ∀ {l : List V} {v : V}, v ∈ l → formV v = false → formVs l = false
  | w :: l, v, h, hv => by
    simp only [formVs]
    rcases List.mem_cons.1 h with rfl | h
    · rw [hv]; rfl
    · rw [formVs_false h hv, Bool.and_false]
theorem formVs_mem : ∀ {l : List V} {v : V}, v ∈ l → formVs l = true → formV v = true := fun h hl => by
  cases hv : formV _ with
  | true => rfl
  | false => rw [formVs_false h hv] at hl; cases hl
def checkV (v : V) : Int := if dep v > 64 then 65 else if formV v = false then 4 else if fitsV v = false then 40 else 0
def mayV (v : V) : Bool := decide (checkV v = 0)
theorem mayV_iff (v : V) : mayV v = true ↔ dep v ≤ 64 ∧ formV v = true ∧ fitsV v = true := by
  unfold mayV checkV
  rw [decide_eq_true_eq]
  by_cases h1 : dep v > 64
  · simp [h1]; omega
  · rw [if_neg h1]
    cases hf : formV v <;> cases hg : fitsV v <;> simp <;> omega

/-! the order -/
def sgn (a b : Int) : Int := if a < b then -1 else if b < a then 1 else 0
def vcmpS : Str → Str → Int
  | [], [] => 0
  | [], _ :: _ => -1
  | _ :: _, [] => 1
  | a :: s, b :: t => if a = b then vcmpS s t else sgn a.toNat b.toNat
/-- of whole numbers without their signs -/
def cmpD (a b : Str) : Int := if a.length = b.length then vcmpS a b else sgn a.length b.length
def isMin (s : Str) : Bool := decide (s.head? = some 45)
def cmpB (a b : Str) : Int := if isMin a then (if isMin b then cmpD b.tail a.tail else -1) else if isMin b then 1 else cmpD a b
mutual
def cmpV : V → V → Int
  | .mk k n s l, .mk k' n' s' l' =>
    if k ≠ k' then sgn k k'
    else if k = 3 then cmpB s s'
    else if k = 4 then vcmpS s s'
    else if k = 5 then cmpVs l l'
    else if k = 6 then (if vcmpS s s' ≠ 0 then vcmpS s s' else cmpVs l l')
    else sgn n n'
def cmpVs : List V → List V → Int
  | [], [] => 0
  | [], _ :: _ => -1
  | _ :: _, [] => 1
  | v :: l, w :: m => if cmpV v w ≠ 0 then cmpV v w else cmpVs l m
end
def lastB (a b : Bool) : Int := if a = b then 0 else if a then -1 else 1
def cmpA (v w : V) : Int := if mayV v = true ∧ mayV w = true then cmpV v w else lastB (mayV v) (mayV w)
def mayR (l : List V) : Bool := l.all mayV
def cmpR (l m : List V) : Int := if mayR l = true ∧ mayR m = true then cmpVs l m else lastB (mayR l) (mayR m)

mutual
def sameV : V → V → Bool
  | .mk k n s l, .mk k' n' s' l' => k == k' && n == n' && decide (s = s') && sameVs l l'
def sameVs : List V → List V → Bool
  | [], [] => true
  | v :: l, w :: m => sameV v w && sameVs l m
  | _, _ => false
end
theorem sameVs_eq (h : ∀ v w : V, sameV v w = true → v = w) : ∀ {l m : List V}, sameVs l m = true → l = m
  | [], [], _ => rfl
  | [], _ :: _, h' => by simp [sameVs] at h'
  | _ :: _, [], h' => by simp [sameVs] at h'
  | v :: l, w :: m, h' => by
    simp only [sameVs, Bool.and_eq_true] at h'
    rw [h v w h'.1, sameVs_eq h h'.2]
theorem sameV_eq {v w : V} (h : sameV v w = true) : v = w := by
  have key : ∀ v : V, ∀ w, sameV v w = true → v = w := by
    refine V.rec_ (P := fun v => ∀ w, sameV v w = true → v = w) fun v ih w h => ?_
    obtain ⟨k, n, s, l⟩ := v
    obtain ⟨k', n', s', l'⟩ := w
    simp only [sameV, Bool.and_eq_true, beq_iff_eq, decide_eq_true_eq] at h
    obtain ⟨⟨⟨rfl, rfl⟩, rfl⟩, h⟩ := h
    have : ∀ (l m : List V), (∀ v ∈ l, ∀ w, sameV v w = true → v = w) → sameVs l m = true → l = m := by
      intro l
      induction l with
      | nil => intro m _ h; cases m with
        | nil => rfl
        | cons _ _ => simp [sameVs] at h
      | cons v l ihl =>
        intro m hh h
        cases m with
        | nil => simp [sameVs] at h
        | cons w m =>
          simp only [sameVs, Bool.and_eq_true] at h
          rw [hh v (List.mem_cons_self ..) w h.1, ihl m (fun v hv => hh v (List.mem_cons_of_mem _ hv)) h.2]
    rw [this l l' ih h]
  exact key v w h
mutual
theorem sameV_refl : ∀ v : V, sameV v v = true
  | .mk k n s l => by simp [sameV, sameVs_refl l]
theorem sameVs_refl : ∀ l : List V, sameVs l l = true
  | [] => rfl
  | v :: l => by simp [sameVs, sameV_refl v, sameVs_refl l]
end
theorem sameV_iff {v w : V} : sameV v w = true ↔ v = w := ⟨sameV_eq, fun h => h ▸ sameV_refl v⟩
theorem sameVs_iff {l m : List V} : sameVs l m = true ↔ l = m := ⟨sameVs_eq fun _ _ => sameV_eq, fun h => h ▸ sameVs_refl l⟩
end Sx
