/-
  Texts of this family, one behind the other: ValO1, SortP, SortQ, ValM, ValN1, ShowQ, BldB, ShowP, ValN2, ValH, UdQ, UdO, UdK, UdM, UdN, UdP, UdR, UdS1, UdS2, UdS3, UdS4, UdT, UdB, UdC, UdE, UdF, UdG.
-/
import Derived.Test.YtnpkgflmjibkeaaGreatDoorAP4
import Derived.Lib.ItoaNum
import Derived.Lib.ItoaLen
import Derived.Shelf.SlSortCmp.Kit1
import Derived.Sort.EncStr
noncomputable section
set_option linter.unusedVariables false
set_option linter.unusedSimpArgs false
set_option maxRecDepth 10000
namespace Sx
section
open Go Go.Proofs
/-- an order, told by signs -/
structure Lin {α : Type} (f : α → α → Int) (P : α → Prop) : Prop where
 anti : ∀ a b, P a → P b → f b a = - f a b
 rng : ∀ a b, P a → P b → -1 ≤ f a b ∧ f a b ≤ 1
 tr : ∀ a b c, P a → P b → P c → f a b ≤ 0 → f b c ≤ 0 → f a c ≤ 0 ∧ (f a b < 0 ∨ f b c < 0 → f a c < 0)
section
variable {α β : Type} {f g : α → α → Int} {P Q : α → Prop}
theorem Lin.refl (h : Lin f P) {a : α} (ha : P a) : f a a = 0 := by have := h.anti a a ha ha; omega
theorem Lin.l0 (h : Lin f P) {a b c : α} (ha : P a) (hb : P b) (hc : P c) (e : f a b = 0) : f a c = f b c := by
 have t1 := h.tr a b c ha hb hc (by omega)
 have e' := h.anti a b ha hb
 have t2 := h.tr b a c hb ha hc (by omega)
 have r1 := h.rng a c ha hc
 have r2 := h.rng b c hb hc
 rcases Int.lt_trichotomy (f b c) 0 with h1 | h1 | h1
 ·have := (t1 (by omega)).2 (.inr h1); omega
 ·have k1 := (t1 (by omega)).1
  rcases Int.lt_trichotomy (f a c) 0 with h2 | h2 | h2
  ·have := (t2 (by omega)).2 (.inr h2); omega
  ·omega
  ·omega
 ·rcases Int.lt_trichotomy (f a c) 0 with h2 | h2 | h2
  ·have := (t2 (by omega)).2 (.inr h2); omega
  ·have := (t2 (by omega)).1; omega
  ·omega
theorem Lin.r0 (h : Lin f P) {a b c : α} (ha : P a) (hb : P b) (hc : P c) (e : f b c = 0) : f a c = f a b := by
 have h1 := h.anti b c hb hc
 have h2 := h.l0 hc hb ha (by omega)
 have h3 := h.anti a c ha hc
 have h4 := h.anti a b ha hb
 omega
theorem Lin.sub (h : Lin f P) (hs : ∀ a, Q a → P a) : Lin f Q := ⟨fun a b ha hb => h.anti a b (hs a ha) (hs b hb), fun a b ha hb => h.rng a b (hs a ha) (hs b hb), fun a b c ha hb hc => h.tr a b c (hs a ha) (hs b hb) (hs c hc)⟩
theorem Lin.swap (h : Lin f P) : Lin (fun a b => f b a) P := ⟨fun a b ha hb => h.anti b a hb ha, fun a b ha hb => h.rng b a hb ha, fun a b c ha hb hc h1 h2 => by
 have := h.tr c b a hc hb ha h2 h1
 exact ⟨this.1, fun hh => this.2 hh.symm⟩⟩
theorem Lin.comp {f : β → β → Int} {P : β → Prop} (h : Lin f P) (u : α → β) : Lin (fun a b => f (u a) (u b)) (fun a => P (u a)) :=
 ⟨fun a b ha hb => h.anti _ _ ha hb, fun a b ha hb => h.rng _ _ ha hb, fun a b c ha hb hc => h.tr _ _ _ ha hb hc⟩
theorem Lin.or (h : Lin f P) (h2 : Lin g P) : Lin (fun a b => if f a b ≠ 0 then f a b else g a b) P := by
 refine ⟨fun a b ha hb => ?_, fun a b ha hb => ?_, fun a b c ha hb hc => ?_⟩
 ·have e1 := h.anti a b ha hb
  have e2 := h2.anti a b ha hb
  try dsimp only
  by_cases hz : f a b = 0
  ·rw [if_neg (by omega), if_neg (by omega)]; exact e2
  ·rw [if_pos (by omega), if_pos (by omega)]; exact e1
 ·try dsimp only
  split
  ·exact h.rng a b ha hb
  ·exact h2.rng a b ha hb
 ·try dsimp only
  have t := h.tr a b c ha hb hc
  have t2 := h2.tr a b c ha hb hc
  by_cases h1 : f a b = 0
  ·have e := h.l0 ha hb hc h1
   by_cases h3 : f b c = 0
   ·rw [if_neg (by omega), if_neg (by omega), if_neg (by omega)]; exact t2
   ·rw [if_neg (by omega), if_pos h3, if_pos (by omega)]
    intro _ k2
    exact ⟨by omega, fun _ => by omega⟩
  ·by_cases h3 : f b c = 0
   ·have e := h.r0 ha hb hc h3
    rw [if_pos h1, if_neg (by omega), if_pos (by omega)]
    intro k1 _
    exact ⟨by omega, fun _ => by omega⟩
   ·rw [if_pos h1, if_pos h3]
    intro k1 k2
    have := (t k1 k2).2 (.inl (by omega))
    rw [if_pos (by omega)]
    exact ⟨by omega, fun _ => this⟩
/-- first by classes, then within a class -/
theorem Lin.sel {κ : α → Int} {B : Int → α → α → Int} (hs : Lin (fun a b : Int => sgn a b) fun _ => True) (h : ∀ k, Lin (B k) P) : Lin (fun a b => if κ a ≠ κ b then sgn (κ a) (κ b) else B (κ a) a b) P := by
 refine ⟨fun a b ha hb => ?_, fun a b ha hb => ?_, fun a b c ha hb hc => ?_⟩
 ·try dsimp only
  by_cases hz : κ a = κ b
  ·rw [if_neg (by omega), if_neg (by omega), hz]; exact (h _).anti a b ha hb
  ·rw [if_pos (by omega), if_pos (by omega)]; exact hs.anti _ _ trivial trivial
 ·try dsimp only
  split
  ·exact hs.rng _ _ trivial trivial
  ·exact (h _).rng a b ha hb
 ·try dsimp only
  have t := hs.tr (κ a) (κ b) (κ c) trivial trivial trivial
  try dsimp only at t
  by_cases h1 : κ a = κ b
  ·by_cases h3 : κ b = κ c
   ·rw [if_neg (by omega), if_neg (by omega), if_neg (by omega), ← h1]; exact (h _).tr a b c ha hb hc
   ·rw [if_neg (by omega), if_pos h3, if_pos (by omega), h1]
    intro _ k2
    have := Qat (a := κ b) (b := κ c)
    exact ⟨by omega, fun _ => by omega⟩
  ·have z1 := Qat (a := κ a) (b := κ b)
   by_cases h3 : κ b = κ c
   ·rw [if_pos h1, if_neg (by omega), if_pos (by omega), ← h3]
    intro k1 _
    exact ⟨by omega, fun _ => by omega⟩
   ·rw [if_pos h1, if_pos h3]
    intro k1 k2
    have := (t k1 k2).2 (.inl (by omega))
    have z2 := QgE.1 this
    rw [if_pos (by omega)]
    exact ⟨by omega, fun _ => this⟩
end
theorem Lin.sgn : Lin (fun a b : Int => sgn a b) fun _ => True := by
 refine ⟨fun a b _ _ => ?_, fun a b _ _ => Ql8 a b, fun a b c _ _ _ h1 h2 => ?_⟩
 ·unfold Sx.sgn; split <;> split <;> omega
 ·have n1 := QgE (a := a) (b := b)
  have n2 := QgE (a := b) (b := c)
  have n3 := QgE (a := a) (b := c)
  have z1 := Qat (a := a) (b := b)
  have z2 := Qat (a := b) (b := c)
  have z3 := Qat (a := a) (b := c)
  omega
def lexF {α : Type} (f : α → α → Int) : List α → List α → Int
 | [], [] => 0
 | [], _ :: _ => -1
 | _ :: _, [] => 1
 | a :: s, b :: t => if f a b ≠ 0 then f a b else lexF f s t
theorem Lin.lex {α : Type} {f : α → α → Int} {P : α → Prop} (h : Lin f P) : Lin (lexF f) (fun l => ∀ a ∈ l, P a) := by
 refine ⟨fun l => ?_, fun l => ?_, fun l => ?_⟩
 ·induction l with
  | nil => intro m _ _; cases m <;> simp [lexF]
  | cons a l ih =>
   intro m hl hm
   cases m with
   | nil => simp [lexF]
   | cons b m =>
    have ha := hl a (List.mem_cons_self ..)
    have hb := hm b (List.mem_cons_self ..)
    have e1 := h.anti a b ha hb
    have e2 := ih m (fun x hx => hl x (List.mem_cons_of_mem _ hx)) (fun x hx => hm x (List.mem_cons_of_mem _ hx))
    simp only [lexF]
    by_cases hz : f a b = 0
    ·rw [if_neg (by omega), if_neg (by omega)]; exact e2
    ·rw [if_pos (by omega), if_pos (by omega)]; exact e1
 ·induction l with
  | nil => intro m _ _; cases m <;> simp [lexF]
  | cons a l ih =>
   intro m hl hm
   cases m with
   | nil => simp [lexF]
   | cons b m =>
    simp only [lexF]
    split
    ·exact h.rng a b (hl a (List.mem_cons_self ..)) (hm b (List.mem_cons_self ..))
    ·exact ih m (fun x hx => hl x (List.mem_cons_of_mem _ hx)) (fun x hx => hm x (List.mem_cons_of_mem _ hx))
 ·induction l with
  | nil =>
   intro m n _ _ _ h1 h2
   cases n with
   | nil =>
    cases m with
    | nil => simp [lexF]
    | cons b m => simp [lexF] at h2
   | cons c n => simp [lexF]
  | cons a l ih =>
   intro m n hl hm hn
   cases m with
   | nil => intro h1; simp [lexF] at h1
   | cons b m =>
   cases n with
   | nil => intro _ h2; simp [lexF] at h2
   | cons c n =>
    have ha := hl a (List.mem_cons_self ..)
    have hb := hm b (List.mem_cons_self ..)
    have hc := hn c (List.mem_cons_self ..)
    have t := h.tr a b c ha hb hc
    have t2 := ih m n (fun x hx => hl x (List.mem_cons_of_mem _ hx)) (fun x hx => hm x (List.mem_cons_of_mem _ hx)) (fun x hx => hn x (List.mem_cons_of_mem _ hx))
    simp only [lexF]
    by_cases h1 : f a b = 0
    ·have e := h.l0 ha hb hc h1
     by_cases h3 : f b c = 0
     ·rw [if_neg (by omega), if_neg (by omega), if_neg (by omega)]; exact t2
     ·rw [if_neg (by omega), if_pos h3, if_pos (by omega)]
      intro _ k2
      exact ⟨by omega, fun _ => by omega⟩
    ·by_cases h3 : f b c = 0
     ·have e := h.r0 ha hb hc h3
      rw [if_pos h1, if_neg (by omega), if_pos (by omega)]
      intro k1 _
      exact ⟨by omega, fun _ => by omega⟩
     ·rw [if_pos h1, if_pos h3]
      intro k1 k2
      have := (t k1 k2).2 (.inl (by omega))
      rw [if_pos (by omega)]
      exact ⟨by omega, fun _ => this⟩
theorem Qj9 : ∀ s t : Str, vcmpS s t = lexF (fun a b : UInt8 => sgn a.toNat b.toNat) s t
 | [], [] => rfl
 | [], _ :: _ => rfl
 | _ :: _, [] => rfl
 | a :: s, b :: t => by
  simp only [vcmpS, lexF, Qj9 s t]
  by_cases h : a = b
  ·subst h; rw [QeS]; simp
  ·have : ¬ sgn a.toNat b.toNat = 0 := fun e => h (UInt8.toNat_inj.1 (by have := Qat.1 e; omega))
   rw [if_neg h, if_pos this]
theorem Lin.txt : Lin vcmpS fun _ => True := by
 have h := (Lin.sgn.comp (fun a : UInt8 => (a.toNat : Int))).lex
 have e : vcmpS = lexF (fun a b : UInt8 => Sx.sgn a.toNat b.toNat) := funext fun s => funext fun t => Qj9 s t
 rw [e]
 exact h.sub fun _ _ _ _ => trivial
theorem Lin.dig : Lin cmpD fun _ => True := by
 have h := (Lin.sgn.comp (fun a : Str => (a.length : Int))).or Lin.txt
 have e : cmpD = fun a b : Str => if Sx.sgn a.length b.length ≠ 0 then Sx.sgn a.length b.length else vcmpS a b := funext fun a => funext fun b => by
  unfold cmpD
  by_cases hl : a.length = b.length
  ·rw [if_pos hl, if_neg (by rw [hl, QeS]; simp)]
  ·rw [if_neg hl, if_pos (fun e => hl (by have := Qat.1 e; omega))]
 rw [e]; exact h
theorem Lin.bigs : Lin cmpB fun _ => True := by
 have h := Lin.sel (α := Str) (P := fun _ => True) (κ := fun s => if isMin s then 0 else 1) (B := fun k a b => if k = 0 then cmpD b.tail a.tail else cmpD a b) Lin.sgn fun k => by
  by_cases hk : k = 0
  ·subst hk
   simp only [if_true]
   exact (Lin.dig.swap.comp List.tail)
  ·simp only [if_neg hk]
   exact Lin.dig
 have e : cmpB = fun a b : Str => if (if isMin a then (0 : Int) else 1) ≠ (if isMin b then 0 else 1) then Sx.sgn (if isMin a then 0 else 1) (if isMin b then 0 else 1) else (if (if isMin a then (0 : Int) else 1) = 0 then cmpD b.tail a.tail else cmpD a b) := funext fun a => funext fun b => by
  unfold cmpB
  cases ha : isMin a <;> cases hb : isMin b <;> simp [Sx.sgn]
 rw [e]; exact h
theorem Qhw : ∀ l m : List V, cmpVs l m = lexF cmpV l m
 | [], [] => rfl
 | [], _ :: _ => rfl
 | _ :: _, [] => rfl
 | v :: l, w :: m => by simp only [cmpVs, lexF, Qhw l m]
theorem Lin.vals : ∀ n : Nat, Lin cmpV fun v => vsize v ≤ n := by
 intro n
 induction n with
 | zero => exact ⟨fun a b ha => by obtain ⟨k, n, s, l⟩ := a; simp [vsize] at ha, fun a b ha => by obtain ⟨k, n, s, l⟩ := a; simp [vsize] at ha, fun a b c ha => by obtain ⟨k, n, s, l⟩ := a; simp [vsize] at ha⟩
 | succ n ih =>
  have hl : Lin (fun v w : V => cmpVs v.l w.l) fun v => vsize v ≤ n + 1 := by
   have h := (ih.lex).comp V.l
   have e : (fun v w : V => cmpVs v.l w.l) = fun v w : V => lexF cmpV v.l w.l := funext fun v => funext fun w => Qhw _ _
   rw [e]
   exact h.sub fun v hv x hx => by have := Qjr hx; omega
  have hs : Lin (fun v w : V => vcmpS v.s w.s) fun v => vsize v ≤ n + 1 := (Lin.txt.comp V.s).sub fun _ _ => trivial
  have h := Lin.sel (α := V) (P := fun v => vsize v ≤ n + 1) (κ := V.k) (B := fun k v w => if k = 3 then cmpB v.s w.s else if k = 4 then vcmpS v.s w.s else if k = 5 then cmpVs v.l w.l else if k = 6 then (if vcmpS v.s w.s ≠ 0 then vcmpS v.s w.s else cmpVs v.l w.l) else Sx.sgn v.n w.n) Lin.sgn fun k => by
   by_cases h3 : k = 3
   ·simp only [if_pos h3]; exact (Lin.bigs.comp V.s).sub fun _ _ => trivial
   simp only [if_neg h3]
   by_cases h4 : k = 4
   ·simp only [if_pos h4]; exact hs
   simp only [if_neg h4]
   by_cases h5 : k = 5
   ·simp only [if_pos h5]; exact hl
   simp only [if_neg h5]
   by_cases h6 : k = 6
   ·simp only [if_pos h6]; exact hs.or hl
   simp only [if_neg h6]
   exact (Lin.sgn.comp V.n).sub fun _ _ => trivial
  have e : cmpV = fun v w : V => if v.k ≠ w.k then Sx.sgn v.k w.k else if v.k = 3 then cmpB v.s w.s else if v.k = 4 then vcmpS v.s w.s else if v.k = 5 then cmpVs v.l w.l else if v.k = 6 then (if vcmpS v.s w.s ≠ 0 then vcmpS v.s w.s else cmpVs v.l w.l) else Sx.sgn v.n w.n := funext fun v => funext fun w => Qi1 v w
  rw [e]; exact h
theorem Lin.val : Lin cmpV fun _ => True := by
 refine ⟨fun a b _ _ => ?_, fun a b _ _ => ?_, fun a b c _ _ _ => ?_⟩
 ·exact (Lin.vals (vsize a + vsize b)).anti a b (by omega) (by omega)
 ·exact (Lin.vals (vsize a + vsize b)).rng a b (by omega) (by omega)
 ·exact (Lin.vals (vsize a + vsize b + vsize c)).tr a b c (by omega) (by omega) (by omega)
theorem Lin.vs : Lin cmpVs fun _ => True := by
 have e : cmpVs = lexF cmpV := funext fun l => funext fun m => Qhw l m
 rw [e]
 exact Lin.val.lex.sub fun _ _ _ _ => trivial
theorem Lin.row : Lin cmpR fun _ => True := by
 have h := Lin.sel (α := List V) (P := fun _ => True) (κ := fun l => if mayR l then 0 else 1) (B := fun k a b => if k = 0 then cmpVs a b else 0) Lin.sgn fun k => by
  by_cases hk : k = 0
  ·simp only [if_pos hk]; exact Lin.vs
  ·simp only [if_neg hk]
   exact ⟨fun _ _ _ _ => rfl, fun _ _ _ _ => by simp, fun _ _ _ _ _ _ _ _ => by simp⟩
 have e : cmpR = fun a b : List V => if (if mayR a then (0 : Int) else 1) ≠ (if mayR b then 0 else 1) then Sx.sgn (if mayR a then 0 else 1) (if mayR b then 0 else 1) else (if (if mayR a then (0 : Int) else 1) = 0 then cmpVs a b else 0) := funext fun a => funext fun b => by
  unfold cmpR lastB
  cases ha : mayR a <;> cases hb : mayR b <;> simp [Sx.sgn]
 rw [e]; exact h
theorem QjC {a b : Str} (h : cmpD a b = 0) : a = b := by
 unfold cmpD at h
 by_cases hl : a.length = b.length
 ·rw [if_pos hl] at h; exact (vslt a b).2.1.1 h
 ·rw [if_neg hl] at h; exact absurd (Qat.1 h) (by omega)
theorem QiA {a : Str} (h : isMin a = true) : a = 45 :: a.tail := by
 cases a with
 | nil => simp [isMin] at h
 | cons c a => simp [isMin] at h; rw [h]; rfl
theorem Qlw {a b : Str} (h : cmpB a b = 0) : a = b := by
 unfold cmpB at h
 cases ha : isMin a <;> cases hb : isMin b <;> rw [ha, hb] at h
 ·exact QjC (by simpa using h)
 ·simp at h
 ·simp at h
 ·have := QjC (by simpa using h)
  rw [QiA ha, QiA hb, this]
theorem Qlx {v w : V} (hv : formV v = true) (hw : formV w = true) (h : cmpV v w = 0) : v = w := by
 have key : ∀ n, ∀ v w : V, vsize v ≤ n → formV v = true → formV w = true → cmpV v w = 0 → v = w := by
  intro n
  induction n with
  | zero => intro v w hn; obtain ⟨k, n, s, l⟩ := v; simp [vsize] at hn
  | succ n ih =>
   intro v w hn hv hw h
   have hrow : ∀ l m : List V, (∀ x ∈ l, vsize x ≤ n) → formVs l = true → formVs m = true → cmpVs l m = 0 → l = m := by
    intro l
    induction l with
    | nil => intro m _ _ _ h; cases m with
     | nil => rfl
     | cons w m => simp [cmpVs] at h
    | cons a l ihl =>
     intro m hn hl hm h
     cases m with
     | nil => simp [cmpVs] at h
     | cons b m =>
      simp only [cmpVs] at h
      simp only [formVs, Bool.and_eq_true] at hl hm
      split at h
      ·rename_i h1; exact absurd h h1
      ·rename_i h1
       have h1 : cmpV a b = 0 := by omega
       rw [ih a b (hn a (List.mem_cons_self ..)) hl.1 hm.1 h1, ihl m (fun x hx => hn x (List.mem_cons_of_mem _ hx)) hl.2 hm.2 h]
   have hvl : ∀ x ∈ v.l, vsize x ≤ n := fun x hx => by have := Qjr hx; omega
   rw [Qcp, Bool.and_eq_true] at hv hw
   rw [Qi1] at h
   have ext : v.k = w.k → v.n = w.n → v.s = w.s → v.l = w.l → v = w := by
    intro e1 e2 e3 e4
    obtain ⟨k, n1, s, l⟩ := v
    obtain ⟨k', n1', s', l'⟩ := w
    have e1 : k = k' := e1
    have e2 : n1 = n1' := e2
    have e3 : s = s' := e3
    have e4 : l = l' := e4
    rw [e1, e2, e3, e4]
   by_cases hk : v.k = w.k
   ·rw [if_neg (by simp [hk])] at h
    rcases Qcz hv.1 with ⟨e, e1, e2⟩ | ⟨e, e1, e2⟩ | ⟨e, e1, e2⟩ | ⟨e, e1, e2⟩ | ⟨e, e1, e2⟩ | ⟨e, e1⟩ <;>
    rcases Qcz hw.1 with ⟨f, f1, f2⟩ | ⟨f, f1, f2⟩ | ⟨f, f1, f2⟩ | ⟨f, f1, f2⟩ | ⟨f, f1, f2⟩ | ⟨f, f1⟩ <;> try (exfalso; omega)
    ·rw [if_neg (by omega), if_neg (by omega), if_neg (by omega), if_neg (by omega)] at h
     exact ext hk (Qat.1 h) (e1.trans f1.symm) ((List.length_eq_zero_iff.1 e2).trans (List.length_eq_zero_iff.1 f2).symm)
    ·rw [if_neg (by omega), if_neg (by omega), if_neg (by omega), if_neg (by omega)] at h
     exact ext hk (Qat.1 h) (e1.trans f1.symm) ((List.length_eq_zero_iff.1 e2).trans (List.length_eq_zero_iff.1 f2).symm)
    ·rw [if_pos e] at h
     exact ext hk (e1.trans f1.symm) (Qlw h) ((List.length_eq_zero_iff.1 e2).trans (List.length_eq_zero_iff.1 f2).symm)
    ·rw [if_neg (by omega), if_pos e] at h
     exact ext hk (e1.trans f1.symm) ((vslt v.s w.s).2.1.1 h) ((List.length_eq_zero_iff.1 e2).trans (List.length_eq_zero_iff.1 f2).symm)
    ·rw [if_neg (by omega), if_neg (by omega), if_pos e] at h
     exact ext hk (e1.trans f1.symm) (e2.trans f2.symm) (hrow v.l w.l hvl hv.2 hw.2 h)
    ·rw [if_neg (by omega), if_neg (by omega), if_neg (by omega), if_pos e] at h
     split at h
     ·rename_i h1; exact absurd h h1
     ·rename_i h1
      exact ext hk (e1.trans f1.symm) ((vslt v.s w.s).2.1.1 (by omega)) (hrow v.l w.l hvl hv.2 hw.2 h)
   ·rw [if_pos hk] at h; exact absurd (Qat.1 h) hk
 exact key _ v w (Nat.le_refl _) hv hw h
theorem Qix : ∀ {l m : List V}, mayR l = true → mayR m = true → cmpVs l m = 0 → l = m
 | [], [], _, _, _ => rfl
 | [], _ :: _, _, _, h => by simp [cmpVs] at h
 | _ :: _, [], _, _, h => by simp [cmpVs] at h
 | v :: l, w :: m, hl, hm, h => by
  simp only [cmpVs] at h
  simp only [mayR, List.all_cons, Bool.and_eq_true] at hl hm
  split at h
  ·rename_i h1; exact absurd h h1
  ·rename_i h1
   rw [Qlx (Qb0 hl.1) (Qb0 hm.1) (by omega), Qix (l := l) (m := m) hl.2 hm.2 h]
theorem QjD {l m : List V} (hl : mayR l = true) (hm : mayR m = true) : cmpR l m = 0 ↔ l = m := by
 refine ⟨fun h => ?_, fun h => by rw [h]; exact Lin.row.refl trivial⟩
 unfold cmpR at h
 rw [if_pos ⟨hl, hm⟩] at h
 exact Qix hl hm h
end
section
open Go Go.Proofs
section
variable {α : Type} {κ : α → α → Int} {ι : α → Nat} {P : α → Prop}
/-- stands ahead; of two alike the one that was ahead -/
def Bf (κ : α → α → Int) (ι : α → Nat) (x y : α) : Prop := κ x y < 0 ∨ (κ x y = 0 ∧ ι x < ι y)
/-- what was sorted by blocks -/
inductive Ch (κ : α → α → Int) (ι : α → Nat) (bs : Nat) : List α → List α → Prop
 | last {Z L : List α} : L.length < bs → Z.Perm L → Z.Pairwise (Bf κ ι) → Ch κ ι bs Z L
 | cons {Z L Z' L' : List α} : L.length = bs → Z.Perm L → Z.Pairwise (Bf κ ι) → Ch κ ι bs Z' L' → Ch κ ι bs (Z ++ Z') (L ++ L')
theorem Ch.perm {bs : Nat} {Z L : List α} (h : Ch κ ι bs Z L) : Z.Perm L := by
 induction h with
 | last _ h _ => exact h
 | cons _ h _ _ ih => exact h.append ih
theorem Ch.all {bs : Nat} {Z L : List α} (h : Ch κ ι bs Z L) (hl : L.length ≤ bs) (h0 : 0 < bs) : Z.Pairwise (Bf κ ι) := by
 cases h with
 | last _ _ h => exact h
 | @cons Z1 L1 Z2 L2 h1 h2 h3 h4 =>
  rw [List.length_append] at hl
  have hp := h4.perm.length_eq
  have e : Z2 = [] := List.length_eq_zero_iff.1 (by rw [hp]; omega)
  rw [e, List.append_nil]; exact h3
end
end
section
open Go Go.Proofs
section
variable {α β : Type} {κ : α → α → Int} {ι : α → Nat} {P : α → Prop}
/-- of each kind the first one, rising -/
structure Rep (κ : α → α → Int) (ι : α → Nat) (L A : List α) : Prop where
 asc : A.Pairwise fun a b => κ a b < 0
 sub : ∀ y ∈ A, y ∈ L
 all : ∀ x ∈ L, ∃ y ∈ A, κ y x = 0
 fst : ∀ y ∈ A, ∀ x ∈ L, κ y x = 0 → x = y ∨ ι y < ι x
theorem Qht (hL : Lin κ P) : ∀ {A B : List α}, A.Pairwise (fun a b => κ a b < 0) → B.Pairwise (fun a b => κ a b < 0) → (∀ x ∈ A, P x) → (∀ x, x ∈ A ↔ x ∈ B) → A = B
 | [], [], _, _, _, _ => rfl
 | [], b :: B, _, _, _, h => absurd ((h b).2 (List.mem_cons_self ..)) (by simp)
 | a :: A, [], _, _, _, h => absurd ((h a).1 (List.mem_cons_self ..)) (by simp)
 | a :: A, b :: B, hA, hB, hP, h => by
  rw [List.pairwise_cons] at hA hB
  have hab : a = b := by
   rcases List.mem_cons.1 ((h a).1 (List.mem_cons_self ..)) with e | e
   ·exact e
   rcases List.mem_cons.1 ((h b).2 (List.mem_cons_self ..)) with e2 | e2
   ·exact e2.symm
   have h1 := hB.1 a e
   have h2 := hA.1 b e2
   have := hL.anti a b (hP a (List.mem_cons_self ..)) (hP b ((h b).2 (List.mem_cons_self ..)))
   omega
  subst hab
  have hr := hL.refl (hP a (List.mem_cons_self ..))
  rw [Qht hL hA.2 hB.2 (fun x hx => hP x (List.mem_cons_of_mem _ hx)) fun x => ⟨fun hx => ?_, fun hx => ?_⟩]
  ·rcases List.mem_cons.1 ((h x).1 (List.mem_cons_of_mem _ hx)) with e | e
   ·have := hA.1 x hx; rw [e] at this; omega
   ·exact e
  ·rcases List.mem_cons.1 ((h x).2 (List.mem_cons_of_mem _ hx)) with e | e
   ·have := hB.1 x hx; rw [e] at this; omega
   ·exact e
end
end
section
open Go Go.Proofs
def Heap.new (H H2 : Heap) : Heap := fun x => if (H x).isSome then none else H2 x
theorem Heap.new_some {H H2 : Heap} {x : Nat} {e : Bool × GO} (h : H2 x = some e) (hn : H x = none) : Heap.new H H2 x = some e := by
 unfold Heap.new; rw [hn]; exact h
theorem Heap.new_inv {H H2 : Heap} {x : Nat} {e : Bool × GO} (h : Heap.new H H2 x = some e) : H x = none ∧ H2 x = some e := by
 unfold Heap.new at h
 cases hx : H x with
 | none => rw [hx] at h; exact ⟨rfl, h⟩
 | some y => rw [hx] at h; cases h
theorem Heap.new_le (H H2 : Heap) : (Heap.new H H2).le H2 := fun x e h => (Heap.new_inv h).2
/-- a row of values that may be written over, with all that is in it: its blocks are N's; k deep at most -/
def Sp (N : Nat → Prop) (H : Heap) : Nat → Sl → Prop
 | 0, t => t.len = 0
 | k + 1, t => t.len = 0 ∨ ∃ (b : Nat) (xs : List TV) (sp : List Value), N b ∧ t.p = some (b, 0) ∧ t.x = none ∧ H b = some (true, .row (xs.flatMap Qa.c ++ sp)) ∧ (t.len ≤ xs.length ∧ xs.length ≤ 1000000) ∧ ∀ x ∈ xs, Sp N H k x.L
section
variable {N M : Nat → Prop} {H H2 : Heap}
theorem Sp.nil (k : Nat) {t : Sl} (h : t.len = 0) : Sp N H k t := by
 cases k with
 | zero => exact h
 | succ k => exact .inl h
theorem Sp.mono : ∀ {k : Nat} {t : Sl}, Sp N H k t → Sp N H (k + 1) t
 | 0, t, h => .inl h
 | k + 1, t, .inl h => .inl h
 | k + 1, t, .inr ⟨b, xs, sp, h1, h2, h3, h4, h5, h6⟩ => .inr ⟨b, xs, sp, h1, h2, h3, h4, h5, fun x hx => Sp.mono (h6 x hx)⟩
theorem Sp.up {k m : Nat} {t : Sl} (h : Sp N H k t) (hk : k ≤ m) : Sp N H m t := by
 induction hk with
 | refl => exact h
 | step _ ih => exact ih.mono
theorem Sp.to (h : ∀ b e, N b → H b = some e → M b ∧ H2 b = some e) : ∀ {k : Nat} {t : Sl}, Sp N H k t → Sp M H2 k t
 | 0, t, h0 => h0
 | k + 1, t, .inl h0 => .inl h0
 | k + 1, t, .inr ⟨b, xs, sp, h1, h2, h3, h4, h5, h6⟩ => .inr ⟨b, xs, sp, (h b _ h1 h4).1, h2, h3, (h b _ h1 h4).2, h5, fun x hx => Sp.to h (h6 x hx)⟩
theorem Sp.all : ∀ {xs : List TV}, (∀ x ∈ xs, ∃ k, Sp N H k x.L) → ∃ k, ∀ x ∈ xs, Sp N H k x.L
 | [], _ => ⟨0, fun x hx => by cases hx⟩
 | y :: xs, h => by
  obtain ⟨k, hk⟩ := h y (List.mem_cons_self ..)
  obtain ⟨m, hm⟩ := Sp.all (xs := xs) fun x hx => h x (List.mem_cons_of_mem _ hx)
  refine ⟨max k m, fun x hx => ?_⟩
  rcases List.mem_cons.1 hx with rfl | hx
  ·exact hk.up (Nat.le_max_left ..)
  ·exact (hm x hx).up (Nat.le_max_right ..)
/-- what a copy is -/
structure Made (H H2 : Heap) (l : List V) (t : Sl) : Prop where
 le : H.le H2
 row : VRow (Heap.new H H2) t l
 sp : ∃ k, Sp (fun b => H b = none) H2 k t
 cp : t.len ≤ t.cap
theorem Made.row2 {l : List V} {t : Sl} (h : Made H H2 l t) : VRow H2 t l := h.row.le (Heap.new_le _ _)
theorem Made.up {H3 : Heap} {l : List V} {t : Sl} (h : Made H H2 l t) (hle : H2.le H3) : Made H H3 l t := by
 refine ⟨h.le.trans hle, h.row.le fun x e hx => ?_, ?_, h.cp⟩
 ·obtain ⟨a, b⟩ := Heap.new_inv hx
  exact Heap.new_some (hle _ _ b) a
 ·obtain ⟨k, hk⟩ := h.sp
  exact ⟨k, hk.to fun b e h he => ⟨h, hle b e he⟩⟩
theorem Made.down {H0 : Heap} {l : List V} {t : Sl} (h : Made H H2 l t) (hle : H0.le H) : Made H0 H2 l t := by
 refine ⟨hle.trans h.le, h.row.le fun x e hx => ?_, ?_, h.cp⟩
 ·obtain ⟨a, b⟩ := Heap.new_inv hx
  exact Heap.new_some b (hle.none a)
 ·obtain ⟨k, hk⟩ := h.sp
  exact ⟨k, hk.to fun b e h he => ⟨hle.none h, he⟩⟩
theorem Made.nil {H : Heap} {t : Sl} (h : t.len = 0) : Made H H [] t := ⟨Heap.le.refl _, ⟨[], .inl rfl, by simpa using h, trivial⟩, ⟨0, h⟩, by omega⟩
theorem QeT : ∀ l : List V, l.length ≤ vsizes l
 | [] => Nat.le_refl _
 | v :: l => by
  have := QeT l
  have hv : vsize v = vsizes v.l + 1 := by cases v; rfl
  simp only [vsizes, List.length_cons]; omega
theorem flat4 : ∀ xs : List TV, (xs.flatMap Qa.c).length = xs.length * 4
 | [] => rfl
 | x :: xs => by rw [List.flatMap_cons, List.length_append, flat4 xs, TV.c_len, List.length_cons]; omega
theorem QnN {t : Sl} {sp : List Value} : ∀ (xs : List TV) (i : Nat) (hi : i < xs.length), ((xs.flatMap Qa.c) ++ sp).set (i * 4 + 3) (slv t) = (xs.set i { xs[i] with L := t }).flatMap Qa.c ++ sp
 | [], i, hi => by simp at hi
 | x :: xs, 0, hi => by
  simp only [List.flatMap_cons, List.getElem_cons_zero, List.set_cons_zero]
  rfl
 | x :: xs, i + 1, hi => by
  have ih := QnN (t := t) (sp := sp) xs i (by simpa using hi)
  simp only [List.flatMap_cons, List.set_cons_succ, List.getElem_cons_succ, List.append_assoc]
  have e : (i + 1) * 4 + 3 = (Qa.c x).length + (i * 4 + 3) := by rw [TV.c_len]; omega
  rw [← ih, e, List.set_append_right _ _ (Nat.le_add_right ..), Nat.add_sub_cancel_left]
/-- the copy's loop: what stands in the copy's block b over B -/
structure Ow (A H B : Heap) (b i : Nat) (l : List V) (xs ys : List TV) : Prop where
 le : H.le B
 ale : A.le B
 nb : B b = none
 len : ys.length = l.length
 xlen : xs.length = l.length
 old : VsAre A l xs
 rest : ∀ j, i ≤ j → ys[j]? = xs[j]?
 done : ∀ (j : Nat) (v : V) (x : TV), j < i → l[j]? = some v → ys[j]? = some x → VIs (Heap.new H B) v x ∧ ∃ k, Sp (fun c => H c = none) B k x.L
theorem Ow.step {A B B2 : Heap} {b i : Nat} {l : List V} {xs ys : List TV} {sp : List Value} {t : Sl} (h : Ow A H B b i l xs ys) (hi : i < l.length) (hi2 : i < ys.length)
 (hm : Made (B.put b (.row (ys.flatMap Qa.c ++ sp))) B2 l[i].l t) :
 Ow A H (B2.del b) b (i + 1) l xs (ys.set i { ys[i] with L := t }) ∧ B2.put b (.row (((ys.set i { ys[i] with L := t }).flatMap Qa.c) ++ sp)) = (B2.del b).put b (.row (((ys.set i { ys[i] with L := t }).flatMap Qa.c) ++ sp)) := by
 have hb : B.le (B2.del b) := fun x e hx => by
  have hne : x ≠ b := fun e' => by rw [e', h.nb] at hx; cases hx
  rw [Heap.del_ne _ hne]
  exact hm.le _ _ (by rw [Heap.put_ne _ _ _ hne]; exact hx)
 have hnn : (Heap.new H B).le (Heap.new H (B2.del b)) := fun x e hx => by
  obtain ⟨a, c⟩ := Heap.new_inv hx
  exact Heap.new_some (hb _ _ c) a
 have hPN : ∀ c, (B.put b (.row (ys.flatMap Qa.c ++ sp))) c = none → H c = none ∧ c ≠ b := fun c hc => by
  have hne : c ≠ b := fun e' => by rw [e', Heap.put_same] at hc; cases hc
  rw [Heap.put_ne _ _ _ hne] at hc
  exact ⟨h.le.none hc, hne⟩
 refine ⟨⟨h.le.trans hb, h.ale.trans hb, Heap.del_same .., by rw [List.length_set]; exact h.len, h.xlen, h.old, fun j hj => ?_, fun j v x hj hv hx => ?_⟩, ?_⟩
 ·rw [List.getElem?_set_ne (by omega)]; exact h.rest j (by omega)
 ·by_cases hji : j = i
  ·subst hji
   rw [List.getElem?_set_self hi2] at hx
   have hx := Option.some.inj hx
   rw [List.getElem?_eq_getElem hi] at hv
   have hv := Option.some.inj hv
   subst hx; subst hv
   have hxi := h.rest j (Nat.le_refl _)
   rw [List.getElem?_eq_getElem hi2] at hxi
   have hold := Qct.1 (h.old.get j _ _ (List.getElem?_eq_getElem hi) hxi.symm)
   refine ⟨Qct.2 ⟨hold.1, hold.2.1, hold.2.2.1, hm.row.le fun c e hc => ?_⟩, ?_⟩
   ·obtain ⟨a1, a2⟩ := Heap.new_inv hc
    obtain ⟨a3, a4⟩ := hPN c a1
    exact Heap.new_some (by rw [Heap.del_ne _ a4]; exact a2) a3
   ·obtain ⟨k, hk⟩ := hm.sp
    refine ⟨k, hk.to fun c e hc he => ⟨(hPN c hc).1, ?_⟩⟩
    rw [Heap.del_ne _ (hPN c hc).2]; exact he
  ·rw [List.getElem?_set_ne (by omega)] at hx
   obtain ⟨d1, k, d2⟩ := h.done j v x (by omega) hv hx
   exact ⟨d1.le hnn, k, d2.to fun c e h he => ⟨h, hb c e he⟩⟩
 ·funext x
  by_cases hx : x = b
  ·subst hx; rw [Heap.put_same, Heap.put_same]
  ·rw [Heap.put_ne _ _ _ hx, Heap.put_ne _ _ _ hx, Heap.del_ne _ hx]
theorem Ow.fin {A B : Heap} {b n cap : Nat} {l : List V} {xs ys : List TV} {sp : List Value} (h : Ow A H B b n l xs ys) (hn : n = l.length) (hb : H b = none) (hz : l.length ≤ 1000000) (hcap : n ≤ cap) :
 Made H (B.put b (.row (ys.flatMap Qa.c ++ sp))) l (Sl.of (some (b, 0)) n cap) := by
 have hBP : B.le (B.put b (.row (ys.flatMap Qa.c ++ sp))) := Heap.le_put h.nb
 have hnn : (Heap.new H B).le (Heap.new H (B.put b (.row (ys.flatMap Qa.c ++ sp)))) := fun x e hx => by
  obtain ⟨a, c⟩ := Heap.new_inv hx
  exact Heap.new_some (hBP _ _ c) a
 refine ⟨h.le.trans hBP, ⟨ys, .inr ⟨rfl, _, rfl, QbP (Heap.new_some (Heap.put_same ..) hb) fun j v hj => ?_⟩, ?_, VsAre.of h.len.symm fun i v x hv hx => ?_⟩, ?_, hcap⟩
 ·rw [Nat.zero_add, List.getElem?_append_left (List.getElem?_eq_some_iff.1 hj).1]; exact hj
 ·show n = _; rw [hn, h.len]
 ·exact (h.done i v x (by rw [hn]; exact (List.getElem?_eq_some_iff.1 hv).1) hv hx).1.le hnn
 ·obtain ⟨k, hk⟩ : ∃ k, ∀ x ∈ ys, Sp (fun c => H c = none) B k x.L := Sp.all fun x hx => by
   obtain ⟨j, hj, e⟩ := List.getElem_of_mem hx
   have hl : j < l.length := by rw [← h.len]; exact hj
   exact (h.done j l[j] x (by omega) (List.getElem?_eq_getElem hl) (by rw [List.getElem?_eq_getElem hj, e])).2
  refine ⟨k + 1, .inr ⟨b, ys, sp, hb, rfl, rfl, Heap.put_same .., ⟨by show n ≤ _; rw [hn, h.len]; exact Nat.le_refl _, by rw [h.len]; exact hz⟩, fun x hx => (hk x hx).to fun c e h he => ⟨h, hBP c e he⟩⟩⟩
/-- a list that grows: what is made in it stands beside its own block -/
structure Od (H B : Heap) (l : List V) (s : Sl) (ys : List TV) : Prop where
 own : OwnF H B 4 s (ys.flatMap Qa.c)
 le : ys.length ≤ l.length
 done : ∀ (j : Nat) (v : V) (x : TV), l[j]? = some v → ys[j]? = some x → VIs (Heap.new H (B.off s)) v x ∧ ∃ k, Sp (fun c => H c = none) (B.off s) k x.L
theorem Od.nil {l : List V} : Od H H l Sl.nil [] := ⟨OwnF.nil H 4, Nat.zero_le _, fun j v x _ hx => by simp at hx⟩
theorem Od.step {B B2 B3 B4 : Heap} {g : GO} {b : Nat} {l : List V} {s r t : Sl} {ys : List TV} {x : TV} (h : Od H B l s ys) (hb : B b = none) (hi : ys.length < l.length) (hm : Made (B.put b g) B2 l[ys.length].l t)
 (hx : x.Kind = l[ys.length].k ∧ x.N = l[ys.length].n ∧ x.S = l[ys.length].s) (hL : x.L = t) (h3 : Heap.but b B2 B3) (h4 : OwnF (B3.off s) B4 4 r (ys.flatMap Qa.c ++ Qa.c x)) : Od H B4 l r (ys ++ [x]) := by
 have hB2 : B.le B2 := (Heap.le_put hb).trans hm.le
 have hHb : H b = none := h.own.le.none hb
 have hB3 : H.le B3 := Heap.le.of_but (h.own.le.trans hB2) h3 hHb
 have hoff : (B.off s).le (B3.off s) := fun c e hc => by
  have hc' := Heap.off_le _ _ _ _ hc
  have hne : c ≠ b := fun e' => by rw [e', hb] at hc'; cases hc'
  refine Heap.off_some (h3 _ _ hne (hB2 _ _ hc')) fun p hp e' => ?_
  have := Heap.off_fresh s B p hp
  rw [e', hc] at this; cases this
 have h34 : (B3.off s).le (B4.off r) := Heap.le_off h4.le h4.fresh
 have hch : ∀ c e, (B.put b g) c = none → B2 c = some e → H c = none ∧ (B4.off r) c = some e := fun c e hn he => by
  have hne : c ≠ b := fun e' => by rw [e', Heap.put_same] at hn; cases hn
  rw [Heap.put_ne _ _ _ hne] at hn
  refine ⟨h.own.le.none hn, h34 _ _ (Heap.off_some (h3 _ _ hne he) fun p hp e' => ?_)⟩
  obtain ⟨g', hg'⟩ := h.own.own.mine hp
  rw [e', hn] at hg'; cases hg'
 have hnn : (Heap.new H (B.off s)).le (Heap.new H (B4.off r)) := fun c e hc => by
  obtain ⟨a1, a2⟩ := Heap.new_inv hc
  exact Heap.new_some (h34 _ _ (hoff _ _ a2)) a1
 refine ⟨?_, by rw [List.length_append]; exact hi, fun j v y hv hy => ?_⟩
 ·have e : (ys ++ [x]).flatMap Qa.c = ys.flatMap Qa.c ++ Qa.c x := by rw [List.flatMap_append, List.flatMap_singleton]
  rw [e]
  exact h4.down (Heap.le_off hB3 h.own.fresh)
 ·by_cases hj : j < ys.length
  ·rw [List.getElem?_append_left hj] at hy
   obtain ⟨d1, k, d2⟩ := h.done j v y hv hy
   exact ⟨d1.le hnn, k, d2.to fun c e h he => ⟨h, h34 _ _ (hoff _ _ he)⟩⟩
  ·have hjl := (List.getElem?_eq_some_iff.1 hy).1
   rw [List.length_append, List.length_singleton] at hjl
   have hje : j = ys.length := by omega
   subst hje
   rw [List.getElem?_append_right (Nat.le_refl _), Nat.sub_self] at hy
   simp only [List.getElem?_cons_zero, Option.some.injEq] at hy
   rw [List.getElem?_eq_getElem hi] at hv
   have hv := Option.some.inj hv
   subst hy; subst hv
   refine ⟨Qct.2 ⟨hx.1, hx.2.1, hx.2.2, ?_⟩, ?_⟩
   ·rw [hL]
    refine hm.row.le fun c e hc => ?_
    obtain ⟨a1, a2⟩ := Heap.new_inv hc
    obtain ⟨a3, a4⟩ := hch c e a1 a2
    exact Heap.new_some a4 a3
   ·obtain ⟨k, hk⟩ := hm.sp
    rw [hL]
    exact ⟨k, hk.to fun c e h he => hch c e h he⟩
theorem Od.fin {B : Heap} {l : List V} {s : Sl} {ys : List TV} (h : Od H B l s ys) (hn : ys.length = l.length) (hz : l.length ≤ 1000000) : Made H B l s := by
 have hnn : (Heap.new H (B.off s)).le (Heap.new H B) := fun x e hx => by
  obtain ⟨a, c⟩ := Heap.new_inv hx
  exact Heap.new_some (Heap.off_le _ _ _ _ c) a
 have hf := flat4 ys
 obtain ⟨o1, o2, o3, o4⟩ := h.own.own
 have hlen : s.len = ys.length := by omega
 have hvs : VsAre (Heap.new H B) l ys := VsAre.of hn.symm fun i v x hv hx => (h.done i v x hv hx).1.le hnn
 refine ⟨h.own.le, ⟨ys, ?_, hlen, hvs⟩, ?_, o3⟩
 ·rcases o4 with ⟨p0, c0⟩ | ⟨b, sp, hp, hb, hc⟩
  ·left
   have : ys.length = 0 := by omega
   rw [List.length_eq_zero_iff.1 this]; rfl
  ·refine .inr ⟨o2, _, hp, QbP (Heap.new_some hb (h.own.fresh _ hp)) fun j v hj => ?_⟩
   rw [Nat.zero_add, List.getElem?_append_left (List.getElem?_eq_some_iff.1 hj).1]; exact hj
 ·obtain ⟨k, hk⟩ : ∃ k, ∀ x ∈ ys, Sp (fun c => H c = none) B k x.L := Sp.all fun x hx => by
   obtain ⟨j, hj, e⟩ := List.getElem_of_mem hx
   have hl : j < l.length := by rw [← hn]; exact hj
   obtain ⟨_, k, hk⟩ := h.done j l[j] x (List.getElem?_eq_getElem hl) (by rw [List.getElem?_eq_getElem hj, e])
   exact ⟨k, hk.to fun c e h he => ⟨h, Heap.off_le _ _ _ _ he⟩⟩
  refine ⟨k + 1, ?_⟩
  rcases o4 with ⟨p0, c0⟩ | ⟨b, sp, hp, hb, hc⟩
  ·exact .inl (by omega)
  ·exact .inr ⟨b, ys, sp, h.own.fresh _ hp, hp, o2, hb, ⟨by omega, by omega⟩, hk⟩
/-- a list of rows that grows, each a copy -/
structure Og (H B : Heap) (ls : List (List V)) (s : Sl) (ys : List Sl) : Prop where
 own : OwnF H B 1 s (ys.map slv)
 le : ys.length ≤ ls.length
 done : ∀ (j : Nat) (l : List V) (y : Sl), ls[j]? = some l → ys[j]? = some y → Made H (B.off s) l y
theorem Og.nil {ls : List (List V)} : Og H H ls Sl.nil [] := ⟨OwnF.nil H 1, Nat.zero_le _, fun j l y _ hy => by simp at hy⟩
theorem Made.off {B : Heap} {l : List V} {s t : Sl} (h : Made B H2 l t) (hle : H.le B) (hf : Fresh H s) (hs : ∀ p, s.p = some p → ∃ g, B p.1 = some (true, g)) : Made H (H2.off s) l t := by
 have hne : ∀ c, B c = none → ∀ p, s.p = some p → p.1 ≠ c := fun c hc p hp e => by
  obtain ⟨g, hg⟩ := hs p hp
  rw [e, hc] at hg; cases hg
 refine ⟨Heap.le_off (hle.trans h.le) hf, h.row.le fun c e hc => ?_, ?_, h.cp⟩
 ·obtain ⟨a, b⟩ := Heap.new_inv hc
  exact Heap.new_some (Heap.off_some b (hne c a)) (hle.none a)
 ·obtain ⟨k, hk⟩ := h.sp
  exact ⟨k, hk.to fun c e hc he => ⟨hle.none hc, Heap.off_some he (hne c hc)⟩⟩
theorem Og.step {B B2 B4 : Heap} {ls : List (List V)} {s r t : Sl} {ys : List Sl} (h : Og H B ls s ys) (hi : ys.length < ls.length) (hm : Made B B2 ls[ys.length] t) (h4 : OwnF (B2.off s) B4 1 r (ys.map slv ++ [slv t])) : Og H B4 ls r (ys ++ [t]) := by
 have hoff : H.le (B2.off s) := Heap.le_off (h.own.le.trans hm.le) h.own.fresh
 have h34 : (B2.off s).le (B4.off r) := Heap.le_off h4.le h4.fresh
 have h12 : (B.off s).le (B2.off s) := Heap.le_off ((Heap.off_le s B).trans hm.le) (Heap.off_fresh s B)
 refine ⟨?_, by rw [List.length_append]; exact hi, fun j l y hl hy => ?_⟩
 ·have e : (ys ++ [t]).map slv = ys.map slv ++ [slv t] := by simp
  rw [e]; exact h4.down hoff
 ·by_cases hj : j < ys.length
  ·rw [List.getElem?_append_left hj] at hy
   exact (h.done j l y hl hy).up (h12.trans h34)
  ·have hjl := (List.getElem?_eq_some_iff.1 hy).1
   rw [List.length_append, List.length_singleton] at hjl
   have hje : j = ys.length := by omega
   subst hje
   rw [List.getElem?_append_right (Nat.le_refl _), Nat.sub_self] at hy
   simp only [List.getElem?_cons_zero, Option.some.injEq] at hy
   rw [List.getElem?_eq_getElem hi] at hl
   have hl := Option.some.inj hl
   subst hy; subst hl
   exact (hm.off h.own.le h.own.fresh fun p hp => h.own.own.mine hp).up h34
/-- rows in order, each once, in memory of their own -/
structure Srt (H H2 : Heap) (ls : List (List V)) (t : Sl) (A : List (Sl × (List V × Nat))) : Prop where
 own : OwnF H H2 1 t (A.map fun e => slv e.1)
 row : ∀ e ∈ A, Made H (H2.off t) e.2.1 e.1
 rep : Rep (fun a b => cmpR a.1 b.1) (fun a => a.2) ls.zipIdx (A.map fun e => e.2)
 few : A.length ≤ ls.length
theorem Qk5 {y : TV} : ∀ (xs : List TV) (sp : List Value) (i : Nat), ∃ (xs1 : List TV) (sp1 : List Value), splice (xs.flatMap Qa.c ++ sp) (i * 4) (Qa.c y) = xs1.flatMap Qa.c ++ sp1 ∧ xs1.length = xs.length ∧ ∀ x ∈ xs1, x ∈ xs ∨ x = y
 | [], sp, i => ⟨[], splice sp (i * 4) (Qa.c y), rfl, rfl, fun x hx => by cases hx⟩
 | x :: xs, sp, 0 => ⟨y :: xs, sp, rfl, rfl, fun z hz => by
  rcases List.mem_cons.1 hz with rfl | hz
  ·exact .inr rfl
  ·exact .inl (List.mem_cons_of_mem _ hz)⟩
 | x :: xs, sp, i + 1 => by
  obtain ⟨xs1, sp1, h1, h2, h3⟩ := Qk5 (y := y) xs sp i
  refine ⟨x :: xs1, sp1, ?_, by simp [h2], fun z hz => ?_⟩
  ·rw [List.flatMap_cons, List.flatMap_cons, List.append_assoc, List.append_assoc, ← h1]
   have e : (i + 1) * 4 = (Qa.c x).length + i * 4 := by rw [TV.c_len]; omega
   unfold splice
   rw [e, List.take_length_add_append, Nat.add_assoc, List.drop_length_add_append]
   simp only [List.append_assoc]
  ·rcases List.mem_cons.1 hz with rfl | hz
   ·exact .inl (List.mem_cons_self ..)
   ·exact (h3 z hz).imp (List.mem_cons_of_mem _) id
/-- a value written over in a row keeps all rows such -/
theorem Sp.put {b i : Nat} {cs : List Value} {y : TV} (hb : H b = some (true, .row cs)) (hy : y.L.len = 0) : ∀ {k : Nat} {t : Sl}, Sp N H k t → Sp N (H.put b (.row (splice cs (i * 4) (Qa.c y)))) k t
 | 0, t, h => h
 | k + 1, t, .inl h => .inl h
 | k + 1, t, .inr ⟨c, xs, sp, h1, h2, h3, h4, h5, h6⟩ => by
  by_cases hc : c = b
  ·subst hc
   rw [h4] at hb
   injection hb with hb; injection hb with _ hb; injection hb with hb
   subst hb
   obtain ⟨xs1, sp1, e1, e2, e3⟩ := Qk5 (y := y) xs sp i
   refine .inr ⟨c, xs1, sp1, h1, h2, h3, by rw [Heap.put_same, e1], by rw [e2]; exact h5, fun x hx => ?_⟩
   rcases e3 x hx with hx | rfl
   ·exact Sp.put h4 hy (h6 x hx)
   ·exact Sp.nil k hy
  ·exact .inr ⟨c, xs, sp, h1, h2, h3, by rw [Heap.put_ne _ _ _ hc]; exact h4, h5, fun x hx => Sp.put hb hy (h6 x hx)⟩
end
end
section
open Go Go.Proofs
section
variable {C : Ctx} {H : Heap}
theorem Qmm {t : Sl} {xs : List TV} {K : Sl → Heap → Prop} (hr : rdsl H t (xs.flatMap Qa.c)) (hl : t.len = xs.length) (h0 : t.len ≠ 0) (hs : t.len ≤ 1000000)
 (k : ∀ b sp cap B, H.le B → B b = none → t.len ≤ cap → K (Sl.of (some (b, 0)) t.len cap) (B.put b (.row (xs.flatMap Qa.c ++ sp)))) : QD C t K H := by
 apply Qbm
 unfold Q2
 have hf := flat4 xs
 have hnil : Sl.isNil t = false := by
  rcases hr with h | ⟨hx, p, hp, _⟩
  ·rw [h] at hf; simp at hf; omega
  ·unfold Sl.isNil; rw [hp]; rfl
 refine Qi hnil ?_
 intro b2 n2
 have hle := Heap.le_put n2 (g := .row []) (m := true)
 refine ⟨xs.flatMap Qa.c, QbK hle hr, ?_, [], .inl rfl, ?_, ?_, ?_, ?_, fun hfit => ?_, fun hgrow b cap hb hcap => ?_⟩
 ·intro u hu
  obtain ⟨x, _, hx⟩ := List.mem_flatMap.1 hu
  simp only [Qa.c, List.mem_cons, List.not_mem_nil, or_false] at hx
  rcases hx with rfl | rfl | rfl | rfl <;> rfl
 ·rfl
 ·rw [hf, hl]; rfl
 ·show (0 + t.len) * 56 ≤ _; omega
 ·show 0 + t.len ≤ _; omega
 ·exfalso
  have : 0 + t.len ≤ 0 := hfit
  omega
 ·have e : (0 : Nat) + t.len = t.len := Nat.zero_add _
  have hc2 : 0 + t.len ≤ cap := hcap
  have := k b (zeros (Qa.c Qa.zero) (cap - (0 + t.len))) cap _ hle hb (by omega)
  show K (Sl.of (some (b, 0)) (0 + t.len) cap) _
  rw [e] at this ⊢
  exact this
end
end
section
open Go
def hexD (k : Nat) : UInt8 := if k < 10 then UInt8.ofNat (48 + k) else UInt8.ofNat (87 + k)
def qC (c : UInt8) : Str :=
 if c = 34 ∨ c = 92 then [92, c] else if c = 10 then [92, 110] else if c = 9 then [92, 116]
 else if 32 ≤ c.toNat ∧ c.toNat ≤ 126 then [c] else [92, 120, hexD (c.toNat / 16), hexD (c.toNat % 16)]
def quoteS (s : Str) : Str := 34 :: (s.flatMap qC ++ [34])
mutual
def showV : V → Str
 | .mk k n s l => if k = 1 then (if n = 1 then trueS else falseS) else if k = 2 then Lib.itoa n else if k = 3 then s ++ [98] else if k = 4 then quoteS s
  else if k = 5 then 40 :: (showR true l ++ [41]) else s ++ (if l.length = 0 then [] else 40 :: (showR true l ++ [41]))
def showR : Bool → List V → Str
 | _, [] => []
 | f, v :: l => (if f then [] else [44, 32]) ++ (showV v ++ showR false l)
end
theorem QiH : ∀ (l : List V) (f : Bool) (v : V), showR f (l ++ [v]) = showR f l ++ ((if f && l.isEmpty then [] else [44, 32]) ++ showV v)
 | [], f, v => by cases f <;> simp [showR]
 | w :: l, f, v => by
  rw [List.cons_append]
  simp only [showR, QiH l false v, List.isEmpty_cons, Bool.and_false, Bool.false_and, Bool.false_eq_true, if_false, List.append_assoc]
theorem QgS : ∀ (a b : List V) (f : Bool), showR f (a ++ b) = showR f a ++ showR (f && a.isEmpty) b
 | [], b, f => by simp [showR]
 | v :: a, b, f => by
  rw [List.cons_append]
  simp only [showR, QgS a b false, List.isEmpty_cons, Bool.and_false, Bool.false_and, List.append_assoc]
theorem Ql9 (l : List V) (i : Nat) : (showR true (l.take i)).length ≤ (showR true l).length := by
 have := congrArg List.length (QgS (l.take i) (l.drop i) true)
 rw [List.take_append_drop, List.length_append] at this
 omega
theorem Qlj {l : List V} {i : Nat} (h : i < l.length) : showR true (l.take (i + 1)) = showR true (l.take i) ++ ((if i = 0 then [] else [44, 32]) ++ showV l[i]) := by
 rw [List.take_add_one, List.getElem?_eq_getElem h, Option.toList_some, QiH]
 congr 2
 have e : (l.take i).isEmpty = decide (i = 0) := by
  rw [Bool.eq_iff_iff, List.isEmpty_iff, decide_eq_true_iff]
  refine ⟨fun h2 => ?_, fun h2 => by rw [h2]; rfl⟩
  have := congrArg List.length h2
  rw [List.length_take, List.length_nil] at this; omega
 rw [Bool.true_and, e]
 by_cases hi : i = 0 <;> simp [hi]
theorem QdO {n : Nat} (h : n < 256) : (UInt8.ofNat n).toNat = n := by rw [UInt8.toNat_ofNat']; omega
def valN (l : Str) : Nat := l.foldl (fun a c => 10 * a + (c.toNat - 48)) 0
theorem Qm3 (u : Nat) : valN (Lib.decDigits u) = u := by
 induction u using Nat.strongRecOn with
 | _ u ih =>
  rw [Lib.decDigits]
  split
  ·rename_i h
   have := QdO (n := 48 + u) (by omega)
   simp only [valN, List.foldl_cons, List.foldl_nil, this]; omega
  ·rename_i h
   have e := ih (u / 10) (by omega)
   have := QdO (n := 48 + u % 10) (by omega)
   unfold valN at e ⊢
   rw [List.foldl_append, e]
   simp only [List.foldl_cons, List.foldl_nil, this]; omega
theorem QkF (u : Nat) : (∀ c ∈ Lib.decDigits u, digC c = true) ∧ Lib.decDigits u ≠ [] := by
 induction u using Nat.strongRecOn with
 | _ u ih =>
  rw [Lib.decDigits]
  split
  ·rename_i h
   refine ⟨fun c hc => ?_, by simp⟩
   rw [List.mem_singleton] at hc
   subst hc
   have := QdO (n := 48 + u) (by omega)
   unfold digC
   rw [this]
   simp only [Bool.and_eq_true, decide_eq_true_eq]; omega
  ·rename_i h
   refine ⟨fun c hc => ?_, by simp⟩
   rw [List.mem_append, List.mem_singleton] at hc
   rcases hc with hc | rfl
   ·exact (ih (u / 10) (by omega)).1 c hc
   ·have := QdO (n := 48 + u % 10) (by omega)
    unfold digC
    rw [this]
    simp only [Bool.and_eq_true, decide_eq_true_eq]; omega
theorem Qm2 {u v : Nat} (h : Lib.decDigits u = Lib.decDigits v) : u = v := by rw [← Qm3 u, h, Qm3 v]
theorem Qms {m n : Int} (h : Lib.itoa m = Lib.itoa n) : m = n := by
 have ne : ∀ u v : Nat, (45 : UInt8) :: Lib.decDigits u ≠ Lib.decDigits v := fun u v e => by
  have := (QkF v).1 45 (by rw [← e]; exact List.mem_cons_self ..)
  exact absurd this (by decide)
 unfold Lib.itoa at h
 split at h <;> split at h
 ·injection h with _ h
  have := Qm2 h; omega
 ·exact absurd h (ne _ _)
 ·exact absurd h.symm (ne _ _)
 ·have := Qm2 h; omega
theorem Qi4 {n : Int} {c : UInt8} (h : c ∈ Lib.itoa n) : digC c = true ∨ c = 45 := by
 unfold Lib.itoa at h
 split at h
 ·rcases List.mem_cons.1 h with h | h
  ·exact .inr h
  ·exact .inl ((QkF _).1 c h)
 ·exact .inl ((QkF _).1 c h)
theorem QlH (n : Int) : Lib.itoa n ≠ [] := by
 unfold Lib.itoa
 split
 ·simp
 ·exact (QkF _).2
theorem QlG (n : Int) : (Lib.itoa n).getLast? ≠ some 98 := fun h => by
 have hm := List.mem_of_getLast? h
 rcases Qi4 hm with h | h
 ·exact absurd h (by decide)
 ·exact absurd h (by decide)
def stopC (c : UInt8) : Bool := c == 40 || c == 41 || c == 44 || c == 59 || c == 34
def tok : V → Str
 | .mk k n s l => if k = 1 then (if n = 1 then trueS else falseS) else if k = 2 then Lib.itoa n else if k = 3 then s ++ [98] else if k = 5 then [] else s
def rst : V → Str
 | .mk k n s l => if k = 5 ∨ (k = 6 ∧ l.length ≠ 0) then 40 :: (showR true l ++ [41]) else []
def kindT (t : Str) : Int := if t = [] then 5 else if lowC (t.headD 0) = true then (if t = trueS ∨ t = falseS then 1 else 6) else if t.getLast? = some 98 then 3 else 2
theorem QeQ {v : V} (h : formV v = true) : formVs v.l = true ∧ ((v.k = 1 ∧ (v.n = 0 ∨ v.n = 1) ∧ v.s = [] ∧ v.l = []) ∨ (v.k = 2 ∧ v.s = [] ∧ v.l = []) ∨ (v.k = 3 ∧ numS v.s = true ∧ v.n = 0 ∧ v.l = []) ∨ (v.k = 4 ∧ v.n = 0 ∧ v.l = []) ∨
 (v.k = 5 ∧ v.n = 0 ∧ v.s = []) ∨ (v.k = 6 ∧ v.n = 0 ∧ namesS v.s = true)) := by
 rw [Qcp, Bool.and_eq_true] at h
 obtain ⟨h, h2⟩ := h
 refine ⟨h2, ?_⟩
 unfold okN at h
 split at h
 ·rename_i hk
  simp only [Bool.and_eq_true, Bool.or_eq_true, beq_iff_eq, List.isEmpty_iff, decide_eq_true_eq, List.length_eq_zero_iff] at h
  exact .inl ⟨hk, h.1.1, h.1.2, h.2⟩
 split at h
 ·rename_i hk
  simp only [Bool.and_eq_true, beq_iff_eq, List.isEmpty_iff, decide_eq_true_eq, List.length_eq_zero_iff] at h
  exact .inr (.inl ⟨hk, h.1, h.2⟩)
 split at h
 ·rename_i hk
  simp only [Bool.and_eq_true, beq_iff_eq, decide_eq_true_eq, List.length_eq_zero_iff] at h
  exact .inr (.inr (.inl ⟨hk, h.1.1, h.1.2, h.2⟩))
 split at h
 ·rename_i hk
  simp only [Bool.and_eq_true, beq_iff_eq, decide_eq_true_eq, List.length_eq_zero_iff] at h
  exact .inr (.inr (.inr (.inl ⟨hk, h.1, h.2⟩)))
 split at h
 ·rename_i hk
  simp only [Bool.and_eq_true, beq_iff_eq, List.isEmpty_iff] at h
  exact .inr (.inr (.inr (.inr (.inl ⟨hk, h.1.1, h.1.2⟩))))
 split at h
 ·rename_i hk
  simp only [Bool.and_eq_true, beq_iff_eq] at h
  exact .inr (.inr (.inr (.inr (.inr ⟨hk, h.1, h.2⟩))))
 ·cases h
theorem Qjk {v : V} (h : formV v = true) (h4 : v.k ≠ 4) : showV v = tok v ++ rst v := by
 have hc := (QeQ h).2
 obtain ⟨k, n, s, l⟩ := v
 simp only [V.k, V.n, V.s, V.l] at hc h4
 simp only [showV, tok, rst]
 rcases hc with ⟨rfl, _, _, rfl⟩ | ⟨rfl, _, rfl⟩ | ⟨rfl, _, _, rfl⟩ | ⟨rfl, _⟩ | ⟨rfl, _⟩ | ⟨rfl, _⟩
 ·simp
 ·simp
 ·simp
 ·exact absurd rfl h4
 ·simp
 ·by_cases hl : l.length = 0 <;> simp [hl]
theorem QeO {c : UInt8} (h : nameC c = true) : stopC c = false := by
 simp only [nameC, lowC, Bool.or_eq_true, Bool.and_eq_true, decide_eq_true_eq] at h
 unfold stopC
 simp only [Bool.or_eq_false_iff, beq_eq_false_iff_ne]
 refine ⟨⟨⟨⟨?_, ?_⟩, ?_⟩, ?_⟩, ?_⟩ <;> (rintro rfl; revert h; decide)
theorem QlA {c : UInt8} (h : digC c = true) : stopC c = false := QeO (by
 simp only [digC, Bool.and_eq_true, decide_eq_true_eq] at h
 simp only [nameC, Bool.or_eq_true, Bool.and_eq_true, decide_eq_true_eq]
 exact .inl (.inr h))
theorem Qfs {s : Str} (h : nameS s = true) : s ≠ [] ∧ s.length ≤ 32 ∧ lowC (s.headD 0) = true ∧ ∀ c ∈ s, nameC c = true := by
 simp only [nameS, Bool.and_eq_true, Bool.not_eq_true', List.isEmpty_eq_false_iff, decide_eq_true_eq, List.all_eq_true] at h
 exact ⟨h.1.1.1, h.1.1.2, h.1.2, h.2⟩
theorem Qen {s : Str} (h : namesS s = true) : s ≠ trueS ∧ s ≠ falseS ∧ s ≠ [] ∧ s.length ≤ 65 ∧ lowC (s.headD 0) = true ∧ ∀ c ∈ s, stopC c = false := by
 unfold namesS at h
 split at h
 ·cases h
 rename_i hne
 refine ⟨fun e => hne (.inl e), fun e => hne (.inr e), ?_⟩
 split at h
 ·rename_i a b hab
  rw [Bool.and_eq_true] at h
  obtain ⟨h1, h2, h3, h4⟩ := Qfs h.1
  obtain ⟨g1, g2, g3, g4⟩ := Qfs h.2
  have hs : s = a ++ 46 :: b := by
   by_cases hm : (46 : UInt8) ∈ s
   ·obtain ⟨x, y, e1, e2⟩ := Qi2 s hm
    rw [e1, Qhz x y e2] at hab
    injection hab with hab; injection hab with e3 e4
    rw [e1, e3, e4]
   ·rw [QhA s hm] at hab; cases hab
  rw [hs]
  refine ⟨by simp, by rw [List.length_append, List.length_cons]; omega, ?_, fun c hc => ?_⟩
  ·cases a with
   | nil => exact absurd rfl h1
   | cons x a => exact h3
  ·rw [List.mem_append, List.mem_cons] at hc
   rcases hc with hc | rfl | hc
   ·exact QeO (h4 c hc)
   ·rfl
   ·exact QeO (g4 c hc)
 ·obtain ⟨h1, h2, h3, h4⟩ := Qfs h
  exact ⟨h1, by omega, h3, fun c hc => QeO (h4 c hc)⟩
theorem Qgw {s : Str} (h : numS s = true) : s ≠ [] ∧ (∀ c ∈ s, digC c = true ∨ c = 45) ∧ s.length ≤ digits s + 1 := by
 simp only [numS, Bool.and_eq_true, Bool.not_eq_true', List.isEmpty_eq_false_iff, List.all_eq_true] at h
 obtain ⟨⟨h1, h2⟩, h3⟩ := h
 unfold digits
 unfold unmin at h1 h2 ⊢
 split at h1
 ·rename_i hh
  rw [if_pos hh] at h2 ⊢
  cases s with
  | nil => cases hh
  | cons c s =>
   simp only [List.head?_cons, Option.some.injEq] at hh
   subst hh
   refine ⟨by simp, fun d hd => ?_, by simp⟩
   rcases List.mem_cons.1 hd with rfl | hd
   ·exact .inr rfl
   ·exact .inl (h2 d hd)
 ·rename_i hh
  rw [if_neg hh] at h2 ⊢
  exact ⟨h1, fun d hd => .inl (h2 d hd), by omega⟩
theorem QfS {c : UInt8} (h : digC c = true ∨ c = 45) : stopC c = false ∧ lowC c = false := by
 rcases h with h | rfl
 ·refine ⟨QlA h, ?_⟩
  simp only [digC, Bool.and_eq_true, decide_eq_true_eq] at h
  simp only [lowC, Bool.and_eq_false_iff, decide_eq_false_iff_not]; omega
 ·exact ⟨rfl, rfl⟩
theorem QlC : ∀ {s : Str}, s ≠ [] → s.headD 0 ∈ s
 | [], h => absurd rfl h
 | c :: s, _ => List.mem_cons_self ..
theorem Qjo {v : V} (h : formV v = true) (h4 : v.k ≠ 4) : ∀ c ∈ tok v, stopC c = false := by
 have hc := (QeQ h).2
 obtain ⟨k, n, s, l⟩ := v
 simp only [V.k, V.n, V.s, V.l] at hc h4
 intro c hm
 simp only [tok] at hm
 rcases hc with ⟨rfl, _, _, rfl⟩ | ⟨rfl, _, rfl⟩ | ⟨rfl, hn, _, rfl⟩ | ⟨rfl, _⟩ | ⟨rfl, _⟩ | ⟨rfl, _, hn⟩
 ·rw [if_pos rfl] at hm
  split at hm
  ·exact (by decide : ∀ c ∈ trueS, stopC c = false) c hm
  ·exact (by decide : ∀ c ∈ falseS, stopC c = false) c hm
 ·exact (QfS (Qi4 (by simpa using hm))).1
 ·have hm : c ∈ s ∨ c = 98 := by simpa using hm
  rcases hm with hm | rfl
  ·exact (QfS ((Qgw hn).2.1 c hm)).1
  ·rfl
 ·exact absurd rfl h4
 ·simp at hm
 ·exact (Qen hn).2.2.2.2.2 c (by simpa using hm)
theorem Qi6 {v : V} (h : formV v = true) (h4 : v.k ≠ 4) : kindT (tok v) = v.k := by
 have hc := (QeQ h).2
 obtain ⟨k, n, s, l⟩ := v
 simp only [V.k, V.n, V.s, V.l] at hc h4 ⊢
 simp only [tok]
 rcases hc with ⟨rfl, hn, rfl, rfl⟩ | ⟨rfl, _, rfl⟩ | ⟨rfl, hn, _, rfl⟩ | ⟨rfl, _⟩ | ⟨rfl, _⟩ | ⟨rfl, _, hn⟩
 ·rcases hn with rfl | rfl <;> decide
 ·have e : (if (2 : Int) = 1 then (if n = 1 then trueS else falseS) else if (2 : Int) = 2 then Lib.itoa n else if (2 : Int) = 3 then s ++ [98] else if (2 : Int) = 5 then [] else s) = Lib.itoa n := by simp
  rw [e]
  unfold kindT
  have hlow := (QfS (Qi4 (QlC (QlH n)))).2
  rw [if_neg (QlH n), if_neg (by rw [hlow]; decide), if_neg (QlG n)]
 ·have e : (if (3 : Int) = 1 then (if n = 1 then trueS else falseS) else if (3 : Int) = 2 then Lib.itoa n else if (3 : Int) = 3 then s ++ [98] else if (3 : Int) = 5 then [] else s) = s ++ [98] := by simp
  rw [e]
  obtain ⟨q1, q2, _⟩ := Qgw hn
  have hlow : lowC ((s ++ [98]).headD 0) = false := by
   cases s with
   | nil => exact absurd rfl q1
   | cons c s => exact (QfS (q2 c (List.mem_cons_self ..))).2
  unfold kindT
  rw [if_neg (by simp), if_neg (by rw [hlow]; decide), if_pos (by simp)]
 ·exact absurd rfl h4
 ·simp [kindT]
 ·have e : (if (6 : Int) = 1 then (if n = 1 then trueS else falseS) else if (6 : Int) = 2 then Lib.itoa n else if (6 : Int) = 3 then s ++ [98] else if (6 : Int) = 5 then [] else s) = s := by simp
  rw [e]
  obtain ⟨q1, q2, q3, _, q5, _⟩ := Qen hn
  unfold kindT
  rw [if_neg q3, if_pos q5, if_neg (fun h => h.elim q1 q2)]
theorem Qj7 : ∀ {a b x y : Str}, (∀ c ∈ a, stopC c = false) → (∀ c ∈ b, stopC c = false) → (x = [] ∨ ∃ c t, x = c :: t ∧ stopC c = true) → (y = [] ∨ ∃ c t, y = c :: t ∧ stopC c = true) → a ++ x = b ++ y → a = b ∧ x = y
 | [], [], x, y, _, _, _, _, e => ⟨rfl, e⟩
 | [], d :: b, x, y, _, hb, hx, _, e => by
  rcases hx with rfl | ⟨c, t, rfl, hc⟩
  ·simp at e
  ·injection e with e1 _
   rw [e1, hb d (List.mem_cons_self ..)] at hc; cases hc
 | d :: a, [], x, y, ha, _, _, hy, e => by
  rcases hy with rfl | ⟨c, t, rfl, hc⟩
  ·simp at e
  ·injection e with e1 _
   rw [← e1, ha d (List.mem_cons_self ..)] at hc; cases hc
 | c :: a, d :: b, x, y, ha, hb, hx, hy, e => by
  injection e with e1 e2
  obtain ⟨q1, q2⟩ := Qj7 (fun c hc => ha c (List.mem_cons_of_mem _ hc)) (fun c hc => hb c (List.mem_cons_of_mem _ hc)) hx hy e2
  exact ⟨by rw [e1, q1], q2⟩
theorem Qnm : ∀ k : Fin 16, hexD k.val ≠ 34 ∧ ∀ j : Fin 16, hexD k.val = hexD j.val → k = j := by decide
theorem QkJ {i j : Nat} (hi : i < 16) (hj : j < 16) (h : hexD i = hexD j) : i = j := by
 have := (Qnm ⟨i, hi⟩).2 ⟨j, hj⟩ h
 exact congrArg Fin.val this
theorem Qhd (c : UInt8) : ((c = 34 ∨ c = 92) ∧ qC c = [92, c]) ∨ (c = 10 ∧ qC c = [92, 110]) ∨ (c = 9 ∧ qC c = [92, 116]) ∨ (c ≠ 34 ∧ c ≠ 92 ∧ qC c = [c]) ∨ qC c = [92, 120, hexD (c.toNat / 16), hexD (c.toNat % 16)] := by
 unfold qC
 by_cases h1 : c = 34 ∨ c = 92
 ·rw [if_pos h1]; exact .inl ⟨h1, rfl⟩
 rw [if_neg h1]
 by_cases h2 : c = 10
 ·rw [if_pos h2]; exact .inr (.inl ⟨h2, rfl⟩)
 rw [if_neg h2]
 by_cases h3 : c = 9
 ·rw [if_pos h3]; exact .inr (.inr (.inl ⟨h3, rfl⟩))
 rw [if_neg h3]
 split
 ·exact .inr (.inr (.inr (.inl ⟨fun e => h1 (.inl e), fun e => h1 (.inr e), rfl⟩)))
 ·exact .inr (.inr (.inr (.inr rfl)))
theorem Qme {c d : UInt8} (h : c.toNat = d.toNat) : c = d := UInt8.toNat_inj.1 h
theorem QnM {c d : UInt8} {x y : Str} (h : qC c ++ x = qC d ++ y) : c = d ∧ x = y := by
 rcases Qhd c with ⟨hc, e⟩ | ⟨hc, e⟩ | ⟨hc, e⟩ | ⟨hc, hc2, e⟩ | e <;> rcases Qhd d with ⟨hd, f⟩ | ⟨hd, f⟩ | ⟨hd, f⟩ | ⟨hd, hd2, f⟩ | f <;> rw [e, f] at h <;> simp only [List.cons_append, List.nil_append, List.cons.injEq] at h
 case inr.inr.inr.inr.inr.inr.inr.inr =>
  obtain ⟨_, _, h1, h2, h3⟩ := h
  have hc := c.toNat_lt; have hd := d.toNat_lt
  have := QkJ (by omega) (by omega) h1
  have := QkJ (by omega) (by omega) h2
  exact ⟨Qme (by omega), h3⟩
 case inl.inl => exact ⟨h.2.1, h.2.2⟩
 case inr.inr.inr.inl.inr.inr.inr.inl => exact h
 case inr.inl.inr.inl => exact ⟨by rw [hc, hd], h.2.2⟩
 case inr.inr.inl.inr.inr.inl => exact ⟨by rw [hc, hd], h.2.2⟩
 all_goals exfalso
 all_goals first
  | (obtain ⟨_, h1, _⟩ := h; subst_vars; simp_all; done)
  | (obtain ⟨h1, _⟩ := h; subst_vars; simp_all; done)
  | (obtain ⟨_, h1, _⟩ := h; rcases hc with rfl | rfl <;> simp_all; done)
  | (obtain ⟨_, h1, _⟩ := h; rcases hd with rfl | rfl <;> simp_all; done)
theorem QlX (c : UInt8) : ∃ d t, qC c = d :: t ∧ d ≠ 34 := by
 rcases Qhd c with ⟨_, e⟩ | ⟨_, e⟩ | ⟨_, e⟩ | ⟨h, _, e⟩ | e
 ·exact ⟨_, _, e, by decide⟩
 ·exact ⟨_, _, e, by decide⟩
 ·exact ⟨_, _, e, by decide⟩
 ·exact ⟨_, _, e, h⟩
 ·exact ⟨_, _, e, by decide⟩
theorem Qnb : ∀ {s t x y : Str}, s.flatMap qC ++ 34 :: x = t.flatMap qC ++ 34 :: y → s = t ∧ x = y
 | [], [], x, y, h => ⟨rfl, by injection h⟩
 | [], d :: t, x, y, h => by
  obtain ⟨e, u, h1, h2⟩ := QlX d
  rw [List.flatMap_cons, h1] at h
  injection h with h _
  exact absurd h.symm h2
 | c :: s, [], x, y, h => by
  obtain ⟨e, u, h1, h2⟩ := QlX c
  rw [List.flatMap_cons, h1] at h
  injection h with h _
  exact absurd h h2
 | c :: s, d :: t, x, y, h => by
  rw [List.flatMap_cons, List.flatMap_cons, List.append_assoc, List.append_assoc] at h
  obtain ⟨h1, h2⟩ := QnM h
  obtain ⟨h3, h4⟩ := Qnb h2
  exact ⟨by rw [h1, h3], h4⟩
def EndS (r : Str) : Prop := r = [] ∨ ∃ c t, r = c :: t ∧ (c = 41 ∨ c = 44 ∨ c = 59)
theorem EndS.stop {r : Str} (h : EndS r) : r = [] ∨ ∃ c t, r = c :: t ∧ stopC c = true := h.imp id fun ⟨c, t, e, hc⟩ => ⟨c, t, e, by rcases hc with rfl | rfl | rfl <;> rfl⟩
theorem EndS.ne40 {r t : Str} (h : EndS r) : r ≠ 40 :: t := fun e => by
 rcases h with rfl | ⟨c, t', rfl, hc⟩
 ·cases e
 ·injection e with e _; subst e; revert hc; decide
theorem Qgh {v : V} (h : formV v = true) : ∃ c t, showV v = c :: t ∧ c ≠ 41 ∧ (v.k ≠ 4 → c ≠ 34) := by
 by_cases h4 : v.k = 4
 ·obtain ⟨k, n, s, l⟩ := v
  simp only [V.k] at h4
  subst h4
  exact ⟨34, s.flatMap qC ++ [34], by simp [showV, quoteS], by decide, fun h => absurd rfl h⟩
 ·rw [Qjk h h4]
  have hf := Qjo h h4
  cases ht : tok v with
  | cons c t =>
   have := hf c (by rw [ht]; exact List.mem_cons_self ..)
   exact ⟨c, t ++ rst v, rfl, (fun e => by rw [e] at this; cases this), (fun _ e => by rw [e] at this; cases this)⟩
  | nil =>
   have hk := Qi6 h h4
   rw [ht] at hk
   have hk : v.k = 5 := hk.symm
   obtain ⟨k, n, s, l⟩ := v
   simp only [V.k] at hk
   subst hk
   exact ⟨40, showR true l ++ [41], by simp [rst], by decide, fun _ => by decide⟩
theorem QkY (v : V) (r : Str) (hr : EndS r) : rst v ++ r = [] ∨ ∃ c t, rst v ++ r = c :: t ∧ stopC c = true := by
 obtain ⟨k, n, s, l⟩ := v
 simp only [rst]
 split
 ·exact .inr ⟨40, _, rfl, rfl⟩
 ·exact hr.stop
theorem Qj0 : ∀ (l : List V), (∀ v ∈ l, ∀ (w : V) (r r' : Str), formV v = true → formV w = true → EndS r → EndS r' → showV v ++ r = showV w ++ r' → v = w ∧ r = r') →
 ∀ (f : Bool) (l' : List V) (r r' : Str), formVs l = true → formVs l' = true → showR f l ++ 41 :: r = showR f l' ++ 41 :: r' → l = l' ∧ r = r'
 | [], _, f, [], r, r', _, _, e => ⟨rfl, by simpa [showR] using e⟩
 | [], _, f, w :: l', r, r', _, h2, e => by
  exfalso
  simp only [formVs, Bool.and_eq_true] at h2
  obtain ⟨c, t, hw, hc, _⟩ := Qgh h2.1
  simp only [showR, List.nil_append] at e
  cases f with
  | true =>
   rw [hw] at e
   simp only [if_true, List.nil_append, List.cons_append, List.cons.injEq] at e
   exact hc e.1.symm
  | false => simp at e
 | v :: l, _, f, [], r, r', h1, _, e => by
  exfalso
  simp only [formVs, Bool.and_eq_true] at h1
  obtain ⟨c, t, hw, hc, _⟩ := Qgh h1.1
  simp only [showR, List.nil_append] at e
  cases f with
  | true =>
   rw [hw] at e
   simp only [if_true, List.nil_append, List.cons_append, List.cons.injEq] at e
   exact hc e.1
  | false => simp at e
 | v :: l, ih, f, w :: l', r, r', h1, h2, e => by
  simp only [formVs, Bool.and_eq_true] at h1 h2
  simp only [showR, List.append_assoc] at e
  have e := List.append_cancel_left e
  have hend : ∀ (l : List V) (r : Str), EndS (showR false l ++ 41 :: r) := fun l r => by
   cases l with
   | nil => exact .inr ⟨41, r, rfl, .inl rfl⟩
   | cons x l => exact .inr ⟨44, _, rfl, .inr (.inl rfl)⟩
  obtain ⟨q1, q2⟩ := ih v (List.mem_cons_self ..) w _ _ h1.1 h2.1 (hend l r) (hend l' r') e
  obtain ⟨q3, q4⟩ := Qj0 l (fun v hv => ih v (List.mem_cons_of_mem _ hv)) false l' r r' h1.2 h2.2 q2
  exact ⟨by rw [q1, q3], q4⟩
theorem QmS (v : V) : ∀ (w : V) (r r' : Str), formV v = true → formV w = true → EndS r → EndS r' → showV v ++ r = showV w ++ r' → v = w ∧ r = r' := by
 refine V.rec_ (P := fun v => ∀ (w : V) (r r' : Str), formV v = true → formV w = true → EndS r → EndS r' → showV v ++ r = showV w ++ r' → v = w ∧ r = r') (fun v ih w r r' hv hw hr hr' e => ?_) v
 have hcv := QeQ hv
 have hcw := QeQ hw
 by_cases h4 : v.k = 4
 ·by_cases k4 : w.k = 4
  ·obtain ⟨k, n, s, l⟩ := v
   obtain ⟨k', n', s', l'⟩ := w
   simp only [V.k, V.n, V.s, V.l] at *
   subst h4; subst k4
   obtain ⟨_, rfl, rfl⟩ : (4 : Int) = 4 ∧ n = 0 ∧ l = [] := by rcases hcv.2 with ⟨h, _⟩ | ⟨h, _⟩ | ⟨h, _⟩ | h | ⟨h, _⟩ | ⟨h, _⟩ <;> first | exact h | exact absurd h (by decide)
   obtain ⟨_, rfl, rfl⟩ : (4 : Int) = 4 ∧ n' = 0 ∧ l' = [] := by rcases hcw.2 with ⟨h, _⟩ | ⟨h, _⟩ | ⟨h, _⟩ | h | ⟨h, _⟩ | ⟨h, _⟩ <;> first | exact h | exact absurd h (by decide)
   simp only [showV, quoteS] at e
   simp only [show ¬ ((4 : Int) = 1) by decide, show ¬ ((4 : Int) = 2) by decide, show ¬ ((4 : Int) = 3) by decide, if_false, if_true, List.cons_append, List.append_assoc, List.cons.injEq, true_and, List.nil_append] at e
   obtain ⟨q1, q2⟩ := Qnb e
   exact ⟨by rw [q1], q2⟩
  ·exfalso
   obtain ⟨c, t, e1, _, e2⟩ := Qgh hw
   obtain ⟨k, n, s, l⟩ := v
   simp only [V.k] at h4
   subst h4
   rw [e1] at e
   simp [showV, quoteS] at e
   exact e2 k4 e.1.symm
 ·by_cases k4 : w.k = 4
  ·exfalso
   obtain ⟨c, t, e1, _, e2⟩ := Qgh hv
   obtain ⟨k, n, s, l⟩ := w
   simp only [V.k] at k4
   subst k4
   rw [e1] at e
   simp [showV, quoteS] at e
   exact e2 h4 e.1
  ·rw [Qjk hv h4, Qjk hw k4, List.append_assoc, List.append_assoc] at e
   obtain ⟨q1, q2⟩ := Qj7 (Qjo hv h4) (Qjo hw k4) (QkY v r hr) (QkY w r' hr') e
   have hkk : v.k = w.k := by rw [← Qi6 hv h4, ← Qi6 hw k4, q1]
   obtain ⟨k, n, s, l⟩ := v
   obtain ⟨k', n', s', l'⟩ := w
   simp only [V.k, V.n, V.s, V.l] at *
   subst hkk
   simp only [tok] at q1
   simp only [rst] at q2
   have tails : ∀ (l l' : List V), formVs l = true → formVs l' = true → (∀ v ∈ l, ∀ (w : V) (r r' : Str), formV v = true → formV w = true → EndS r → EndS r' → showV v ++ r = showV w ++ r' → v = w ∧ r = r') →
    40 :: (showR true l ++ [41]) ++ r = 40 :: (showR true l' ++ [41]) ++ r' → l = l' ∧ r = r' := fun l l' f1 f2 ih e => by
    simp only [List.cons_append, List.append_assoc, List.cons.injEq, true_and, List.nil_append] at e
    exact Qj0 l ih true l' r r' f1 f2 e
   rcases hcv.2 with ⟨rfl, a1, a2, a3⟩ | ⟨rfl, a1, a2⟩ | ⟨rfl, a1, a2, a3⟩ | ⟨rfl, _⟩ | ⟨rfl, a1, a2⟩ | ⟨rfl, a1, a2⟩
   ·obtain ⟨b1, b2, b3⟩ : (n' = 0 ∨ n' = 1) ∧ s' = [] ∧ l' = [] := by rcases hcw.2 with ⟨_, h⟩ | ⟨h, _⟩ | ⟨h, _⟩ | ⟨h, _⟩ | ⟨h, _⟩ | ⟨h, _⟩ <;> first | exact h | exact absurd h (by decide)
    subst a2; subst a3; subst b2; subst b3
    simp at q2
    refine ⟨?_, q2⟩
    rcases a1 with rfl | rfl <;> rcases b1 with rfl | rfl <;> first | rfl | exact absurd q1 (by decide)
   ·obtain ⟨b1, b2⟩ : s' = [] ∧ l' = [] := by rcases hcw.2 with ⟨h, _⟩ | ⟨_, h⟩ | ⟨h, _⟩ | ⟨h, _⟩ | ⟨h, _⟩ | ⟨h, _⟩ <;> first | exact h | exact absurd h (by decide)
    subst a1; subst a2; subst b1; subst b2
    simp at q2 q1
    exact ⟨by rw [Qms q1], q2⟩
   ·obtain ⟨_, b2, b3⟩ : numS s' = true ∧ n' = 0 ∧ l' = [] := by rcases hcw.2 with ⟨h, _⟩ | ⟨h, _⟩ | ⟨_, h⟩ | ⟨h, _⟩ | ⟨h, _⟩ | ⟨h, _⟩ <;> first | exact h | exact absurd h (by decide)
    subst a2; subst a3; subst b2; subst b3
    simp at q2 q1
    exact ⟨by rw [q1], q2⟩
   ·exact absurd rfl h4
   ·obtain ⟨b1, b2⟩ : n' = 0 ∧ s' = [] := by rcases hcw.2 with ⟨h, _⟩ | ⟨h, _⟩ | ⟨h, _⟩ | ⟨h, _⟩ | ⟨_, h⟩ | ⟨h, _⟩ <;> first | exact h | exact absurd h (by decide)
    subst a1; subst a2; subst b1; subst b2
    rw [if_pos (.inl rfl), if_pos (.inl rfl)] at q2
    obtain ⟨q3, q4⟩ := tails l l' hcv.1 hcw.1 ih q2
    exact ⟨by rw [q3], q4⟩
   ·obtain ⟨b1, _⟩ : n' = 0 ∧ namesS s' = true := by rcases hcw.2 with ⟨h, _⟩ | ⟨h, _⟩ | ⟨h, _⟩ | ⟨h, _⟩ | ⟨h, _⟩ | ⟨_, h⟩ <;> first | exact h | exact absurd h (by decide)
    subst a1; subst b1
    simp only [show ¬ ((6 : Int) = 1) by decide, show ¬ ((6 : Int) = 2) by decide, show ¬ ((6 : Int) = 3) by decide, show ¬ ((6 : Int) = 5) by decide, if_false] at q1
    simp only [show ¬ ((6 : Int) = 5) by decide, false_or, true_and] at q2
    subst q1
    by_cases c1 : l.length = 0 <;> by_cases c2 : l'.length = 0
    ·rw [if_neg (by simpa using c1), if_neg (by simpa using c2)] at q2
     rw [List.length_eq_zero_iff.1 c1, List.length_eq_zero_iff.1 c2]
     exact ⟨rfl, q2⟩
    ·rw [if_neg (by simpa using c1), if_pos c2, List.nil_append] at q2
     exact absurd q2 hr.ne40
    ·rw [if_pos c1, if_neg (by simpa using c2), List.nil_append] at q2
     exact absurd q2.symm hr'.ne40
    ·rw [if_pos c1, if_pos c2] at q2
     obtain ⟨q3, q4⟩ := tails l l' hcv.1 hcw.1 ih q2
     exact ⟨by rw [q3], q4⟩
end
section
open Go Go.Proofs
section
variable {C : Ctx} {H : Heap}
theorem QgG {b : Nat} {p : Option (Nat × Nat)} {s : Sl} {K : Heap → Prop} (hb : H b = some (true, .trow tyB 0 [pv p, slv s])) (hp : p = none ∨ p = some (b, 0)) (k : K (H.put b (.trow tyB 0 [pv (some (b, 0)), slv s]))) : QG C (some (b, 0)) K H := by
 apply Qcl
 unfold QaL
 refine ⟨_, rfl, p, by simp [rd, hb, GO.cells?], ?_⟩
 rcases hp with rfl | rfl
 ·exact Qs rfl ⟨(b, 0), rfl, ⟨true, _, 0, _, hb, by simp⟩, ⟨true, 0, _, hb, rfl, rfl⟩, _, rfl, _, 0, _, hb, Nat.le_refl _, by simp, k⟩
 ·refine Qi rfl ⟨_, rfl, some (b, 0), by simp [rd, hb, GO.cells?], (b, 0), rfl, rfl, Qi rfl ?_⟩
  have : H.put b (.trow tyB 0 [pv (some (b, 0)), slv s]) = H := Heap.put_id hb
  rw [this] at k; exact k
theorem Qnc {H : Heap} {b : Nat} {p : Option (Nat × Nat)} {s : Sl} {t : TypeId} (hb : H b = some (true, .trow t 0 [pv p, slv s])) : rd H (b, 0 + 1) = some (slv s) := by simp [rd, hb, GO.cells?]
theorem Qju {b : Nat} {bs : Str} {c : UInt8} {K : Value → Heap → Prop} (h : IsB tyB tyE H b bs) (hl : bs.length + 1 ≤ 140737488355328) (k : K .nilIface (H.put b (Bd (bs ++ [c])))) : Qf C (some (b, 0)) (c.toNat : Int) K H := by
 apply Qf.gh
 refine h.open_ fun p s H' ho => ?_
 refine Qck _ _ _ _ _ ?_
 unfold QaK
 refine QgG ho.row ho.self ?_
 have ho2 := ho.setP (p2 := some (b, 0)) (.inr rfl)
 refine ⟨_, rfl, s, Qnc ho2.row, ?_⟩
 refine ho2.apd (by obtain ⟨g, hg⟩ := h.some; exact ⟨_, hg⟩) (ys := [c]) (by simpa using hl) fun r H3 h3 hr => ?_
 exact ⟨_, rfl, _, 0, _, hr, Nat.zero_le _, by simp, _, Gh.hideB h3, k⟩
theorem Qh8 {b : Nat} {bs c : Str} {K : Int → Value → Heap → Prop} (h : IsB tyB tyE H b bs) (hl : bs.length + c.length ≤ 140737488355328) (k : K (c.length : Int) .nilIface (H.put b (Bd (bs ++ c)))) : Qh C (some (b, 0)) c K H := by
 apply Qh.gh
 refine h.open_ fun p s H' ho => ?_
 refine QbV _ _ _ _ _ ?_
 unfold Qan
 refine QgG ho.row ho.self ?_
 have ho2 := ho.setP (p2 := some (b, 0)) (.inr rfl)
 refine ⟨_, rfl, s, Qnc ho2.row, ?_⟩
 refine ho2.apd (by obtain ⟨g, hg⟩ := h.some; exact ⟨_, hg⟩) (ys := c) hl fun r H3 h3 hr => ?_
 exact ⟨_, rfl, _, 0, _, hr, Nat.zero_le _, by simp, _, Gh.hideB h3, k⟩
theorem Qlr {b : Nat} {bs : Str} {K : Str → Heap → Prop} (h : IsB tyB tyE H b bs) (hl : bs.length ≤ 9223372036854775807) (k : K bs (H.put b (Bd bs))) : Qr C (some (b, 0)) K H := by
 apply Qr.gh
 refine h.open_ fun p s H' ho => ?_
 refine Qc3 _ _ _ _ ?_
 unfold Qbg
 obtain ⟨e1, e2, e3⟩ := ho.slen
 have hrd : rd (H'.hide s) (b, 0 + 1) = some (slv s) := by
  have : (H'.hide s) b = H' b := by
   unfold Heap.hide
   split
   ·rename_i q hq; rw [if_neg (fun e => ho.ne q hq e.symm)]
   ·rfl
  simp [rd, this, ho.row, GO.cells?]
 refine ⟨H'.hide s, Heap.hide_le _ _, _, rfl, s, hrd, ⟨e3, e2⟩, _, rfl, s, hrd, ?_⟩
 rcases ho.buf with ⟨rfl, rfl⟩ | ⟨g, kk, row, hg, rfl, hgr, hk, hr0, hrl, hcs⟩
 ·exact .inl ⟨rfl, Heap.hide_le _ _, _, Gh.hideB ho, k⟩
 ·by_cases h0 : bs = []
  ·subst h0
   exact .inl ⟨rfl, Heap.hide_le _ _, _, Gh.hideB ho, k⟩
  ·refine .inr ⟨g, kk, row, bs, rfl, hgr, rfl, h0, hl, hcs, fun x v hx => ?_, _, Gh.hideB (b := b) (T := tyB) (e := tyE) (bs := bs) (p := p) (s := ⟨some (g, 0), bs.length, row.length, none⟩) ?_, k⟩
   ·have hxg : x ≠ g := fun e => by subst e; simp [Heap.hide] at hx
    rw [Heap.put_ne _ _ _ hxg]; exact (Heap.hide_le _ _) _ _ hx
   ·refine ⟨ho.self, by rw [Heap.put_ne _ _ _ (Ne.symm hg)]; exact ho.row, .inr ⟨g, max kk bs.length, row, hg, rfl, Heap.put_same .., by omega, hr0, hrl, hcs⟩, ho.gnot, fun x v hx hv => ?_⟩
    have hxg : x ≠ g := fun e => by subst e; have := ho.gnot (x, 0) rfl; dsimp only at this; rw [this] at hv; cases hv
    rw [Heap.put_ne _ _ _ hxg]; exact ho.but x v hx hv
end
end
section
open Go Go.Proofs
section
variable {C : Ctx} {H : Heap}
theorem QiM {b : Bool} {K : Str → Heap → Prop} (k : K (if b then trueS else falseS) H) : Qbb C b K H := by
 apply Qeh
 unfold Qb4
 apply QbU
 unfold Qam
 cases b with
 | true => exact Qs rfl k
 | false => exact Qi rfl k
theorem hexS {k : Nat} (h : k < 16) : ([48, 49, 50, 51, 52, 53, 54, 55, 56, 57, 97, 98, 99, 100, 101, 102] : Str)[k]? = some (hexD k) := by
 have : ∀ k : Fin 16, ([48, 49, 50, 51, 52, 53, 54, 55, 56, 57, 97, 98, 99, 100, 101, 102] : Str)[k.val]? = some (hexD k.val) := by decide
 exact this ⟨k, h⟩
theorem shr4 : ∀ c : UInt8, sShr .u8 (c.toNat : Int) 4 = ((c.toNat / 16 : Nat) : Int) := by
 have : ∀ k : Fin 256, sShr .u8 (k.val : Int) 4 = ((k.val / 16 : Nat) : Int) := by decide +kernel
 exact fun c => this ⟨c.toNat, c.toNat_lt⟩
theorem and15 : ∀ c : UInt8, bAnd .u8 (c.toNat : Int) 15 = ((c.toNat % 16 : Nat) : Int) := by
 have : ∀ k : Fin 256, bAnd .u8 (k.val : Int) 15 = ((k.val % 16 : Nat) : Int) := by decide +kernel
 exact fun c => this ⟨c.toNat, c.toNat_lt⟩
/-- over A, of which b is not, the builder b holds bs -/
structure Wr (A B : Heap) (b : Nat) (bs : Str) : Prop where
 le : A.le B
 nb : A b = none
 bl : IsB tyB tyE B b bs
theorem Wr.byte {A B : Heap} {b : Nat} {bs : Str} {c : UInt8} {i : Int} {K : Value → Heap → Prop} (h : Wr A B b bs) (hi : i = (c.toNat : Int)) (hl : bs.length + 1 ≤ 140737488355328) (k : ∀ D, Wr A D b (bs ++ [c]) → K .nilIface D) : Qf C (some (b, 0)) i K B := by
 subst hi
 exact Qju h.bl hl (k _ ⟨h.le.put _ _ h.nb, h.nb, IsB.put⟩)
theorem Wr.str {A B : Heap} {b : Nat} {bs s : Str} {K : Int → Value → Heap → Prop} (h : Wr A B b bs) (hl : bs.length + s.length ≤ 140737488355328) (k : ∀ D, Wr A D b (bs ++ s) → K (s.length : Int) .nilIface D) : Qh C (some (b, 0)) s K B :=
 Qh8 h.bl hl (k _ ⟨h.le.put _ _ h.nb, h.nb, IsB.put⟩)
theorem QlY (c : UInt8) : 1 ≤ (qC c).length ∧ (qC c).length ≤ 4 := by
 rcases Qhd c with ⟨_, e⟩ | ⟨_, e⟩ | ⟨_, e⟩ | ⟨_, _, e⟩ | e <;> rw [e] <;> simp
theorem QmG {A B : Heap} {b : Nat} {bs s : Str} {K : Heap → Prop} (h : Wr A B b bs) (hl : bs.length + (quoteS s).length ≤ 140737488355328) (k : ∀ D, Wr A D b (bs ++ quoteS s) → K D) : QdJ C (some (b, 0)) s K B := by
 apply Qil
 unfold Qfl
 have hql : (quoteS s).length = (s.flatMap qC).length + 2 := by simp [quoteS]
 have hpre : ∀ i, ((s.take i).flatMap qC).length ≤ (s.flatMap qC).length := fun i => by
  have := congrArg List.length (congrArg (List.flatMap qC) (List.take_append_drop i s))
  rw [List.flatMap_append, List.length_append] at this; omega
 have hsl : s.length ≤ (s.flatMap qC).length := by
  clear hl k hql hpre
  induction s with
  | nil => exact Nat.le_refl _
  | cons c s ih =>
   have := (QlY c).1
   rw [List.flatMap_cons, List.length_append, List.length_cons]; omega
 refine h.byte (c := 34) rfl (by omega) fun B1 h1 => ?_
 refine ⟨fun x D => ∃ i : Nat, x = (i : Int) ∧ i ≤ s.length ∧ Wr A D b (bs ++ [34] ++ (s.take i).flatMap qC), fun x _ => s.length - x.toNat, ⟨0, rfl, Nat.zero_le _, by simpa using h1⟩, ?_⟩
 rintro _ D ⟨i, rfl, hi, hw⟩
 refine ift.of (fun hlt => ?_) (fun hlt => ?_)
 ·have hlt : i < s.length := by have := of_decide_eq_true hlt; omega
  have hstep : (s.take (i + 1)).flatMap qC = (s.take i).flatMap qC ++ qC s[i] := by
   rw [List.take_add_one, List.getElem?_eq_getElem hlt, Option.toList_some, List.flatMap_append, List.flatMap_singleton]
  have hnl := hpre (i + 1)
  rw [hstep, List.length_append] at hnl
  have hcur : (bs ++ [34] ++ (s.take i).flatMap qC).length = bs.length + 1 + ((s.take i).flatMap qC).length := by simp only [List.length_append, List.length_singleton]
  refine ⟨fun _ E => Wr A E b (bs ++ [34] ++ (s.take (i + 1)).flatMap qC), ?_, ?_⟩
  ·refine ⟨s[i], by omega, by rw [Int.toNat_natCast]; exact List.getElem?_eq_getElem hlt, ?_⟩
   rw [hstep, ← List.append_assoc]
   generalize s[i] = c at *
   generalize bs ++ [34] ++ (s.take i).flatMap qC = cur at *
   have e34 : ((c.toNat : Int) == 34) = decide (c = 34) := by
    rw [Bool.eq_iff_iff, beq_iff_eq, decide_eq_true_iff]
    exact ⟨fun h => Qme (by show c.toNat = 34; omega), fun h => by rw [h]; rfl⟩
   have e92 : ((c.toNat : Int) == 92) = decide (c = 92) := by
    rw [Bool.eq_iff_iff, beq_iff_eq, decide_eq_true_iff]
    exact ⟨fun h => Qme (by show c.toNat = 92; omega), fun h => by rw [h]; rfl⟩
   have e10 : ((c.toNat : Int) == 10) = decide (c = 10) := by
    rw [Bool.eq_iff_iff, beq_iff_eq, decide_eq_true_iff]
    exact ⟨fun h => Qme (by show c.toNat = 10; omega), fun h => by rw [h]; rfl⟩
   have e9 : ((c.toNat : Int) == 9) = decide (c = 9) := by
    rw [Bool.eq_iff_iff, beq_iff_eq, decide_eq_true_iff]
    exact ⟨fun h => Qme (by show c.toNat = 9; omega), fun h => by rw [h]; rfl⟩
   rw [e34, e92, e10, e9]
   have hq4 := (QlY c).2
   refine ift.of (fun c1 => ?_) (fun c1 => ?_)
   ·simp only [Bool.or_eq_true, decide_eq_true_eq] at c1
    have e : qC c = [92, c] := by unfold qC; rw [if_pos c1]
    rw [e] at hnl ⊢
    simp only [List.length_cons, List.length_nil] at hnl
    refine hw.byte (c := 92) rfl (by omega) fun D1 h2 => h2.byte (c := c) rfl (by simp; omega) fun D2 h3 => ?_
    simpa using h3
   simp only [Bool.or_eq_false_iff, decide_eq_false_iff_not] at c1
   have c1' : ¬ (c = 34 ∨ c = 92) := fun h => h.elim c1.1 c1.2
   refine ift.of (fun c2 => ?_) (fun c2 => ?_)
   ·have c2 := of_decide_eq_true c2
    have e : qC c = [92, 110] := by unfold qC; rw [if_neg c1', if_pos c2]
    rw [e] at hnl ⊢
    simp only [List.length_cons, List.length_nil] at hnl
    exact hw.str (s := [92, 110]) (by simp; omega) fun D1 h2 => h2
   have c2 := of_decide_eq_false c2
   refine ift.of (fun c3 => ?_) (fun c3 => ?_)
   ·have c3 := of_decide_eq_true c3
    have e : qC c = [92, 116] := by unfold qC; rw [if_neg c1', if_neg c2, if_pos c3]
    rw [e] at hnl ⊢
    simp only [List.length_cons, List.length_nil] at hnl
    exact hw.str (s := [92, 116]) (by simp; omega) fun D1 h2 => h2
   have c3 := of_decide_eq_false c3
   refine ift.of (fun c4 => ?_) (fun c4 => ?_)
   ·simp only [Bool.and_eq_true, decide_eq_true_eq] at c4
    have e : qC c = [c] := by unfold qC; rw [if_neg c1', if_neg c2, if_neg c3, if_pos (by omega)]
    rw [e] at hnl ⊢
    simp only [List.length_cons, List.length_nil] at hnl
    exact hw.byte (c := c) rfl (by omega) fun D1 h2 => h2
   ·simp only [Bool.and_eq_false_iff, decide_eq_false_iff_not] at c4
    have e : qC c = [92, 120, hexD (c.toNat / 16), hexD (c.toNat % 16)] := by unfold qC; rw [if_neg c1', if_neg c2, if_neg c3, if_neg (by omega)]
    rw [e] at hnl ⊢
    simp only [List.length_cons, List.length_nil] at hnl
    have hct := c.toNat_lt
    refine hw.str (s := [92, 120]) (by simp; omega) fun D1 h2 => ?_
    rw [shr4, and15]
    refine ⟨hexD (c.toNat / 16), by omega, by rw [Int.toNat_natCast]; exact hexS (by omega), ?_⟩
    refine h2.byte (c := hexD (c.toNat / 16)) rfl (by simp; omega) fun D2 h3 => ?_
    refine ⟨hexD (c.toNat % 16), by omega, by rw [Int.toNat_natCast]; exact hexS (by omega), ?_⟩
    refine h3.byte (c := hexD (c.toNat % 16)) rfl (by simp; omega) fun D3 h4 => ?_
    simpa using h4
  ·rintro _ E hE
   rw [Qz (by omega) (by omega)]
   exact ⟨⟨i + 1, by omega, by omega, hE⟩, by first | omega | (dsimp only; omega)⟩
 ·have hie : i = s.length := by have := of_decide_eq_false hlt; omega
  rw [hie, List.take_length] at hw
  refine hw.byte (c := 34) rfl (by simp only [List.length_append, List.length_singleton]; omega) fun E hE => k E ?_
  simpa [quoteS] using hE
/-- the two closures, each in the other's cell -/
structure Clo (C : Ctx) (A : Heap) (b p q : Nat) : Prop where
 list : ∃ x, rd A (p, 0) = some x ∧ ∀ (t : Sl) (B : Heap) (Φ : Value → Heap → Prop), Qc9 C t (b, 0) (q, 0) (fun D => Φ (.tuple #[]) D) B → callU Tryz.prog C x [slv t] B Φ
 show_ : ∃ x, rd A (q, 0) = some x ∧ ∀ (v : TV) (B : Heap) (Φ : Value → Heap → Prop), Qbe C v (b, 0) (p, 0) (fun D => Φ (.tuple #[]) D) B → callU Tryz.prog C x [.agg (Qa.c v).toArray] B Φ
variable {A B : Heap} {b p q : Nat}
theorem Clo.le {A1 : Heap} (h : Clo C A b p q) (hle : A.le A1) : Clo C A1 b p q := by
 obtain ⟨⟨x, h1, h2⟩, y, h3, h4⟩ := h
 exact ⟨⟨x, QjV hle h1, h2⟩, y, QjV hle h3, h4⟩
theorem Wr.box {bs : Str} {b1 : Nat} {x : TV} (h : Wr A B b bs) (n1 : B b1 = none) :
 Wr (A.put b1 (.row (Qa.c x))) (B.put b1 (.row (Qa.c x))) b bs ∧ A.le (A.put b1 (.row (Qa.c x))) ∧ (A.put b1 (.row (Qa.c x))) b1 = some (true, .row (Qa.c x)) := by
 have hne : b ≠ b1 := fun e => by
  obtain ⟨g, hg⟩ := h.bl.some
  rw [e, n1] at hg; cases hg
 refine ⟨⟨fun z e hz => ?_, by rw [Heap.put_ne _ _ _ hne]; exact h.nb, h.bl.le (Heap.le_put n1)⟩, Heap.le_put (h.le.none n1), Heap.put_same ..⟩
 by_cases hzb : z = b1
 ·subst hzb; rw [Heap.put_same] at hz ⊢; exact hz
 ·rw [Heap.put_ne _ _ _ hzb] at hz ⊢; exact h.le _ _ hz
theorem Wr.base {A1 D : Heap} {bs : Str} (h : Wr A1 D b bs) (hle : A.le A1) : Wr A D b bs := ⟨hle.trans h.le, hle.none h.nb, h.bl⟩
theorem Qk3 (v : V) : showV v = if v.k = 1 then (if v.n = 1 then trueS else falseS) else if v.k = 2 then Lib.itoa v.n else if v.k = 3 then v.s ++ [98] else if v.k = 4 then quoteS v.s
 else if v.k = 5 then 40 :: (showR true v.l ++ [41]) else v.s ++ (if v.l.length = 0 then [] else 40 :: (showR true v.l ++ [41])) := by cases v; rfl
theorem QlJ {l : List V} (ih : ∀ w ∈ l, ∀ {A B : Heap} {x : TV} {bs : Str} {K : Heap → Prop}, Clo C A b p q → VIs A w x → VB w → Wr A B b bs → bs.length + (showV w).length ≤ 140737488355328 → (∀ D, Wr A D b (bs ++ showV w) → K D) → Qbe C x (b, 0) (p, 0) K B)
 {A B : Heap} {t : Sl} {bs : Str} {K : Heap → Prop} (hC : Clo C A b p q) (hv : VRow A t l) (hl0 : l.length ≤ 140737488355328) (hB : VBs l) (h : Wr A B b bs) (hl : bs.length + (showR true l).length + 2 ≤ 140737488355328)
 (k : ∀ D, Wr A D b (bs ++ (40 :: (showR true l ++ [41]))) → K D) : Qc9 C t (b, 0) (q, 0) K B := by
 apply Qhp
 unfold QeH
 refine h.byte (c := 40) rfl (by omega) fun B1 h1 => ?_
 rw [hv.len]
 refine ⟨fun x D => ∃ i : Nat, x = (i : Int) ∧ i ≤ l.length ∧ Wr A D b (bs ++ [40] ++ showR true (l.take i)), fun x _ => l.length - x.toNat, ⟨0, rfl, Nat.zero_le _, by simpa [showR] using h1⟩, ?_⟩
 rintro _ D ⟨i, rfl, hi, hw⟩
 refine ift.of (fun hlt => ?_) (fun hlt => ?_)
 ·have hlt : i < l.length := by have := of_decide_eq_true hlt; omega
  have hm := List.getElem_mem hlt
  have hst := Qlj hlt
  have hpl := Ql9 l (i + 1)
  rw [hst] at hpl
  simp only [List.length_append] at hpl
  refine hv.ld hw.le rfl hlt fun x hx => ?_
  intro b14 n14
  refine ⟨_, Heap.put_same .., by simp [Qa.c], ?_⟩
  rw [Heap.put_put]
  have hc : splice (Qa.c Qa.zero) (b14, 0).2 (Qa.c x) = Qa.c x := rfl
  rw [hc]
  obtain ⟨w1, w2, w3⟩ := hw.box (x := x) n14
  refine ⟨fun _ E => Wr (A.put b14 (.row (Qa.c x))) E b (bs ++ [40] ++ showR true (l.take i) ++ (if i = 0 then [] else [44, 32])), ?_, ?_⟩
  ·refine ift.of (fun h0 => ?_) (fun h0 => ?_)
   ·have h0 : i ≠ 0 := by have := of_decide_eq_true h0; omega
    rw [if_neg h0] at hpl ⊢
    simp only [List.length_cons, List.length_nil] at hpl
    exact w1.str (s := [44, 32]) (by simp only [List.length_append, List.length_cons, List.length_nil]; omega) fun E hE => hE
   ·have h0 : i = 0 := by have := of_decide_eq_false h0; omega
    rw [if_pos h0, List.append_nil]; exact w1
  ·rintro _ E hE
   obtain ⟨y, y1, y2⟩ := (hC.le w2).show_
   refine ⟨y, QjV hE.le y1, bxV (hE.le _ _ w3) (y2 _ _ _ (ih _ hm (hC.le w2) (hx.le w2) (hB.mem hm) hE ?_ fun F hF => ⟨rfl, ?_⟩))⟩
   ·simp only [List.length_append, List.length_cons, List.length_nil]; omega
   ·rw [Qz (by omega) (by omega)]
    refine ⟨⟨i + 1, by omega, by omega, ?_⟩, by first | omega | (dsimp only; omega)⟩
    rw [hst]
    have := hF.base w2
    simpa only [List.append_assoc] using this
 ·have hie : i = l.length := by have := of_decide_eq_false hlt; omega
  rw [hie, List.take_length] at hw
  refine hw.byte (c := 41) rfl (by simp only [List.length_append, List.length_cons, List.length_nil]; omega) fun E hE => k E ?_
  simpa only [List.append_assoc, List.cons_append, List.nil_append] using hE
theorem QmQ (hF : FmtC C) (v : V) : ∀ {A B : Heap} {x : TV} {bs : Str} {K : Heap → Prop}, Clo C A b p q → VIs A v x → VB v → Wr A B b bs → bs.length + (showV v).length ≤ 140737488355328 → (∀ D, Wr A D b (bs ++ showV v) → K D) → Qbe C x (b, 0) (p, 0) K B := by
 refine V.rec_ (P := fun v => ∀ {A B : Heap} {x : TV} {bs : Str} {K : Heap → Prop}, Clo C A b p q → VIs A v x → VB v → Wr A B b bs → bs.length + (showV v).length ≤ 140737488355328 → (∀ D, Wr A D b (bs ++ showV v) → K D) → Qbe C x (b, 0) (p, 0) K B) (fun v ih => ?_) v
 intro A B x bs K hC hv hB h hl k
 apply Qhq
 unfold QeI
 intro b1 n1
 obtain ⟨w1, w2, w3⟩ := h.box (x := x) n1
 have hv1 := Qct.1 hv
 have hb1 := w1.le _ _ w3
 have k1 : ∀ D, Wr (A.put b1 (.row (Qa.c x))) D b (bs ++ showV v) → K D := fun D hD => k D (hD.base w2)
 rw [Qk3] at hl k1
 have hC1 := hC.le w2
 have hrow := hv1.2.2.2.le w2
 generalize A.put b1 (.row (Qa.c x)) = A1 at *
 generalize B.put b1 (.row (Qa.c x)) = B1 at *
 refine bxK hb1 ?_
 rw [hv1.1]
 refine ift.of (fun h1 => ?_) (fun h1 => ?_)
 ·have h1 : v.k = 1 := by simpa using h1
  rw [if_pos h1] at hl k1
  refine bxN hb1 (QiM ?_)
  rw [hv1.2.1]
  have e : (if (v.n == 1) = true then trueS else falseS) = (if v.n = 1 then trueS else falseS) := by simp
  rw [e]
  exact w1.str hl k1
 have h1 : v.k ≠ 1 := by simpa using h1
 rw [if_neg h1] at hl k1
 refine ift.of (fun h2 => ?_) (fun h2 => ?_)
 ·have h2 : v.k = 2 := by simpa using h2
  rw [if_pos h2] at hl k1
  refine bxN hb1 ?_
  rw [hv1.2.1]
  exact hF.ok hB.n.1 hB.n.2 (w1.str hl k1)
 have h2 : v.k ≠ 2 := by simpa using h2
 rw [if_neg h2] at hl k1
 refine ift.of (fun h3 => ?_) (fun h3 => ?_)
 ·have h3 : v.k = 3 := by simpa using h3
  rw [if_pos h3] at hl k1
  simp only [List.length_append, List.length_cons, List.length_nil] at hl
  refine bxS hb1 ?_
  rw [hv1.2.2.1]
  refine w1.str (by omega) fun D hD => hD.byte (c := 98) rfl (by rw [List.length_append]; omega) fun E hE => k1 E ?_
  simpa only [List.append_assoc] using hE
 have h3 : v.k ≠ 3 := by simpa using h3
 rw [if_neg h3] at hl k1
 refine ift.of (fun h4 => ?_) (fun h4 => ?_)
 ·have h4 : v.k = 4 := by simpa using h4
  rw [if_pos h4] at hl k1
  refine bxS hb1 ?_
  rw [hv1.2.2.1]
  exact QmG w1 hl k1
 have h4 : v.k ≠ 4 := by simpa using h4
 rw [if_neg h4] at hl k1
 obtain ⟨y, y1, y2⟩ := hC1.list
 refine ift.of (fun h5 => ?_) (fun h5 => ?_)
 ·have h5 : v.k = 5 := by simpa using h5
  rw [if_pos h5] at hl k1
  simp only [List.length_append, List.length_cons, List.length_nil] at hl
  exact ⟨y, QjV w1.le y1, bxL hb1 (y2 _ _ _ (QlJ ih hC1 hrow hB.l hB.ls w1 (by omega) fun D hD => ⟨rfl, k1 D hD⟩))⟩
 have h5 : v.k ≠ 5 := by simpa using h5
 rw [if_neg h5] at hl k1
 rw [List.length_append] at hl
 refine bxS hb1 ?_
 rw [hv1.2.2.1]
 refine w1.str (by omega) fun D hD => bxL (hD.le _ _ w3) ?_
 rw [hrow.len]
 refine ift.of (fun h6 => ?_) (fun h6 => ?_)
 ·have h6 : v.l.length ≠ 0 := by have := of_decide_eq_true h6; omega
  rw [if_neg h6] at hl k1
  simp only [List.length_append, List.length_cons, List.length_nil] at hl
  refine ⟨y, QjV hD.le y1, bxL (hD.le _ _ w3) (y2 _ _ _ (QlJ ih hC1 hrow hB.l hB.ls hD (by rw [List.length_append]; omega) fun E hE => ⟨rfl, k1 E ?_⟩))⟩
  rw [← List.append_assoc]; exact hE
 ·have h6 : v.l.length = 0 := by have := of_decide_eq_false h6; omega
  rw [if_pos h6] at k1
  rw [List.append_nil] at k1
  exact k1 D hD
/-- the text of a value that may be -/
theorem Qng (hF : FmtC C) {v : V} {x : TV} {K : Str → Heap → Prop} (hv : VIs H v x) (hB : VB v) (hl : mayV v = true → (showV v).length ≤ 140737488355328) (k : ∀ H2, H.le H2 → K (if mayV v then showV v else []) H2) : Qbw C x K H := by
 apply QiW
 unfold Qgd
 intro b1 n1
 have hle1 := Heap.le_put n1 (g := .row (Qa.c x)) (m := true)
 have hb1 : (H.put b1 (.row (Qa.c x))) b1 = some (true, .row (Qa.c x)) := Heap.put_same ..
 have hv1 := hv.le hle1
 generalize H.put b1 (.row (Qa.c x)) = H1 at *
 refine bxV hb1 (Qdh hv1 hB ?_)
 rw [bne, Qi8]
 refine ift.of (fun h => ?_) (fun h => ?_)
 ·have h : mayV v = false := by simpa using h
  have := k H1 hle1
  rw [h] at this; exact this
 have h : mayV v = true := by simpa using h
 intro b8 n8 b10 n10 b12 n12
 have l8 := Heap.le_put n8 (g := .trow tyB 0 [pv none, slv Sl.nil]) (m := true)
 have ne1 : b8 ≠ b10 := fun e => by rw [e, Heap.put_same] at n10; cases n10
 have ne2 : b8 ≠ b12 := fun e => by rw [← e, Heap.put_ne _ _ _ ne1, Heap.put_same] at n12; cases n12
 have ne3 : b10 ≠ b12 := fun e => by rw [e, Heap.put_same] at n12; cases n12
 refine ⟨[.nilFunc], Heap.put_same .., Nat.zero_lt_one, ?_⟩
 refine ⟨[.nilFunc], ?_, Nat.zero_lt_one, ?_⟩
 ·show ((((H1.put b8 _).put b10 _).put b12 _).put b12 _) b10 = _
  rw [Heap.put_ne _ _ _ ne3, Heap.put_ne _ _ _ ne3, Heap.put_same]
 generalize hf24 : Value.func (Fn.func _) (List.toArray []) (List.toArray [pv (some (b8, 0)), pv (some (b10, 0))]) = F24
 generalize hf27 : Value.func (Fn.func _) (List.toArray []) (List.toArray [pv (some (b8, 0)), pv (some (b12, 0))]) = F27
 simp only [List.set_cons_zero]
 have n10' : H1 b10 = none := l8.none n10
 have n12' : H1 b12 = none := (l8.trans (Heap.le_put n10)).none n12
 generalize hD0 : ((((H1.put b8 (.trow tyB 0 [pv none, slv Sl.nil])).put b10 (.row [.nilFunc])).put b12 (.row [.nilFunc])).put b12 (.row [F24])).put b10 (.row [F27]) = D0
 have d8 : D0 b8 = some (true, .trow tyB 0 [pv none, slv Sl.nil]) := by
  rw [← hD0, Heap.put_ne _ _ _ ne1, Heap.put_ne _ _ _ ne2, Heap.put_ne _ _ _ ne2, Heap.put_ne _ _ _ ne1, Heap.put_same]
 have d10 : D0 b10 = some (true, .row [F27]) := by rw [← hD0, Heap.put_same]
 have d12 : D0 b12 = some (true, .row [F24]) := by rw [← hD0, Heap.put_ne _ _ _ (Ne.symm ne3), Heap.put_same]
 have dle : H1.le D0 := fun z e hz => by
  have z8 : z ≠ b8 := fun e' => by rw [e', n8] at hz; cases hz
  have z10 : z ≠ b10 := fun e' => by rw [e', n10'] at hz; cases hz
  have z12 : z ≠ b12 := fun e' => by rw [e', n12'] at hz; cases hz
  rw [← hD0, Heap.put_ne _ _ _ z10, Heap.put_ne _ _ _ z12, Heap.put_ne _ _ _ z12, Heap.put_ne _ _ _ z10, Heap.put_ne _ _ _ z8]; exact hz
 clear hD0
 let A : Heap := D0.del b8
 have hA8 : A b8 = none := Heap.del_same ..
 have hAle : A.le D0 := Heap.del_le D0 b8
 have hHA : H1.le A := fun z e hz => by
  have z8 : z ≠ b8 := fun e' => by rw [e', n8] at hz; cases hz
  show D0.del b8 z = _
  rw [Heap.del_ne _ z8]; exact dle _ _ hz
 have hw : Wr A D0 b8 [] := ⟨hAle, hA8, .inr ⟨rfl, d8⟩⟩
 have a10 : A b10 = some (true, .row [F27]) := by show D0.del b8 b10 = _; rw [Heap.del_ne _ (Ne.symm ne1)]; exact d10
 have a12 : A b12 = some (true, .row [F24]) := by show D0.del b8 b12 = _; rw [Heap.del_ne _ (Ne.symm ne2)]; exact d12
 have hC : Clo C A b8 b12 b10 := by
  refine ⟨⟨F24, by simp [rd, a12, GO.cells?], fun t B Φ hh => ?_⟩, F27, by simp [rd, a10, GO.cells?], fun w B Φ hh => ?_⟩
  ·exact ⟨_, [], _, hf24.symm, QhM, Spec.mono hh fun u B2 ⟨e, h2⟩ => by rw [e]; exact h2⟩
  ·exact ⟨_, [], _, hf27.symm, QhN, Spec.mono hh fun u B2 ⟨e, h2⟩ => by rw [e]; exact h2⟩
 obtain ⟨y, y1, y2⟩ := hC.show_
 refine ⟨y, QjV hAle y1, bxV (dle _ _ hb1) (y2 _ _ _ (QmQ hF v (bs := []) hC (hv1.le hHA) hB hw (by simpa using hl h) fun D hD => ⟨rfl, ?_⟩))⟩
 refine Qlr hD.bl (by rw [List.nil_append]; have := hl h; omega) ?_
 have := k (D.put b8 (Bd ([] ++ showV v))) ((hle1.trans hHA).trans (hD.le.put _ _ hA8))
 rw [h] at this
 exact this
end
theorem Qld (s : Str) : (quoteS s).length ≤ 4 * s.length + 2 := by
 have : (s.flatMap qC).length ≤ 4 * s.length := by
  induction s with
  | nil => exact Nat.le_refl _
  | cons c s ih =>
   have := (QlY c).2
   rw [List.flatMap_cons, List.length_append, List.length_cons]; omega
 simp only [quoteS, List.length_cons, List.length_append, List.length_nil]; omega
theorem Qj1 : ∀ (l : List V) (f : Bool), (∀ v ∈ l, (showV v).length + 2 ≤ 17000 * vsize v) → (showR f l).length ≤ 17000 * vsizes l
 | [], f, _ => by simp [showR]
 | v :: l, f, h => by
  have h1 := h v (List.mem_cons_self ..)
  have h2 := Qj1 l false fun w hw => h w (List.mem_cons_of_mem _ hw)
  simp only [showR, vsizes, List.length_append]
  have h3 : (if f = true then ([] : Str) else [44, 32]).length ≤ 2 := by cases f <;> simp
  omega
theorem Qma (v : V) : VB v → formV v = true → fitsV v = true → (showV v).length + 2 ≤ 17000 * vsize v := by
 refine V.rec_ (P := fun v => VB v → formV v = true → fitsV v = true → (showV v).length + 2 ≤ 17000 * vsize v) (fun v ih => ?_) v
 intro hB hf hfit
 have hsz : vsize v = vsizes v.l + 1 := by cases v; rfl
 obtain ⟨hfs, hc⟩ := QeQ hf
 rw [QfP, Bool.and_eq_true] at hfit
 have fm : ∀ {l : List V} {w : V}, w ∈ l → fitsVs l = true → fitsV w = true := by
  intro l
  induction l with
  | nil => intro w hw; cases hw
  | cons x l ihl =>
   intro w hw hl
   simp only [fitsVs, Bool.and_eq_true] at hl
   rcases List.mem_cons.1 hw with rfl | hw
   ·exact hl.1
   ·exact ihl hw hl.2
 have hR := Qj1 v.l true fun w hw => ih w hw (hB.ls.mem hw) (Qcs hw hfs) (fm hw hfit.2)
 have hfN := hfit.1
 rw [Qk3, hsz]
 unfold fitN at hfN
 rcases hc with ⟨h, _⟩ | ⟨h, _⟩ | ⟨h, hn, _⟩ | ⟨h, _⟩ | ⟨h, _⟩ | ⟨h, _, hn⟩
 ·rw [if_pos h]
  have : (if v.n = 1 then trueS else falseS).length ≤ 5 := by split <;> decide
  omega
 ·rw [if_neg (by omega), if_pos h]
  have := Lib.itoa_length_le v.n hB.n.1 hB.n.2
  omega
 ·rw [if_neg (by omega), if_neg (by omega), if_pos h]
  rw [if_pos h] at hfN
  have hd := of_decide_eq_true hfN
  have := (Qgw hn).2.2
  rw [List.length_append, List.length_singleton]; omega
 ·rw [if_neg (by omega), if_neg (by omega), if_neg (by omega), if_pos h]
  rw [if_neg (by omega), if_pos h] at hfN
  have hd := of_decide_eq_true hfN
  have := Qld v.s
  omega
 ·rw [if_neg (by omega), if_neg (by omega), if_neg (by omega), if_neg (by omega), if_pos h]
  simp only [List.length_cons, List.length_append, List.length_nil]; omega
 ·rw [if_neg (by omega), if_neg (by omega), if_neg (by omega), if_neg (by omega), if_neg (by omega)]
  have := (Qen hn).2.2.2.1
  have h2 : (if v.l.length = 0 then ([] : Str) else 40 :: (showR true v.l ++ [41])).length ≤ (showR true v.l).length + 2 := by
   split
   ·exact Nat.zero_le _
   ·simp
  rw [List.length_append]; omega
end
section
open Go Go.Proofs
section
variable {C : Ctx} {H : Heap}
theorem Qlp {A : Heap} {l : List V} {t : Sl} {H : Heap} {K : Sl → Heap → Prop} (hv : VRow A t l) (hle : A.le H) (hz : vsizes l ≤ 1000000) (k : ∀ t2 H2, Made H H2 l t2 → K t2 H2) : QaS C t K H := by
 have main : ∀ v : V, ∀ (A : Heap) (t : Sl) (H : Heap) (K : Sl → Heap → Prop), VRow A t v.l → A.le H → vsizes v.l ≤ 1000000 → (∀ t2 H2, Made H H2 v.l t2 → K t2 H2) → QaS C t K H := by
  refine fun v => V.rec_ (P := fun v => ∀ (A : Heap) (t : Sl) (H : Heap) (K : Sl → Heap → Prop), VRow A t v.l → A.le H → vsizes v.l ≤ 1000000 → (∀ t2 H2, Made H H2 v.l t2 → K t2 H2) → QaS C t K H) (fun v ih => ?_) v
  intro A t H K hv hle hz k
  apply Qjw
  unfold QgM
  have hl := hv.len
  have hll := QeT v.l
  refine ⟨fun x D => ∃ (s : Sl) (ys : List TV), x = (s, (ys.length : Int)) ∧ Od H D v.l s ys, fun x _ => v.l.length - x.2.toNat,
   ⟨Sl.nil, [], rfl, Od.nil⟩, ?_⟩
  rintro _ D ⟨s, ys, rfl, ho⟩
  rw [hl]
  refine ift.of (fun h => ?_) (fun h => ?_)
  ·have hlt : ys.length < v.l.length := by have := of_decide_eq_true h; dsimp only at this; omega
   have hleD := hle.trans ho.own.le
   refine hv.ld hleD rfl hlt fun x hx => ?_
   have hmem := List.getElem_mem hlt
   have hsz := Qb6 hmem
   have hszl : vsize v.l[ys.length] = vsizes v.l[ys.length].l + 1 := by cases v.l[ys.length]; rfl
   have hxi := Qct.1 hx
   intro b12 n12
   refine ⟨_, Heap.put_same .., by simp [Qa.c], ?_⟩
   rw [Heap.put_put]
   have hc : splice (Qa.c Qa.zero) (b12, 0).2 (Qa.c x) = Qa.c x := rfl
   rw [hc]
   show ldL (D.put b12 (.row (Qa.c x))) _ _
   refine ⟨x.L, by rw [QlZ]; rfl, ?_⟩
   refine ih _ hmem A _ _ _ hxi.2.2.2 (hleD.trans (Heap.le_put n12)) (by omega) fun t2 H2 hm => ?_
   refine ⟨_, hm.le _ _ (Heap.put_same ..), by show 0 + 3 < 4; omega, ?_⟩
   show ldT (H2.put b12 (.row ((Qa.c x).set (0 + 3) (slv t2)))) Qa.c (b12, 0) _
   have hc2 : (Qa.c x).set (0 + 3) (slv t2) = Qa.c { x with L := t2 } := rfl
   rw [hc2]
   refine ⟨{ x with L := t2 }, QbP (Heap.put_same ..) fun j v hj => by simpa using hj, ?_⟩
   have hown : Own (H2.put b12 (.row (Qa.c { x with L := t2 }))) 4 s (ys.flatMap Qa.c) := by
    obtain ⟨q1, q2, q3, q4⟩ := ho.own.own
    refine ⟨q1, q2, q3, q4.imp id fun ⟨b, sp, p1, p2, p3⟩ => ⟨b, sp, p1, ?_, p3⟩⟩
    have hne : b ≠ b12 := fun e => by rw [e, n12] at p2; cases p2
    rw [Heap.put_ne _ _ _ hne]
    exact hm.le _ _ (by rw [Heap.put_ne _ _ _ hne]; exact p2)
   have hf := flat4 ys
   have hsl : s.len = ys.length := by have := ho.own.own.1; omega
   refine QcN (zc := Qa.c Qa.zero) hown.off rfl (by dsimp only; omega) (by dsimp only; omega) fun r H3 h4 hr => ?_
   rw [Qz (by omega) (by omega)]
   have hs := ho.step n12 hlt hm (x := { x with L := t2 }) ⟨hxi.1, hxi.2.1, hxi.2.2.1⟩ rfl (fun z e hz he => by rw [Heap.put_ne _ _ _ hz]; exact he) h4
   refine ⟨⟨r, ys ++ [{ x with L := t2 }], ?_, hs⟩, by first | omega | (dsimp only; omega)⟩
   rw [List.length_append, List.length_singleton]; rfl
  ·have hn : ys.length = v.l.length := by
    have := of_decide_eq_false h; dsimp only at this
    have := ho.le
    omega
   exact k _ _ (ho.fin hn (by omega))
 exact main (.mk 0 0 [] l) A t H K hv hle hz k
/-- what writes over: all that is not N's stays, and what may be written over may still be -/
theorem Qjm {N : Nat → Prop} {k : Nat} {t : Sl} {H : Heap} {K : Heap → Prop} (h : Sp N H k t)
 (hk : ∀ H2, (∀ c, ¬ N c → H2 c = H c) → (∀ k t, Sp N H k t → Sp N H2 k t) → K H2) : QF C t K H := by
 have nil : ∀ {t : Sl} {H : Heap} {K : Heap → Prop}, t.len = 0 → K H → QF C t K H := by
  intro t H K h0 hk
  apply Qe1
  unfold Qdg
  rw [h0]
  refine ⟨fun x D => x = 0 ∧ D = H, fun _ _ => 0, ⟨rfl, rfl⟩, ?_⟩
  rintro _ _ ⟨rfl, rfl⟩
  exact Qi rfl hk
 induction k generalizing t H K with
 | zero => exact nil h (hk H (fun _ _ => rfl) fun _ _ h => h)
 | succ k ih =>
  by_cases h0 : t.len = 0
  ·exact nil h0 (hk H (fun _ _ => rfl) fun _ _ h => h)
  have cells : ∀ {D : Heap}, Sp N D (k + 1) t → ∃ (b : Nat) (xs : List TV) (sp : List Value), N b ∧ t.p = some (b, 0) ∧ t.x = none ∧ D b = some (true, .row (xs.flatMap Qa.c ++ sp)) ∧ (t.len ≤ xs.length ∧ xs.length ≤ 1000000) ∧ ∀ x ∈ xs, Sp N D k x.L := fun h => h.elim (fun h => absurd h h0) id
  have hlen : t.len ≤ 1000000 := by obtain ⟨b, xs, sp, _, _, _, _, h5, _⟩ := cells h; omega
  apply Qe1
  unfold Qdg
  refine ⟨fun x D => ∃ i : Nat, x = (i : Int) ∧ i ≤ t.len ∧ (∀ c, ¬ N c → D c = H c) ∧ ∀ k t, Sp N H k t → Sp N D k t, fun x _ => t.len - x.toNat, ⟨0, rfl, Nat.zero_le _, fun _ _ => rfl, fun _ _ h => h⟩, ?_⟩
  rintro _ D ⟨i, rfl, hi, hD, hS⟩
  refine ift.of (fun hlt => ?_) (fun hlt => hk D hD hS)
  have hlt : i < t.len := by have := of_decide_eq_true hlt; omega
  obtain ⟨b, xs, sp, h1, h2, h3, h4, h5, h6⟩ := cells (hS _ _ h)
  have hix : i < xs.length := by omega
  have e0 : 0 + ((i : Int).toNat) * 4 + 3 = i * 4 + 3 := by omega
  have hf := flat4 xs
  refine ⟨(b, 0), h2, h3, by omega, by omega, xs[i].L, ?_, ?_⟩
  ·show rd _ (b, 0 + ((i : Int).toNat) * 4 + 3) = _
   rw [e0]
   simp only [rd, h4, GO.cells?]
   show (List.flatMap Qa.c xs ++ sp)[i * 4 + 3]? = _
   rw [List.getElem?_append_left (by omega)]
   exact QdM Qa.c 4 TV.c_len xs i _ (List.getElem?_eq_getElem hix) 3 _ rfl
  refine ih (h6 _ (List.getElem_mem hix)) fun D2 hD2 hS2 => ?_
  obtain ⟨b', xs2, sp2, g1, g2, g3, g4, g5, g6⟩ := cells (hS2 _ _ (hS _ _ h))
  have hb : b' = b := by rw [h2] at g2; injection g2 with g2; injection g2 with g2; exact g2.symm
  subst hb
  have hf2 := flat4 xs2
  have e1 : 0 + ((i : Int).toNat) * 4 = i * 4 := by omega
  refine ⟨(b', 0), h2, h3, by omega, by omega, _, g4, ?_, ?_⟩
  ·show 0 + ((i : Int).toNat) * 4 + (Qa.c _).length ≤ _
   rw [e1, TV.c_len, List.length_append, hf2]; omega
  rw [Qz (by omega) (by omega)]
  refine ⟨⟨i + 1, by omega, by omega, fun c hc => ?_, fun k t hs => ?_⟩, by first | omega | (dsimp only; omega)⟩
  ·have hne : c ≠ b' := fun e => hc (e ▸ g1)
   rw [Heap.put_ne _ _ _ hne, hD2 c hc, hD c hc]
  ·show Sp N (D2.put b' (.row (splice _ (0 + ((i : Int).toNat) * 4) _))) k t
   rw [e1]
   exact Sp.put g4 rfl (hS2 _ _ (hS _ _ hs))
end
end
section
open Go Go.Proofs
theorem Qh4 {l : List V} {i : Nat} (h : i < l.length) : vsizes (l.take (i + 1)) = vsizes (l.take i) + vsize l[i] := by
 have e : ∀ a b : List V, vsizes (a ++ b) = vsizes a + vsizes b := by
  intro a
  induction a with
  | nil => intro b; simp [vsizes]
  | cons v a ih => intro b; simp only [List.cons_append, vsizes, ih]; omega
 rw [List.take_add_one, List.getElem?_eq_getElem h, Option.toList_some, e]; simp [vsizes]
section
variable {C : Ctx} {H : Heap}
theorem div50 {n : Nat} (h : n ≤ 140737488355328) : w .i64 (1 + w .i64 (Int.tdiv (n : Int) 50)) = ((1 + n / 50 : Nat) : Int) := by
 have e : Int.tdiv (n : Int) 50 = ((n / 50 : Nat) : Int) := by
  rw [Int.tdiv_eq_ediv_of_nonneg (by omega)]; omega
 rw [e, Qz (x := ((n / 50 : Nat) : Int)) (by omega) (by omega), Qz (by omega) (by omega)]; omega
theorem Qmh {v : V} {x : TV} {H : Heap} {m : Nat} {K : Int → Heap → Prop} (hv : VIs H v x) (hB : VB v) (h0 : 1 ≤ m) (hm : m ≤ 1000000) (k : ∀ r : Nat, 1 ≤ r → r ≤ 8796093022208 + m → (r < m → vsize v ≤ r) → K r H) : QQ C x m K H := by
 refine V.rec_ (P := fun v => ∀ {x H} {m : Nat} {K : Int → Heap → Prop}, VIs H v x → VB v → 1 ≤ m → m ≤ 1000000 → (∀ r : Nat, 1 ≤ r → r ≤ 8796093022208 + m → (r < m → vsize v ≤ r) → K r H) → QQ C x m K H) (fun v ih => ?_) v hv hB h0 hm k
 clear hv hB h0 hm k m
 intro x H m K hv hB h0 hm k
 apply QQ.gh
 apply Qhf
 unfold Qex
 intro b1 n1
 have hr := hv.row
 have hl := hr.len
 have hbl := hB.l
 have hbs := hB.s
 have hsz : vsize v = vsizes v.l + 1 := by obtain ⟨k, n, s, l⟩ := v; rfl
 have hb1 : (H.put b1 (.row (Qa.c x))) b1 = some (true, .row (Qa.c x)) := Heap.put_same ..
 have hle1 := Heap.le_put n1 (g := .row (Qa.c x)) (m := true)
 generalize H.put b1 (.row (Qa.c x)) = H1 at *
 refine bxS hb1 ?_
 rw [hv.txt, div50 hbs]
 have hd : v.s.length / 50 ≤ 2814749767107 := by omega
 refine ⟨fun y A => A = H1 ∧ ∃ i n : Nat, y = ((n : Int), (i : Int)) ∧ i ≤ v.l.length ∧ 1 ≤ n ∧ n ≤ 8796093022208 + m ∧ (n < m → 1 + vsizes (v.l.take i) ≤ n), fun y _ => v.l.length - y.2.toNat,
  ⟨rfl, 0, _, rfl, Nat.zero_le _, by omega, by omega, fun _ => by simp [vsizes]⟩, ?_⟩
 rintro _ A ⟨rfl, i, n, rfl, hi, hn1, hn2, hn3⟩
 refine bxL hb1 ?_
 rw [hl]
 refine ift.of (fun h => ?_) (fun h => ?_)
 ·simp only [Bool.and_eq_true, decide_eq_true_eq] at h
  have hlt : i < v.l.length := by omega
  have hnm : n < m := by omega
  have hmem := List.getElem_mem hlt
  refine bxL hb1 ?_
  refine hr.ld hle1 rfl hlt fun y hy => ?_
  rw [Qz (x := (m : Int) - n) (by omega) (by omega), show (m : Int) - n = ((m - n : Nat) : Int) by omega]
  refine ih _ hmem (hy.le hle1) (hB.ls.mem hmem) (by omega) (by omega) fun r r1 r2 r3 => ?_
  rw [Qz (by omega) (by omega), Qz (by omega) (by omega)]
  refine ⟨⟨rfl, i + 1, n + r, by simp, by omega, by omega, by omega, fun hh => ?_⟩, by first | omega | (dsimp only; omega)⟩
  rw [Qh4 hlt]
  have := r3 (by omega)
  have := hn3 hnm
  omega
 ·refine ⟨H, Gh.le hle1, k n hn1 hn2 fun hh => ?_⟩
  have hie : i = v.l.length := by
   have hnm := hh
   simp only [Bool.and_eq_false_iff, decide_eq_false_iff_not] at h
   omega
  have := hn3 hh
  rw [hie, List.take_length] at this
  omega
end
end
section
open Go Go.Proofs
/-- a row and its relation's name -/
abbrev NR := Str × List V
def cmpN (a b : NR) : Int := if vcmpS a.1 b.1 ≠ 0 then vcmpS a.1 b.1 else cmpR a.2 b.2
theorem Lin.nr : Lin cmpN fun _ => True := (Lin.txt.comp (fun p : NR => p.1)).or (Lin.row.comp fun p : NR => p.2)
theorem Qel {a b : NR} (ha : mayR a.2 = true) (hb : mayR b.2 = true) : cmpN a b = 0 ↔ a = b := by
 refine ⟨fun h => ?_, fun h => by rw [h]; exact Lin.nr.refl trivial⟩
 unfold cmpN at h
 split at h
 ·rename_i h1; exact absurd h h1
 ·rename_i h1
  have h1 : vcmpS a.1 b.1 = 0 := by omega
  exact Prod.ext ((vslt _ _).2.1.1 h1) ((QjD ha hb).1 h)
/-- what is there -/
abbrev Sta := NR → Prop
def noS : Sta := fun _ => False
def putS (S : Sta) (x : NR) : Sta := fun y => S y ∨ y = x
def QfN (S : Sta) (x : NR) : Sta := fun y => S y ∧ y ≠ x
theorem QmE {S : Sta} {x : NR} (h : ¬ S x) : QfN (putS S x) x = S := by
 funext y
 refine propext ⟨fun ⟨h1, h2⟩ => h1.resolve_right h2, fun h1 => ⟨.inl h1, fun e => h (e ▸ h1)⟩⟩
theorem Qmo {S : Sta} {x : NR} (h : S x) : putS (QfN S x) x = S := by
 funext y
 refine propext ⟨fun h1 => h1.elim (fun h2 => h2.1) fun e => e ▸ h, fun h1 => ?_⟩
 by_cases e : y = x
 ·exact .inr e
 ·exact .inl ⟨h1, e⟩
/-- a thing done: put there (true) or taken away -/
abbrev Th := Bool × NR
def stepS (t : Th) (S S2 : Sta) : Prop := if t.1 then ¬ S t.2 ∧ S2 = putS S t.2 else S t.2 ∧ S2 = QfN S t.2
theorem Qkt {x : NR} {S S2 : Sta} : stepS (true, x) S S2 ↔ ¬ S x ∧ S2 = putS S x := Iff.rfl
theorem Qks {x : NR} {S S2 : Sta} : stepS (false, x) S S2 ↔ S x ∧ S2 = QfN S x := Iff.rfl
/-- a step turns that row alone -/
theorem stepS.turn {t : Th} {S S2 : Sta} (h : stepS t S S2) : (S2 t.2 ↔ ¬ S t.2) ∧ ∀ y, y ≠ t.2 → (S2 y ↔ S y) := by
 obtain ⟨b, x⟩ := t
 cases b with
 | true =>
  obtain ⟨h1, rfl⟩ := Qkt.1 h
  exact ⟨⟨fun _ => h1, fun _ => .inr rfl⟩, fun y hy => ⟨fun h => h.resolve_right hy, .inl⟩⟩
 | false =>
  obtain ⟨h1, rfl⟩ := Qks.1 h
  exact ⟨⟨fun h => absurd rfl h.2, fun h => absurd h1 h⟩, fun y hy => ⟨fun h => h.1, fun h => ⟨h, hy⟩⟩⟩
def RiseN (W : List NR) : Prop := W.Pairwise fun a b => cmpN a b < 0
def RiseT (N : List Str) : Prop := N.Pairwise fun a b => vcmpS a b < 0
def Rise (T : List (List V)) : Prop := T.Pairwise fun a b => cmpR a b < 0
/-- a list of all that is there -/
structure IsW (S : Sta) (W : List NR) : Prop where
 rise : RiseN W
 mem : ∀ x, x ∈ W ↔ S x
theorem RiseN.nodup {W : List NR} (h : RiseN W) : W.Nodup := h.imp fun {a b} hab e => by
 rw [e, Lin.nr.refl trivial] at hab; omega
abbrev Cg := NR × Int
structure IsD (S0 S : Sta) (D : List Cg) : Prop where
 rise : RiseN (D.map fun d => d.1)
 mem : ∀ x n, (x, n) ∈ D ↔ (n = 1 ∧ S x ∧ ¬ S0 x) ∨ (n = -1 ∧ S0 x ∧ ¬ S x)
theorem IsD.key {S0 S : Sta} {D : List Cg} (h : IsD S0 S D) (x : NR) : x ∈ (D.map fun d => d.1) ↔ ¬ (S x ↔ S0 x) := by
 rw [List.mem_map]
 constructor
 ·rintro ⟨⟨y, n⟩, hd, rfl⟩
  rcases (h.mem _ _).1 hd with ⟨_, h1, h2⟩ | ⟨_, h1, h2⟩
  ·exact fun h3 => h2 (h3.1 h1)
  ·exact fun h3 => h2 (h3.2 h1)
 ·intro hx
  by_cases h1 : S x
  ·exact ⟨(x, 1), (h.mem _ _).2 (.inl ⟨rfl, h1, fun h2 => hx ⟨fun _ => h2, fun _ => h1⟩⟩), rfl⟩
  ·by_cases h2 : S0 x
   ·exact ⟨(x, -1), (h.mem _ _).2 (.inr ⟨rfl, h2, h1⟩), rfl⟩
   ·exact absurd ⟨fun h => absurd h h1, fun h => absurd h h2⟩ hx
theorem IsD.fst {S0 S : Sta} {D : List Cg} (h : IsD S0 S D) {x : NR} {n m : Int} (h1 : (x, n) ∈ D) (h2 : (x, m) ∈ D) : n = m := by
 rcases (h.mem _ _).1 h1 with ⟨e1, a1, b1⟩ | ⟨e1, a1, b1⟩ <;> rcases (h.mem _ _).1 h2 with ⟨e2, a2, b2⟩ | ⟨e2, a2, b2⟩
 ·rw [e1, e2]
 ·exact absurd a2 b1
 ·exact absurd a1 b2
 ·rw [e1, e2]
theorem IsD.uniq {S0 S : Sta} {D D2 : List Cg} (h : IsD S0 S D) (h2 : IsD S0 S D2) : D = D2 := by
 have hk : (D.map fun d => d.1) = D2.map fun d => d.1 := Qht (P := fun _ => True) Lin.nr h.rise h2.rise (fun _ _ => trivial) fun x => (h.key x).trans (h2.key x).symm
 refine List.ext_getElem? fun i => ?_
 have hi := congrArg (fun l => l[i]?) hk
 simp only [List.getElem?_map] at hi
 cases e1 : D[i]? with
 | none =>
  rw [e1] at hi
  cases e2 : D2[i]? with
  | none => rfl
  | some b => rw [e2] at hi; cases hi
 | some a =>
  rw [e1] at hi
  cases e2 : D2[i]? with
  | none => rw [e2] at hi; cases hi
  | some b =>
   rw [e2] at hi
   simp only [Option.map_some, Option.some.injEq] at hi
   obtain ⟨x, n⟩ := a
   obtain ⟨y, m⟩ := b
   dsimp only at hi; subst hi
   have m1 := (h.mem _ _).1 (List.mem_of_getElem? e1)
   have m2 := (h2.mem x m).1 (List.mem_of_getElem? e2)
   have := h.fst ((h.mem _ _).2 m1) ((h.mem x m).2 m2)
   rw [this]
end
section
open Go Go.Proofs
theorem Qjq {C : Ctx} {A : Heap} {l : List V} {t : Sl} {H : Heap} {K : Sl → Heap → Prop} (hv : VRow A t l) (hle : A.le H) (hz : vsizes l ≤ 1000000) (k : ∀ t2 H2, Made H H2 l t2 → K t2 H2) : QaD C t K H := by
 have main : ∀ v : V, ∀ (A : Heap) (t : Sl) (H : Heap) (K : Sl → Heap → Prop), VRow A t v.l → A.le H → vsizes v.l ≤ 1000000 → (∀ t2 H2, Made H H2 v.l t2 → K t2 H2) → QaD C t K H := by
  refine fun v => V.rec_ (P := fun v => ∀ (A : Heap) (t : Sl) (H : Heap) (K : Sl → Heap → Prop), VRow A t v.l → A.le H → vsizes v.l ≤ 1000000 → (∀ t2 H2, Made H H2 v.l t2 → K t2 H2) → QaD C t K H) (fun v ih => ?_) v
  intro A t H K hv hle hz k
  apply Qkg
  unfold QhZ
  have hl := hv.len
  have hll := QeT v.l
  refine ift.of (fun h => ?_) (fun h => ?_)
  ·simp only [beq_iff_eq] at h
   have : v.l = [] := List.length_eq_zero_iff.1 (by omega)
   refine k _ _ ?_
   rw [this]; exact Made.nil rfl
  ·simp only [beq_eq_false_iff_ne] at h
   obtain ⟨xs, r1, r2, r3⟩ := hv
   refine Qmm (QbK hle r1) r2 (by omega) (by omega) fun b sp cap B hB nb hcap => ?_
   rw [hl] at hcap ⊢
   refine ⟨fun x D => ∃ (i : Nat) (ys : List TV) (E : Heap), x = (i : Int) ∧ i ≤ v.l.length ∧ D = E.put b (.row (ys.flatMap Qa.c ++ sp)) ∧ Ow A H E b i v.l xs ys, fun x _ => v.l.length - x.toNat,
    ⟨0, xs, B, rfl, Nat.zero_le _, rfl, hB, hle.trans hB, nb, by omega, by omega, r3, fun _ _ => rfl, fun j v x hj => by omega⟩, ?_⟩
   rintro _ D ⟨i, ys, E, rfl, hi, rfl, ho⟩
   have hlen : (Sl.of (some (b, 0)) v.l.length cap).len = v.l.length := rfl
   refine ift.of (fun h => ?_) (fun h => ?_)
   ·have hlt : i < v.l.length := by have := of_decide_eq_true h; omega
    have hi2 : i < ys.length := by rw [ho.len]; exact hlt
    have hyx := ho.rest i (Nat.le_refl _)
    rw [List.getElem?_eq_getElem hi2] at hyx
    have hold := Qct.1 (ho.old.get i _ _ (List.getElem?_eq_getElem hlt) hyx.symm)
    have hmem := List.getElem_mem hlt
    have hsz := Qb6 hmem
    have hszl : vsize v.l[i] = vsizes v.l[i].l + 1 := by cases v.l[i]; rfl
    have e0 : 0 + ((i : Int).toNat) * 4 + 3 = i * 4 + 3 := by omega
    have hf := flat4 ys
    refine ⟨(b, 0), rfl, rfl, by omega, by rw [hlen]; omega, ?_⟩
    refine ⟨ys[i].L, ?_, ?_⟩
    ·show rd _ (b, 0 + ((i : Int).toNat) * 4 + 3) = _
     rw [e0, QlZ, List.getElem?_append_left (by omega)]
     exact QdM Qa.c 4 TV.c_len ys i _ (List.getElem?_eq_getElem hi2) 3 _ rfl
    ·refine ih _ hmem A _ _ _ hold.2.2.2 (ho.ale.trans (Heap.le_put ho.nb)) (by omega) fun t2 H2 hm => ?_
     obtain ⟨s1, s2⟩ := ho.step hlt hi2 hm
     refine ⟨(b, 0), rfl, rfl, by omega, by rw [hlen]; omega, ?_⟩
     refine ⟨_, hm.le _ _ (Heap.put_same ..), ?_, ?_⟩
     ·show 0 + ((i : Int).toNat) * 4 + 3 < _
      rw [e0, List.length_append, hf]; omega
     ·show _ ∧ _
      have e1 : (b, 0 + ((i : Int).toNat) * 4 + 3).2 = i * 4 + 3 := e0
      rw [Qz (by omega) (by omega)]
      refine ⟨⟨i + 1, _, _, by omega, by omega, ?_, s1⟩, by first | omega | (dsimp only; omega)⟩
      rw [← s2, ← QnN ys i hi2]
      show H2.put b (.row ((List.flatMap Qa.c ys ++ sp).set (0 + ((i : Int).toNat) * 4 + 3) (slv t2))) = _
      rw [e0]
   ·have hie : i = v.l.length := by have := of_decide_eq_false h; omega
    refine k _ _ ?_
    have := ho.fin (sp := sp) (cap := cap) hie (ho.le.none ho.nb) (by omega) (by omega)
    rw [hie] at this
    exact this
 exact main (.mk 0 0 [] l) A t H K hv hle hz k
end
section
open Go Go.Proofs
def showK (vs : List V) : Str := vs.flatMap fun v => showV v ++ [59]
theorem Qli (vs : List V) (v : V) : showK (vs ++ [v]) = showK vs ++ (showV v ++ [59]) := by simp [showK]
theorem Qk2 {v : V} {vs : List V} : showK (v :: vs) ≠ [] := fun e => by
 have := congrArg List.length e
 simp [showK] at this
theorem QjZ : ∀ {vs ws : List V}, (∀ v ∈ vs, mayV v = true) → (∀ v ∈ ws, mayV v = true) → showK vs = showK ws → vs = ws
 | [], [], _, _, _ => rfl
 | [], w :: ws, _, _, h => absurd h.symm Qk2
 | v :: vs, [], _, _, h => absurd h Qk2
 | v :: vs, w :: ws, h1, h2, h => by
  have e : ∀ (v : V) (vs : List V), showK (v :: vs) = showV v ++ (59 :: showK vs) := fun v vs => by simp [showK]
  rw [e, e] at h
  have m1 := h1 v (List.mem_cons_self ..)
  have m2 := h2 w (List.mem_cons_self ..)
  obtain ⟨e1, e2⟩ := QmS v w _ _ (Qb0 m1) (Qb0 m2) (.inr ⟨59, _, rfl, by simp⟩) (.inr ⟨59, _, rfl, by simp⟩) h
  injection e2 with _ e2
  rw [e1, QjZ (fun x hx => h1 x (List.mem_cons_of_mem _ hx)) (fun x hx => h2 x (List.mem_cons_of_mem _ hx)) e2]
theorem QlM {r : List V} (h : mayR r = true) : ∀ v ∈ r, mayV v = true := fun v hv => List.all_eq_true.1 h v hv
/-- a row that is handed in -/
structure okR (r : List V) : Prop where
 b : VBs r
 z : vsizes r ≤ 1000
theorem okR.len {r : List V} (h : okR r) : r.length ≤ 1000 := by have := QeT r; have := h.z; omega
/-- a row that is there -/
structure inR (r : List V) : Prop extends okR r where
 m : mayR r = true
theorem inR.inj {r q : List V} (h : inR r) (h2 : inR q) (e : showK r = showK q) : r = q := QjZ (QlM h.m) (QlM h2.m) e
theorem QmR {v : V} {row : List V} (hv : v ∈ row) (hB : VB v) (hm : mayV v = true) (hs : vsizes row ≤ 1000) : (showV v).length ≤ 17000000 := by
 have hsz := Qb6 hv
 obtain ⟨_, q2, q3⟩ := (QkO v).1 hm
 have := Qma v hB q2 q3
 have h2 : 17000 * vsize v ≤ 17000 * 1000 := Nat.mul_le_mul_left _ (by omega)
 omega
section
variable {C : Ctx} {H A : Heap}
theorem QlI (hF : FmtC C) {row : List V} {s : Sl} {K : Str → Bool → Heap → Prop} (hr : VRow A s row) (hA : A.le H) (hk : okR row)
 (k1 : mayR row = true → ∀ H2, H.le H2 → K (showK row) true H2) (k0 : mayR row = false → ∀ H2, H.le H2 → K [] false H2) : Qdj C s K H := by
 have hB := hk.b
 have hs := hk.z
 have hlen := hk.len
 apply Qkf
 unfold QhY
 refine ⟨fun y D => H.le D ∧ ∃ i : Nat, y = (showK (row.take i), (i : Int)) ∧ i ≤ row.length ∧ (row.take i).all mayV = true ∧ (showK (row.take i)).length ≤ i * 17000001, fun y _ => row.length - y.2.toNat, ⟨Heap.le.refl _, 0, rfl, Nat.zero_le _, rfl, by simp [showK]⟩, ?_⟩
 rintro _ D ⟨hD, i, rfl, hi, hmay, hll⟩
 have hAD := hA.trans hD
 rw [hr.len]
 refine ift.of (fun h => ?_) (fun h => ?_)
 ·have hlt : i < row.length := by have := of_decide_eq_true h; dsimp only at this; omega
  have hmem := List.getElem_mem hlt
  have hBi := hB.mem hmem
  refine hr.ld hAD rfl hlt fun z hz => ?_
  intro b6 n6
  refine nwT rfl ?_
  have hle6 := Heap.le_put n6 (g := .row (Qa.c z)) (m := true)
  have hb6 : (D.put b6 (.row (Qa.c z))) b6 = some (true, .row (Qa.c z)) := Heap.put_same ..
  have hz6 := hz.le (hAD.trans hle6)
  have hD6 := hD.trans hle6
  generalize D.put b6 (.row (Qa.c z)) = H3 at *
  refine bxV hb6 (Qdh hz6 hBi ?_)
  have hck : ((checkV row[i] : Int) != 0) = !(mayV row[i]) := by unfold mayV; rfl
  rw [hck]
  refine ift.of (fun h2 => ?_) (fun h2 => ?_)
  ·have h2 : mayV row[i] = false := by simpa using h2
   refine k0 ?_ H3 hD6
   unfold mayR
   rw [List.all_eq_false]
   exact ⟨row[i], hmem, by simp [h2]⟩
  ·have hmv : mayV row[i] = true := by simpa using h2
   have hb := QmR hmem hBi hmv hs
   have hi2 : i * 17000001 ≤ 1000 * 17000001 := Nat.mul_le_mul_right _ (by omega)
   refine bxV hb6 (Qng hF hz6 hBi (fun _ => by omega) fun H2 l2 => ?_)
   rw [if_pos hmv]
   refine ⟨by unfold catOk; simp; omega, by unfold catOk; rw [List.length_append]; simp; omega, ?_⟩
   rw [Qz (by dsimp only; omega) (by dsimp only; omega)]
   have ht : showK (row.take (i + 1)) = showK (row.take i) ++ (showV row[i] ++ [59]) := by
    rw [List.take_add_one, List.getElem?_eq_getElem hlt, Option.toList_some, Qli]
   refine ⟨⟨hD6.trans l2, i + 1, by rw [ht]; rfl, by omega, ?_, ?_⟩, by first | omega | (dsimp only; omega)⟩
   ·rw [List.take_add_one, List.getElem?_eq_getElem hlt, List.all_append, hmay]
    simp [hmv]
   ·rw [ht, List.length_append, List.length_append]
    simp only [List.length_singleton]
    omega
 ·have hie : i = row.length := by have := of_decide_eq_false h; dsimp only at this; omega
  subst hie
  rw [List.take_length] at hmay ⊢
  exact k1 hmay D hD
end
end
section
open Go Go.Proofs
/-- whose a block is -/
inductive Uw where
 | log : Uw
 | done : Uw
 | rels : Uw
 | leaf : Str → Uw
abbrev Own_ := Nat → Option Uw
def mapP : Uw → Prop
 | .rels => True
 | .leaf _ => True
 | _ => False
theorem QlK {α : Type} {l : List (Str × α)} (h : l.Pairwise fun p q => p.1 ≠ q.1) {p : Str × α} : p ∈ l ↔ lkL p.1 l = some p.2 :=
 ⟨fun hp => Qba h hp, fun hp => QaV hp⟩
def FineS (S : Sta) : Prop := ∀ x, S x → inR x.2
/-- what has changed: blocks of some owners, and new ones -/
structure Chg (P : Uw → Prop) (o : Own_) (H : Heap) (o2 : Own_) (H2 : Heap) : Prop where
 kp : ∀ c e, H c = some e → (∀ w, o c = some w → ¬ P w) → H2 c = some e
 up : ∀ c w, o c = some w → o2 c = some w
 dn : ∀ c w, o2 c = some w → o c = some w ∨ (H c = none ∧ P w ∧ H2 c ≠ none)
 li : ∀ c, H c ≠ none → H2 c ≠ none
section
variable {P : Uw → Prop} {o o2 o3 : Own_} {A H H2 H3 : Heap}
theorem Chg.of_le (h : H.le H2) : Chg P o H o H2 := ⟨fun c e hc _ => h c e hc, fun _ _ h => h, fun _ _ h => .inl h, fun c hc => by
 cases he : H c with
 | none => exact absurd he hc
 | some e => rw [h c e he]; simp⟩
theorem Chg.trans (h : Chg P o H o2 H2) (h' : Chg P o2 H2 o3 H3) : Chg P o H o3 H3 := by
 refine ⟨fun c e hc hn => h'.kp c e (h.kp c e hc hn) fun w hw => ?_, fun c w hw => h'.up c w (h.up c w hw), fun c w hw => ?_, fun c hc => h'.li c (h.li c hc)⟩
 ·rcases h.dn c w hw with h1 | ⟨h1, h2⟩
  ·exact hn w h1
  ·rw [h1] at hc; cases hc
 ·rcases h'.dn c w hw with h1 | ⟨h1, h2⟩
  ·exact (h.dn c w h1).imp id fun ⟨a, b, d⟩ => ⟨a, b, h'.li c d⟩
  ·refine .inr ⟨?_, h2⟩
   cases he : H c with
   | none => rfl
   | some e => exact absurd h1 (h.li c (by rw [he]; simp))
theorem Chg.imp {Q : Uw → Prop} (h : Chg P o H o2 H2) (hi : ∀ w, P w → Q w) : Chg Q o H o2 H2 :=
 ⟨fun c e hc hn => h.kp c e hc fun w hw hp => hn w hw (hi w hp), h.up, fun c w hw => (h.dn c w hw).imp id fun ⟨a, b, d⟩ => ⟨a, hi w b, d⟩, h.li⟩
/-- a block of an owner written -/
theorem Chg.put {c : Nat} {w : Uw} {g : GO} (ho : o c = some w) (hP : P w) : Chg P o H o (H.put c g) := by
 refine ⟨fun x e hx hn => ?_, fun _ _ h => h, fun _ _ h => .inl h, fun x hx => ?_⟩
 ·have : x ≠ c := fun e' => by subst e'; exact hn w ho hP
  rw [Heap.put_ne _ _ _ this]; exact hx
 ·by_cases hxc : x = c
  ·subst hxc; rw [Heap.put_same]; simp
  ·rw [Heap.put_ne _ _ _ hxc]; exact hx
def Own_.set (o : Own_) (b : Nat) (w : Uw) : Own_ := fun c => if c = b then some w else o c
theorem Own_.set_same {b : Nat} {w : Uw} : o.set b w b = some w := by simp [Own_.set]
theorem Own_.set_ne {b c : Nat} {w : Uw} (h : c ≠ b) : o.set b w c = o c := by simp [Own_.set, h]
/-- a new block of an owner -/
theorem Chg.new {b : Nat} {w : Uw} {g : GO} {m : Bool} (hb : H b = none) (ho : ∀ w, o b = some w → False) (hP : P w) : Chg P o H (o.set b w) (H.put b g m) := by
 refine ⟨fun x e hx hn => Heap.le_put hb x e hx, fun c w' hc => ?_, fun c w' hc => ?_, fun x hx => ?_⟩
 ·have : c ≠ b := fun e => by subst e; exact ho w' hc
  rw [Own_.set_ne this]; exact hc
 ·by_cases hcb : c = b
  ·subst hcb; rw [Own_.set_same] at hc; injection hc with hc; subst hc
   exact .inr ⟨hb, hP, by rw [Heap.put_same]; simp⟩
  ·rw [Own_.set_ne hcb] at hc; exact .inl hc
 ·have : x ≠ b := fun e => by subst e; exact hx hb
  rw [Heap.put_ne _ _ _ this]; exact hx
/-- owners and rows' memory -/
structure OH (o : Own_) (A H : Heap) : Prop where
 le : A.le H
 ap : ∀ c w, o c = some w → A c = none
 oh : ∀ c w, o c = some w → H c ≠ none
theorem OH.no (h : OH o A H) {b : Nat} (hb : H b = none) : ∀ w, o b = some w → False := fun w hw => h.oh b w hw hb
theorem OH.chg (h : OH o A H) (hc : Chg P o H o2 H2) : OH o2 A H2 := by
 refine ⟨fun c e hc2 => hc.kp c e (h.le c e hc2) (fun w hw _ => by rw [h.ap c w hw] at hc2; cases hc2), fun c w hw => ?_, fun c w hw => ?_⟩
 ·rcases hc.dn c w hw with h1 | ⟨h1, _⟩
  ·exact h.ap c w h1
  ·exact h.le.none h1
 ·rcases hc.dn c w hw with h1 | ⟨_, _, h1⟩
  ·exact hc.li c (h.oh c w h1)
  ·exact h1
end
/-- a map of rows by their texts -/
def RM (A H : Heap) (m : Nat) (R : List V → Prop) (N : Nat) : Prop := ∃ l : List (Str × Sl), MapS sv slv H m l ∧ (∀ p ∈ l, ∃ r, R r ∧ p.1 = showK r ∧ VRow A p.2 r) ∧ (∀ r, R r → ∃ s, (showK r, s) ∈ l) ∧ l.length ≤ N
section
variable {A B H H2 : Heap} {m N M : Nat} {R R2 : List V → Prop}
theorem RM.same (h : RM A H m R N) (hb : H2 m = H m) : RM A H2 m R N := by
 obtain ⟨l, h1, h2, h3⟩ := h
 exact ⟨l, h1.same hb, h2, h3⟩
theorem RM.up (h : RM A H m R N) (hle : A.le B) : RM B H m R N := by
 obtain ⟨l, h1, h2, h3⟩ := h
 exact ⟨l, h1, fun p hp => (h2 p hp).imp fun r ⟨q1, q2, q3⟩ => ⟨q1, q2, q3.le hle⟩, h3⟩
theorem RM.more (h : RM A H m R N) (hle : N ≤ M) : RM A H m R M := by
 obtain ⟨l, h1, h2, h3, h4⟩ := h
 exact ⟨l, h1, h2, h3, by omega⟩
theorem RM.congr (h : RM A H m R N) (he : ∀ r, R r ↔ R2 r) : RM A H m R2 N := by
 have : R = R2 := funext fun r => propext (he r)
 rw [← this]; exact h
theorem RM.isS (h : RM A H m R N) : ∃ g, H m = some (true, g) := by
 obtain ⟨l, ⟨es, ck, h1⟩, _⟩ := h
 exact ⟨_, h1.at_⟩
theorem RM.new {b : Nat} (h : ∀ r, ¬ R r) : RM A (H.put b (.obj (.map #[] 0))) b R N := ⟨[], MapS.new, (fun p hp => by cases hp), (fun r hr => absurd hr (h r)), Nat.zero_le _⟩
theorem RM.put {r : List V} {s : Sl} {K : Heap → Prop} (h : RM A H m R N) (hs : VRow A s r) (k : ∀ g, RM A (H.put m g) m (fun r' => R r' ∨ r' = r) (N + 1) → K (H.put m g)) : upS sv slv (some m) (showK r) s K H := by
 obtain ⟨l, h1, h2, h3, h4⟩ := h
 refine ⟨m, l, rfl, h1, fun g l2 q1 q2 q3 => k g ⟨l2, q1, fun p hp => ?_, fun r' hr' => ?_, ?_⟩⟩
 ·have hl := (QlK q1.is.nd).1 hp
  rw [q2] at hl
  split at hl
  ·rename_i he
   injection hl with hl
   exact ⟨r, .inr rfl, he, hl ▸ hs⟩
  ·obtain ⟨r', a, b⟩ := h2 p (QaV hl)
   exact ⟨r', .inl a, b⟩
 ·by_cases he : showK r' = showK r
  ·exact ⟨s, QaV (by rw [q2, if_pos he])⟩
  ·have hr : R r' := hr'.resolve_right fun e => he (by rw [e])
   obtain ⟨s', hs'⟩ := h3 r' hr
   exact ⟨s', QaV (by rw [q2, if_neg he]; exact Qba h1.is.nd hs')⟩
 ·rw [q3]; split <;> omega
theorem RM.del {r : List V} {K : Heap → Prop} (h : RM A H m R N) (hF : ∀ r, R r → inR r) (hr : inR r) (k : ∀ g, RM A (H.put m g) m (fun r' => R r' ∧ r' ≠ r) N → K (H.put m g)) : delS sv slv (some m) (showK r) K H := by
 obtain ⟨l, h1, h2, h3, h4⟩ := h
 refine .inr ⟨m, l, rfl, h1, fun g l2 q1 q2 => k g ⟨l2, q1, fun p hp => ?_, fun r' hr' => ?_, ?_⟩⟩
 ·obtain ⟨a, b⟩ := (q2 p).1 hp
  obtain ⟨r', c, d, e⟩ := h2 p a
  exact ⟨r', ⟨c, fun e' => b (by rw [d, e'])⟩, d, e⟩
 ·obtain ⟨s, hs⟩ := h3 r' hr'.1
  exact ⟨s, (q2 _).2 ⟨hs, fun e => hr'.2 ((hF r' hr'.1).inj hr e)⟩⟩
 ·have := QjL (f := fun p : Str × Sl => p.1) q1.is.nd fun p hp => ((q2 p).1 hp).1
  omega
theorem RM.ln {K : Nat → Prop} (h : RM A H m R N) (k0 : (∀ r, ¬ R r) → K 0) (k1 : ∀ n, n ≠ 0 → n ≤ N → (∃ r, R r) → K n) : lnM (some m) K H := by
 obtain ⟨l, h1, h2, h3, h4⟩ := h
 refine h1.is.ln ?_
 cases l with
 | nil => exact k0 fun r hr => by obtain ⟨s, hs⟩ := h3 r hr; cases hs
 | cons p l =>
  obtain ⟨r, hr, _⟩ := h2 p (List.mem_cons_self ..)
  exact k1 _ (by simp) h4 ⟨r, hr⟩
/-- a leaf that was looked up -/
def LfIs (A H : Heap) (x : Option Nat) (R : List V → Prop) : Prop := (x = none ∧ ∀ r, ¬ R r) ∨ ∃ e N, x = some e ∧ RM A H e R N
theorem LfIs.look {x : Option Nat} {r : List V} {K : Sl → Bool → Prop} (h : LfIs A H x R) (hF : ∀ r, R r → inR r) (hr : inR r) (k1 : R r → ∀ s, VRow A s r → K s true) (k0 : ¬ R r → K Sl.nil false) : lkM sv slv Sl.nil x (showK r) K H := by
 rcases h with ⟨rfl, hn⟩ | ⟨e, N, rfl, l, h1, h2, h3, h4⟩
 ·exact ⟨Sl.nil, false, .inl ⟨rfl, rfl, rfl⟩, k0 (hn r)⟩
 ·refine h1.is.lk (fun x hx => ?_) (fun hx => k0 fun hr' => ?_)
  ·obtain ⟨r', a, b, c⟩ := h2 _ (QaV hx)
   have := (hF r' a).inj hr b.symm
   subst this
   exact k1 a x c
  ·obtain ⟨s, hs⟩ := h3 r hr'
   rw [Qba h1.is.nd hs] at hx; cases hx
theorem LfIs.any {x : Option Nat} {k : Str} {K : Sl → Bool → Prop} (h : LfIs A H x R) (kk : ∀ s b, K s b) : lkM sv slv Sl.nil x k K H := by
 rcases h with ⟨rfl, hn⟩ | ⟨e, N, rfl, l, h1, h2, h3, h4⟩
 ·exact ⟨Sl.nil, false, .inl ⟨rfl, rfl, rfl⟩, kk _ _⟩
 ·exact h1.is.lk (fun x hx => kk _ _) fun hx => kk _ _
end
/-- the map of all leaves; X: these may be empty -/
structure RelsL (o : Own_) (A H : Heap) (m : Nat) (S : Sta) (N : Nat) (L : List (Str × Option Nat)) (X : Str → Prop) : Prop where
 om : o m = some .rels
 ms : MapS sv mv H m L
 lf : ∀ p ∈ L, ∃ e, p.2 = some e ∧ o e = some (.leaf p.1) ∧ RM A H e (fun r => S (p.1, r)) N ∧ (¬ X p.1 → ∃ r, S (p.1, r))
 al : ∀ n r, S (n, r) → ∃ e, (n, e) ∈ L
 ln : L.length ≤ N
section
variable {o o2 : Own_} {A B H H2 : Heap} {m N M b : Nat} {S : Sta} {L : List (Str × Option Nat)} {X Y : Str → Prop} {n : Str} {r : List V}
theorem RelsL.keep (h : RelsL o A H m S N L X) (hk : ∀ c w, o c = some w → mapP w → o2 c = some w ∧ H2 c = H c) : RelsL o2 A H2 m S N L X := by
 obtain ⟨k1, k2⟩ := hk m _ h.om trivial
 refine ⟨k1, h.ms.same k2, fun p hp => ?_, h.al, h.ln⟩
 obtain ⟨e, q1, q2, q3, q4⟩ := h.lf p hp
 obtain ⟨k1, k2⟩ := hk e _ q2 trivial
 exact ⟨e, q1, k1, q3.same k2, q4⟩
theorem RelsL.up (h : RelsL o A H m S N L X) (hle : A.le B) : RelsL o B H m S N L X := by
 refine ⟨h.om, h.ms, fun p hp => ?_, h.al, h.ln⟩
 obtain ⟨e, q1, q2, q3, q4⟩ := h.lf p hp
 exact ⟨e, q1, q2, q3.up hle, q4⟩
theorem RelsL.more (h : RelsL o A H m S N L X) (hle : N ≤ M) : RelsL o A H m S M L X := by
 refine ⟨h.om, h.ms, fun p hp => ?_, h.al, by have := h.ln; omega⟩
 obtain ⟨e, q1, q2, q3, q4⟩ := h.lf p hp
 exact ⟨e, q1, q2, q3.more hle, q4⟩
theorem RelsL.ne (h : RelsL o A H m S N L X) {p : Str × Option Nat} {e : Nat} (hp : p ∈ L) (he : p.2 = some e) : e ≠ m ∧ (∃ g, H e = some (true, g)) ∧ o e = some (.leaf p.1) := by
 obtain ⟨e', q1, q2, q3, _⟩ := h.lf p hp
 rw [he] at q1; injection q1 with q1; subst q1
 exact ⟨(fun e' => by subst e'; rw [h.om] at q2; cases q2), q3.isS, q2⟩
theorem RelsL.mine (h : RelsL o A H m S N L X) : ∃ g, H m = some (true, g) := by
 obtain ⟨es, ck, h1⟩ := h.ms
 exact ⟨_, h1.at_⟩
theorem RelsL.look {K : Option Nat → Bool → Prop} (h : RelsL o A H m S N L X) (k : ∀ x is, LfIs A H x (fun r => S (n, r)) → K x is) : lkM sv mv none (some m) n K H := by
 refine h.ms.is.lk (fun x hx => ?_) fun hx => ?_
 ·obtain ⟨e, q1, _, q3, _⟩ := h.lf _ (QaV hx)
  dsimp only at q1 q3
  exact k _ _ (.inr ⟨e, N, q1, q3⟩)
 ·refine k _ _ (.inl ⟨rfl, fun r hr => ?_⟩)
  obtain ⟨e, he⟩ := h.al n r hr
  rw [Qba h.ms.is.nd he] at hx; cases hx
/-- a new leaf -/
theorem RelsL.leaf {K : Heap → Prop} (h : RelsL o A H m S N L X) (hO : OH o A H) (hl : lkL n L = none)
 (kk : ∀ b2 o2 H2 L2, Chg mapP o H o2 H2 → RelsL o2 A H2 m S (N + 1) L2 (fun n' => n' = n ∨ X n') → (n, some b2) ∈ L2 → K H2) : mkM (fun b2 H3 => upS sv mv (some m) n (some b2) K H3) H := by
 intro b2 n2
 obtain ⟨gq, hq⟩ := h.mine
 have hle := Heap.le_put n2 (g := .obj (.map #[] 0)) (m := true)
 have hqb : m ≠ b2 := fun e => by subst e; rw [n2] at hq; cases hq
 refine ⟨m, L, rfl, h.ms.le hle, fun g l2 q1 q2 q3 => kk b2 (o.set b2 (.leaf n)) _ l2 ((Chg.new (P := mapP) (w := .leaf n) n2 (hO.no n2) trivial).trans (Chg.put (P := mapP) (w := .rels) (by rw [Own_.set_ne hqb]; exact h.om) trivial)) ⟨by rw [Own_.set_ne hqb]; exact h.om, q1, fun p hp => ?_, fun n' r hr => ?_, ?_⟩ (QaV (by rw [q2, if_pos rfl]))⟩
 ·have hl2 := (QlK q1.is.nd).1 hp
  rw [q2] at hl2
  split at hl2
  ·rename_i he
   injection hl2 with hl2
   refine ⟨b2, hl2.symm, by rw [Own_.set_same, he], ?_, fun hx => absurd (.inl he) hx⟩
   refine (RM.new (A := A) (H := H) (b := b2) (N := N + 1) fun r hr => ?_).same (by rw [Heap.put_ne _ _ _ hqb.symm])
   obtain ⟨e, hm⟩ := h.al _ _ hr
   rw [he] at hm
   rw [Qba h.ms.is.nd hm] at hl; cases hl
  ·have hpL := QaV hl2
   obtain ⟨e, r1, r2, r3, r4⟩ := h.lf _ hpL
   obtain ⟨s1, ⟨g', s2⟩, s3⟩ := h.ne hpL r1
   have hb2 : e ≠ b2 := fun e' => by subst e'; rw [n2] at s2; cases s2
   exact ⟨e, r1, by rw [Own_.set_ne hb2]; exact r2, (r3.same (by rw [Heap.put_ne _ _ _ s1, Heap.put_ne _ _ _ hb2])).more (Nat.le_succ _), fun hx => r4 fun hx2 => hx (.inr hx2)⟩
 ·obtain ⟨e, he⟩ := h.al n' r hr
  by_cases hk : n' = n
  ·exact ⟨some b2, QaV (by rw [q2, if_pos hk])⟩
  ·exact ⟨e, QaV (by rw [q2, if_neg hk]; exact Qba h.ms.is.nd he)⟩
 ·have := h.ln
  rw [q3]; split <;> omega
/-- the leaf of a name -/
theorem RelsL.one (h : RelsL o A H m S N L X) {e e2 : Nat} {p : Str × Option Nat} (hm : (n, some e) ∈ L) (hp : p ∈ L) (he : p.2 = some e2) : (p.1 = n → e2 = e) ∧ (p.1 ≠ n → e2 ≠ e) := by
 refine ⟨fun e1 => ?_, fun e1 e3 => ?_⟩
 ·have : p = (n, some e2) := by rw [← e1, ← he]
  rw [this] at hp
  have h5 := Qba h.ms.is.nd hp
  rw [Qba h.ms.is.nd hm] at h5
  injection h5 with h5; injection h5 with h5; exact h5.symm
 ·subst e3
  have q1 := (h.ne hm rfl).2.2
  have q2 := (h.ne hp he).2.2
  rw [q1] at q2; injection q2 with q2; injection q2 with q2
  exact e1 q2.symm
/-- a row put to a leaf -/
theorem RelsL.put {e : Nat} {s : Sl} {K : Heap → Prop} (h : RelsL o A H m S N L (fun n' => n' = n)) (hm : (n, some e) ∈ L) (hs : VRow A s r)
 (kk : ∀ g, Chg mapP o H o (H.put e g) → RelsL o A (H.put e g) m (putS S (n, r)) (N + 1) L (fun _ => False) → K (H.put e g)) : upS sv slv (some e) (showK r) s K H := by
 obtain ⟨e', r1, r2, r3, _⟩ := h.lf _ hm
 injection r1 with r1; subst r1
 obtain ⟨s1, _, _⟩ := h.ne hm rfl
 refine r3.put hs fun g hR => kk g (Chg.put r2 trivial) ⟨h.om, h.ms.same (by rw [Heap.put_ne _ _ _ s1.symm]), fun p hp => ?_, fun n' r' hr' => ?_, by have := h.ln; omega⟩
 ·obtain ⟨e2, t1, t2, t3, t4⟩ := h.lf p hp
  obtain ⟨o1, o2⟩ := h.one hm hp t1
  refine ⟨e2, t1, t2, ?_, fun _ => ?_⟩
  ·by_cases hpk : p.1 = n
   ·rw [o1 hpk]
    refine hR.congr fun r' => ?_
    unfold putS
    rw [hpk]
    exact ⟨fun h => h.imp id fun e => by rw [e], fun h => h.imp id fun e => (Prod.ext_iff.1 e).2⟩
   ·refine ((t3.same (Heap.put_ne _ _ _ (o2 hpk))).more (Nat.le_succ _)).congr fun r' => ?_
    exact ⟨.inl, fun h => h.resolve_right fun e => hpk (Prod.ext_iff.1 e).1⟩
  ·by_cases hpk : p.1 = n
   ·exact ⟨r, .inr (by rw [hpk])⟩
   ·obtain ⟨r', hr'⟩ := t4 hpk
    exact ⟨r', .inl hr'⟩
 ·rcases hr' with hr' | hr'
  ·exact h.al n' r' hr'
  ·rw [show n' = n from (Prod.ext_iff.1 hr').1]; exact ⟨_, hm⟩
/-- a row taken from a leaf -/
theorem RelsL.del {e : Nat} {K : Heap → Prop} (h : RelsL o A H m S N L (fun _ => False)) (hF : FineS S) (hr : inR r) (hm : (n, some e) ∈ L)
 (kk : ∀ g, Chg mapP o H o (H.put e g) → RelsL o A (H.put e g) m (QfN S (n, r)) N L (fun n' => n' = n) → RM A (H.put e g) e (fun r' => QfN S (n, r) (n, r')) N → K (H.put e g)) : delS sv slv (some e) (showK r) K H := by
 obtain ⟨e', r1, r2, r3, _⟩ := h.lf _ hm
 injection r1 with r1; subst r1
 obtain ⟨s1, _, _⟩ := h.ne hm rfl
 have key : ∀ (n' : Str) r', (S (n', r') ∧ (n' = n → r' ≠ r)) ↔ QfN S (n, r) (n', r') := fun n' r' => by
  unfold QfN
  exact ⟨fun h => ⟨h.1, fun e => h.2 (Prod.ext_iff.1 e).1 (Prod.ext_iff.1 e).2⟩, fun h => ⟨h.1, fun e1 e2 => h.2 (by rw [e1, e2])⟩⟩
 refine r3.del (fun r' h' => hF _ h') hr fun g hR => ?_
 have hR2 : RM A (H.put e g) e (fun r' => QfN S (n, r) (n, r')) N := hR.congr fun r' => by
  rw [← key]
  exact ⟨fun h => ⟨h.1, fun _ => h.2⟩, fun h => ⟨h.1, h.2 rfl⟩⟩
 refine kk g (Chg.put r2 trivial) ⟨h.om, h.ms.same (by rw [Heap.put_ne _ _ _ s1.symm]), fun p hp => ?_, fun n' r' hr' => h.al n' r' hr'.1, h.ln⟩ hR2
 obtain ⟨e2, t1, t2, t3, t4⟩ := h.lf p hp
 obtain ⟨o1, o2⟩ := h.one hm hp t1
 refine ⟨e2, t1, t2, ?_, fun hpk => ?_⟩
 ·by_cases hpk : p.1 = n
  ·rw [o1 hpk, hpk]; exact hR2
  ·refine (t3.same (Heap.put_ne _ _ _ (o2 hpk))).congr fun r' => ?_
   rw [← key]
   exact ⟨fun h => ⟨h, fun e => absurd e hpk⟩, fun h => h.1⟩
 ·obtain ⟨r', hr'⟩ := t4 id
  exact ⟨r', (key _ _).1 ⟨hr', fun e => absurd e hpk⟩⟩
/-- an empty leaf goes -/
theorem RelsL.rem {K : Heap → Prop} (h : RelsL o A H m S N L (fun n' => n' = n)) (h0 : ∀ r, ¬ S (n, r))
 (kk : ∀ g L2, Chg mapP o H o (H.put m g) → RelsL o A (H.put m g) m S N L2 (fun _ => False) → K (H.put m g)) : delS sv mv (some m) n K H := by
 refine .inr ⟨m, L, rfl, h.ms, fun g l2 q1 q2 => kk g l2 (Chg.put h.om trivial) ⟨h.om, q1, fun p hp => ?_, fun n' r' hr' => ?_, ?_⟩⟩
 ·obtain ⟨a, b⟩ := (q2 p).1 hp
  obtain ⟨e2, t1, t2, t3, t4⟩ := h.lf p a
  obtain ⟨s1, _, _⟩ := h.ne a t1
  exact ⟨e2, t1, t2, t3.same (by rw [Heap.put_ne _ _ _ s1]), fun _ => t4 b⟩
 ·obtain ⟨e, he⟩ := h.al n' r' hr'
  exact ⟨e, (q2 _).2 ⟨he, fun e' => h0 r' (by rw [← e']; exact hr')⟩⟩
 ·have := QjL (f := fun p : Str × Option Nat => p.1) q1.is.nd fun p hp => ((q2 p).1 hp).1
  have := h.ln
  omega
theorem RelsL.fine (h : RelsL o A H m S N L fun _ => False) (n : Str) : RelsL o A H m S N L fun n' => n' = n := ⟨h.om, h.ms, fun p hp => by
 obtain ⟨e, q1, q2, q3, q4⟩ := h.lf p hp
 exact ⟨e, q1, q2, q3, fun _ => q4 id⟩, h.al, h.ln⟩
end
end
section
open Go Go.Proofs
/-- a log's object and its maps -/
structure Lc (o : Own_) (A H : Heap) (x m : Nat) (s : Sl) (S : Sta) (N : Nat) : Prop where
 oh : OH o A H
 hx : H x = some (true, .row [mv (some m), slv s])
 ox : o x = some .log
 rl : ∃ L, RelsL o A H m S N L fun _ => False
section
variable {C : Ctx} {o o2 : Own_} {A B H H2 : Heap} {x m N M : Nat} {s : Sl} {S : Sta} {L : List (Str × Option Nat)} {X Y : Str → Prop} {n : Str} {r : List V}
theorem RelsL.imp (h : RelsL o A H m S N L X) (hi : ∀ n, X n → Y n) : RelsL o A H m S N L Y := ⟨h.om, h.ms, fun p hp => by
 obtain ⟨e, q1, q2, q3, q4⟩ := h.lf p hp
 exact ⟨e, q1, q2, q3, fun hy => q4 fun hx => hy (hi _ hx)⟩, h.al, h.ln⟩
theorem RelsL.full (h : RelsL o A H m S N L fun n' => n' = n) (hr : ∃ r, S (n, r)) : RelsL o A H m S N L fun _ => False := ⟨h.om, h.ms, fun p hp => by
 obtain ⟨e, q1, q2, q3, q4⟩ := h.lf p hp
 refine ⟨e, q1, q2, q3, fun _ => ?_⟩
 by_cases e : p.1 = n
 ·rw [e]; exact hr
 ·exact q4 e, h.al, h.ln⟩
theorem Lc.ld0 (h : Lc o A H x m s S N) {K : Option Nat → Prop} (k : K (some m)) : ldM H ((x, 0).1, (x, 0).2 + 0) K := ⟨some m, by rw [Qo h.hx]; rfl, k⟩
theorem Lc.ld1 (h : Lc o A H x m s S N) {K : Sl → Prop} (k : K s) : ldL H ((x, 0).1, (x, 0).2 + 1) K := ⟨s, by rw [Qo h.hx]; rfl, k⟩
theorem Lc.hxc (h : Lc o A H x m s S N) (hc : Chg mapP o H o2 H2) : H2 x = some (true, .row [mv (some m), slv s]) :=
 hc.kp _ _ h.hx fun w hw hp => by rw [h.ox] at hw; injection hw with hw; subst hw; exact hp
theorem Lc.chg (h : Lc o A H x m s S N) (hc : Chg mapP o H o2 H2) {S2 : Sta} (hr : ∃ L, RelsL o2 A H2 m S2 M L fun _ => False) : Lc o2 A H2 x m s S2 M :=
 ⟨h.oh.chg hc, h.hxc hc, hc.up _ _ h.ox, hr⟩
theorem Lc.keep (h : Lc o A H x m s S N) (hA : A.le H2) (hk : ∀ c w, o c = some w → H2 c = H c) : Lc o A H2 x m s S N := by
 obtain ⟨L, hr⟩ := h.rl
 exact ⟨⟨hA, h.oh.ap, fun c w hw => by rw [hk c w hw]; exact h.oh.oh c w hw⟩, by rw [hk _ _ h.ox]; exact h.hx, h.ox, L, hr.keep fun c w hw _ => ⟨hw, hk c w hw⟩⟩
theorem OH.eq_le (h : OH o A H) (hle : H.le H2) {c : Nat} {w : Uw} (hw : o c = some w) : H2 c = H c := by
 cases he : H c with
 | none => exact absurd he (h.oh c w hw)
 | some e => exact hle c e he
theorem Lc.up (h : Lc o A H x m s S N) (hle : H.le H2) : Lc o A H2 x m s S N := h.keep (h.oh.le.trans hle) fun c w hw => h.oh.eq_le hle hw
theorem Lc.grow (h : Lc o A H x m s S N) (hle : A.le B) (hB : B.le H) (hap : ∀ c w, o c = some w → B c = none) : Lc o B H x m s S N := by
 obtain ⟨L, hr⟩ := h.rl
 exact ⟨⟨hB, hap, h.oh.oh⟩, h.hx, h.ox, L, hr.up hle⟩
theorem Lc.more (h : Lc o A H x m s S N) (hle : N ≤ M) : Lc o A H x m s S M := by
 obtain ⟨L, hr⟩ := h.rl
 exact ⟨h.oh, h.hx, h.ox, L, hr.more hle⟩
theorem QnH {t : Sl} {K : Heap → Prop} (h : Lc o A H x m s S N) (hv : VRow A t r) (k : ∀ o2 H2, Chg mapP o H o2 H2 → Lc o2 A H2 x m s (putS S (n, r)) (N + 2) → K H2) : Qco C (some (x, 0)) n (showK r) t K H := by
 apply Qih
 unfold Qfh
 obtain ⟨L, hr⟩ := h.rl
 refine ⟨fun _ D => ∃ o2 L2 e, Chg mapP o H o2 D ∧ RelsL o2 A D m S (N + 1) L2 (fun n' => n' = n) ∧ (n, some e) ∈ L2, ?_, ?_⟩
 ·refine ⟨_, rfl, h.ld0 ?_⟩
  refine hr.ms.is.lk (fun y hy => ?_) fun hy => ?_
  ·have hm := QaV hy
   obtain ⟨e, q1, _, _⟩ := hr.lf _ hm
   dsimp only at q1; subst q1
   exact Qi rfl ⟨o, L, e, Chg.of_le (Heap.le.refl _), (hr.fine n).more (Nat.le_succ _), hm⟩
  ·refine Qs rfl ⟨_, rfl, h.ld0 ?_⟩
   exact hr.leaf h.oh hy fun b2 o2 H2 L2 q1 q2 q3 => ⟨o2, L2, b2, q1, q2.imp fun n' hn => hn.resolve_right id, q3⟩
 ·rintro _ D ⟨o2, L2, e, c4, R4, hm⟩
  refine ⟨_, rfl, ⟨some m, by rw [Qo (h.hxc c4)]; rfl, ?_⟩⟩
  refine R4.ms.is.lk (fun y hy => ?_) fun hy => ?_
  ·rw [Qba R4.ms.is.nd hm] at hy
   injection hy with hy; subst hy
   exact R4.put hm hv fun g q1 q2 => k o2 _ (c4.trans q1) (h.chg (c4.trans q1) ⟨L2, q2⟩)
  ·rw [Qba R4.ms.is.nd hm] at hy; cases hy
theorem Qm7 {K : Heap → Prop} (h : Lc o A H x m s S N) (hF : FineS S) (hS : S (n, r)) (k : ∀ H2, Chg mapP o H o H2 → Lc o A H2 x m s (QfN S (n, r)) N → K H2) : QbR C (some (x, 0)) n (showK r) K H := by
 apply Qho
 unfold QeG
 obtain ⟨L, hr⟩ := h.rl
 have hin := hF _ hS
 obtain ⟨e', hm⟩ := hr.al n r hS
 obtain ⟨e, q1, _, _⟩ := hr.lf _ hm
 dsimp only at q1; subst q1
 refine ⟨_, rfl, h.ld0 ?_⟩
 refine hr.ms.is.lk (fun y hy => ?_) fun hy => ?_
 ·rw [Qba hr.ms.is.nd hm] at hy
  injection hy with hy; subst hy
  refine hr.del hF hin hm fun g c1 R1 M1 => ?_
  refine ⟨_, rfl, ⟨some m, by rw [Qo (h.hxc c1)]; rfl, ?_⟩⟩
  refine R1.ms.is.lk (fun y hy => ?_) fun hy => ?_
  ·rw [Qba R1.ms.is.nd hm] at hy
   injection hy with hy; subst hy
   refine M1.ln (fun h0 => ?_) fun j hj _ hex => ?_
   ·refine Qs rfl ⟨_, rfl, ⟨some m, by rw [Qo (h.hxc c1)]; rfl, ?_⟩⟩
    exact R1.rem h0 fun g2 L2 c2 R2 => k _ (c1.trans c2) (h.chg (c1.trans c2) ⟨L2, R2⟩)
   ·exact Qi (by simp; omega) (k _ c1 (h.chg c1 ⟨L, R1.full hex⟩))
  ·rw [Qba R1.ms.is.nd hm] at hy; cases hy
 ·rw [Qba hr.ms.is.nd hm] at hy; cases hy
end
/-- the function that undoes a thing, and what it holds -/
def UndoIs (A : Heap) (x : Nat) (t : Th) (f : Value) : Prop :=
 ∃ (b1 b3 b13 : Nat) (m1 m2 m3 : Bool) (y : Qb), A b1 = some (m1, .row [pv (some (x, 0))]) ∧ A b3 = some (m2, .row (Qb.c y)) ∧ y.Rel = t.2.1 ∧ A b13 = some (m3, .row [sv (showK t.2.2)]) ∧
  ((t.1 = true ∧ f = .func (.func 40) (List.toArray []) (List.toArray [pv (some (b1, 0)), pv (some (b3, 0)), pv (some (b13, 0))])) ∨
   (t.1 = false ∧ ∃ (b36 : Nat) (m4 : Bool) (u : Sl), A b36 = some (m4, .row [slv u]) ∧ VRow A u t.2.2 ∧ f = .func (.func 42) (List.toArray []) (List.toArray [pv (some (b1, 0)), pv (some (b3, 0)), pv (some (b13, 0)), pv (some (b36, 0))])))
/-- a thing in memory -/
structure ThIs (A : Heap) (x : Nat) (t : Th) (v : Qd) : Prop where
 rel : v.rel_ = t.2.1
 key : v.key_ = showK t.2.2
 row : VRow A v.row_ t.2.2
 inn : inR t.2.2
 und : UndoIs A x t v.undo_
section
variable {C : Ctx} {o o2 : Own_} {A B H H2 : Heap} {x m N : Nat} {s : Sl} {S S2 : Sta} {t : Th} {f : Value} {v : Qd}
theorem UndoIs.le (h : UndoIs A x t f) (hle : A.le B) : UndoIs B x t f := by
 obtain ⟨b1, b3, b13, m1, m2, m3, y, h1, h2, h3, h4, h5⟩ := h
 refine ⟨b1, b3, b13, m1, m2, m3, y, hle _ _ h1, hle _ _ h2, h3, hle _ _ h4, h5.imp id fun ⟨q1, b36, m4, u, q2, q3, q4⟩ => ⟨q1, b36, m4, u, hle _ _ q2, q3.le hle, q4⟩⟩
theorem ThIs.le (h : ThIs A x t v) (hle : A.le B) : ThIs B x t v := ⟨h.rel, h.key, h.row.le hle, h.inn, h.und.le hle⟩
theorem ThIs.cell (h : ThIs A x t v) : List.all (Qd.c v) Value.oneCell' = true := by
 obtain ⟨b1, b3, b13, m1, m2, m3, y, h1, h2, h3, h4, h5⟩ := h.und
 rcases h5 with ⟨_, hf⟩ | ⟨_, _, _, _, _, _, hf⟩ <;> simp [Qd.c, hf] <;> exact ⟨rfl, rfl, rfl, rfl⟩
/-- a thing is undone -/
theorem Qmf {Φ : Value → Heap → Prop} (h : Lc o A H x m s S2 N) (hF : FineS S2) (ht : UndoIs A x t f) (hst : stepS t S S2) (k : ∀ o2 H2, Chg mapP o H o2 H2 → Lc o2 A H2 x m s S (N + 2) → Φ (.tuple #[]) H2) : callU Tryz.prog C f [] H Φ := by
 obtain ⟨b1, b3, b13, m1, m2, m3, y, h1, h2, h3, h4, h5⟩ := ht
 obtain ⟨b, n, r⟩ := t
 have g1 := h.oh.le _ _ h1
 have g2 := h.oh.le _ _ h2
 have g4 := h.oh.le _ _ h4
 rcases h5 with ⟨rfl, rfl⟩ | ⟨rfl, b36, m4, u, q2, q3, rfl⟩
 ·obtain ⟨hn, hS⟩ := Qkt.1 hst
  refine ⟨40, [], _, rfl, Qgz, ?_⟩
  have : Qca C (b1, 0) (b3, 0) (b13, 0) (fun H2 => Φ (.tuple #[]) H2) H := by
   apply Qgp
   unfold Qdw
   refine ⟨_, by rw [Qo g1]; rfl, ⟨y.Rel, by rw [Qo g2]; rfl, ⟨_, by rw [Qo g4]; rfl, ?_⟩⟩⟩
   rw [h3]
   refine Qm7 h hF (by rw [hS]; exact .inr rfl) fun H2 c1 l1 => ?_
   rw [hS, QmE hn] at l1
   exact k o H2 c1 (l1.more (by omega))
  unfold Qca at this
  exact this.mono fun v H' hv => by obtain ⟨hv, hk⟩ := hv; subst hv; exact hk
 ·obtain ⟨hn, hS⟩ := Qks.1 hst
  refine ⟨42, [], _, rfl, Qgy, ?_⟩
  have g36 := h.oh.le _ _ q2
  have : Qb9 C (b1, 0) (b3, 0) (b13, 0) (b36, 0) (fun H2 => Φ (.tuple #[]) H2) H := by
   apply Qgn
   unfold Qdu
   refine ⟨_, by rw [Qo g1]; rfl, ⟨y.Rel, by rw [Qo g2]; rfl, ⟨_, by rw [Qo g4]; rfl, ⟨u, by rw [Qo g36]; rfl, ?_⟩⟩⟩⟩
   rw [h3]
   refine QnH h q3 fun o2 H2 c1 l1 => ?_
   rw [hS] at l1
   have := Qmo hn
   rw [this] at l1
   exact k o2 H2 c1 l1
  unfold Qb9 at this
  exact this.mono fun v H' hv => by obtain ⟨hv, hk⟩ := hv; subst hv; exact hk
end
end
section
open Go Go.Proofs
def Heap.or (A N : Heap) : Heap := fun c => match A c with | some e => some e | none => N c
section
variable {A N H : Heap}
theorem Heap.le_or : A.le (A.or N) := fun c e h => by unfold Heap.or; rw [h]
theorem Heap.or_le (h1 : A.le H) (h2 : N.le H) : (A.or N).le H := fun c e h => by
 unfold Heap.or at h
 cases ha : A c with
 | some e' => rw [ha] at h; injection h with h; subst h; exact h1 c _ ha
 | none => rw [ha] at h; exact h2 c e h
theorem Heap.or_some {c : Nat} (h : A.or N c ≠ none) : A c ≠ none ∨ N c ≠ none := by
 unfold Heap.or at h
 cases ha : A c with
 | some e' => exact .inl (by simp)
 | none => rw [ha] at h; exact .inr h
theorem Heap.or_none {c : Nat} (h1 : A c = none) (h2 : N c = none) : A.or N c = none := by unfold Heap.or; rw [h1]; exact h2
theorem Heap.le_or2 (h : ∀ c e, N c = some e → A c = none) : N.le (A.or N) := fun c e hc => by unfold Heap.or; rw [h c e hc]; exact hc
end
/-- what a log's method changes -/
structure Mv (o : Own_) (A H : Heap) (o2 : Own_) (A2 H2 : Heap) : Prop where
 c : Chg (fun _ => True) o H o2 H2
 a : A.le A2
 n : ∀ c, A2 c ≠ none → A c ≠ none ∨ H c = none
/-- a part of memory that the log's methods keep -/
structure Bs (o : Own_) (B H : Heap) : Prop where
 le : B.le H
 ap : ∀ c w, o c = some w → B c = none
/-- two logs apart -/
structure Dj (o : Own_) (A : Heap) (o' : Own_) (A' : Heap) : Prop where
 a : ∀ c w, o c = some w → o' c = none ∧ A' c = none
 b : ∀ c w, o' c = some w → A c = none
section
variable {o o2 o3 o' : Own_} {A A2 A3 A' B B2 H H2 H3 : Heap}
theorem Mv.of_le (h : H.le H2) : Mv o A H o A H2 := ⟨Chg.of_le h, Heap.le.refl _, fun c hc => .inl hc⟩
theorem Mv.trans (h : Mv o A H o2 A2 H2) (h' : Mv o2 A2 H2 o3 A3 H3) : Mv o A H o3 A3 H3 := ⟨h.c.trans h'.c, h.a.trans h'.a, fun c hc => by
 rcases h'.n c hc with h1 | h1
 ·exact h.n c h1
 ·refine .inr ?_
  cases he : H c with
  | none => rfl
  | some e => exact absurd h1 (h.c.li c (by rw [he]; simp))⟩
theorem Bs.mv (h : Bs o B H) (hm : Mv o A H o2 A2 H2) : Bs o2 B H2 := by
 refine ⟨fun c e hc => hm.c.kp c e (h.le c e hc) (fun w hw _ => by rw [h.ap c w hw] at hc; cases hc), fun c w hw => ?_⟩
 rcases hm.c.dn c w hw with h1 | ⟨h1, _⟩
 ·exact h.ap c w h1
 ·exact h.le.none h1
theorem Bs.up (h : Bs o B H) (hle : H.le H2) : Bs o B H2 := ⟨h.le.trans hle, h.ap⟩
/-- all that is not the log's -/
def Heap.wo_ (o : Own_) (H : Heap) : Heap := fun c => match o c with | none => H c | some _ => none
theorem Heap.wo_none {c : Nat} (h : o c = none) : Heap.wo_ o H c = H c := by unfold Heap.wo_; rw [h]
theorem Heap.wo_own {c : Nat} {w : Uw} (h : o c = some w) : Heap.wo_ o H c = none := by unfold Heap.wo_; rw [h]
theorem Heap.wo_le : (Heap.wo_ o H).le H := fun c e hc => by
 cases ho : o c with
 | none => rwa [Heap.wo_none ho] at hc
 | some w => rw [Heap.wo_own ho] at hc; cases hc
theorem Bs.wo : Bs o (Heap.wo_ o H) H := ⟨Heap.wo_le, fun c w hw => Heap.wo_own hw⟩
theorem Dj.symm (h : Dj o A o' A') : Dj o' A' o A := by
 refine ⟨fun c w hw => ⟨?_, h.b c w hw⟩, fun c w hw => (h.a c w hw).2⟩
 cases he : o c with
 | none => rfl
 | some w' => rw [(h.a c w' he).1] at hw; cases hw
end
theorem Qky {H : Heap} {zc : List Value} {bytes : Nat} {s : Sl} {cs ys : List Value} {m : Nat} {K : Sl → Heap → Prop} (ho : Own H zc.length s cs) (hy : ys.length = m * zc.length)
 (hb : (s.len + m) * bytes ≤ 140737488355328) (h63 : s.len + m ≤ 9223372036854775807) (k : ∀ r H2, Own H2 zc.length r (cs ++ ys) → r.len = s.len + m → (r.p = s.p ∨ ∀ q, r.p = some q → H q.1 = none) → (∀ c, (∀ q, r.p = some q → c ≠ q.1) → H2 c = H c) → K r H2) : apd zc bytes s ys m K H := by
 have ho' := ho
 obtain ⟨hl, hx, hc, hcase⟩ := ho
 refine ⟨cs, ho'.rdsl, hl, hy, hb, h63, fun hfit => ?_, fun hgrow b cap hnone hcap => ?_⟩
 ·rcases hcase with ⟨hp, h0⟩ | ⟨b, sp, hp, hbk, hcl⟩
  ·left
   have hm : m = 0 := by omega
   subst hm
   have hy0 : ys = [] := List.length_eq_zero_iff.1 (by simpa using hy)
   subst hy0
   refine ⟨rfl, k _ _ ⟨?_, hx, hfit, .inl ⟨hp, h0⟩⟩ rfl (.inl rfl) fun _ _ => rfl⟩
   simpa using hl
  ·right
   have hle2 : (s.len + m) * zc.length ≤ s.cap * zc.length := Nat.mul_le_mul_right _ hfit
   rw [Nat.add_mul] at hle2
   refine ⟨_, _, hp, hx, hbk, ?_, k _ _ ⟨?_, hx, hfit, .inr ⟨b, sp.drop ys.length, hp, ?_, ?_⟩⟩ rfl (.inl rfl) fun c hc => Heap.put_ne _ _ _ (hc _ hp)⟩
   ·simp only [Nat.zero_add]; rw [hy]; omega
   ·simp only [List.length_append, hl, hy, Nat.add_mul]
   ·rw [Heap.put_same]
    simp only [Nat.zero_add, splice, ← hl]
    rw [List.take_append_of_le_length (Nat.le_refl _), List.take_length, List.drop_append, List.drop_eq_nil_of_le (by omega)]
    simp
   ·simp only [List.length_append, List.length_drop] at hcl ⊢
    omega
 ·refine k _ _ ⟨by simp only [List.length_append, hl, hy, Nat.add_mul], rfl, hcap, .inr ⟨b, zeros zc (cap - (s.len + m)), rfl, by rw [Heap.put_same], ?_⟩⟩ rfl (.inr fun q hq => by injection hq with hq; subst hq; exact hnone) fun c hc => Heap.put_ne _ _ _ (hc _ rfl)
  simp only [List.length_append, Qa0, hl, hy]
  rw [← Nat.add_mul, ← Nat.add_mul]
  exact Nat.mul_le_mul_right _ (by omega)
/-- things done, in memory -/
structure Dn (o : Own_) (A H : Heap) (x : Nat) (s : Sl) (T : List Th) : Prop where
 ex : ∃ xs : List Qd, Own H 4 s (xs.flatMap Qd.c) ∧ xs.length = T.length ∧ ∀ (i : Nat) (t : Th) (v : Qd), T[i]? = some t → xs[i]? = some v → ThIs A x t v
 ow : ∀ q, s.p = some q → o q.1 = some .done
/-- a log in memory: what was there at each mark -/
structure LG (o : Own_) (A H : Heap) (x : Nat) (a : Nat → Sta) (n N : Nat) : Prop where
 ex : ∃ m s T, Lc o A H x m s (a n) N ∧ Dn o A H x s T ∧ T.length = n ∧ ∀ (i : Nat) (t : Th), T[i]? = some t → stepS t (a i) (a (i + 1))
 f : ∀ i, i ≤ n → FineS (a i)
 nm : ∀ i, i ≤ n → ∀ y, a i y → y.1.length ≤ 1000000
/-- one mark more -/
def ext (a : Nat → Sta) (n : Nat) (S : Sta) : Nat → Sta := fun i => if i ≤ n then a i else S
theorem Qe3 {a : Nat → Sta} {n i : Nat} {S : Sta} (h : i ≤ n) : ext a n S i = a i := by unfold ext; rw [if_pos h]
theorem Qe2 {a : Nat → Sta} {n : Nat} {S : Sta} : ext a n S (n + 1) = S := by unfold ext; rw [if_neg (by omega)]
theorem Qmd (v : Qd) : (Qd.c v).length = 4 := rfl
theorem Qd0 (l : List Qd) : (l.flatMap Qd.c).length = l.length * 4 := by
 induction l with
 | nil => rfl
 | cons a l ih => rw [List.flatMap_cons, List.length_append, ih, Qmd, List.length_cons, Nat.add_mul]; omega
section
variable {C : Ctx} {o o2 : Own_} {A B H H2 : Heap} {x m n N M : Nat} {s : Sl} {S S2 : Sta} {T : List Th} {t : Th} {v : Qd} {a : Nat → Sta}
theorem Dn.keep (h : Dn o A H x s T) (hk : ∀ c, o c = some .done → o2 c = some .done ∧ H2 c = H c) : Dn o2 A H2 x s T := by
 obtain ⟨⟨xs, ⟨q1, q2, q3, q4⟩, h2, h3⟩, ho⟩ := h
 refine ⟨⟨xs, ⟨q1, q2, q3, q4.imp id fun ⟨b, sp, p1, p2, p3⟩ => ⟨b, sp, p1, ?_, p3⟩⟩, h2, h3⟩, fun q hq => (hk _ (ho q hq)).1⟩
 rw [(hk b (ho _ p1)).2]; exact p2
theorem Dn.grow (h : Dn o A H x s T) (hle : A.le B) : Dn o B H x s T := by
 obtain ⟨⟨xs, h1, h2, h3⟩, ho⟩ := h
 exact ⟨⟨xs, h1, h2, fun i t v ht hv => (h3 i t v ht hv).le hle⟩, ho⟩
theorem Dn.chg (h : Dn o A H x s T) (hO : OH o A H) (hc : Chg mapP o H o2 H2) : Dn o2 A H2 x s T := h.keep fun c hw => ⟨hc.up _ _ hw, by
 cases he : H c with
 | none => exact absurd he (hO.oh c _ hw)
 | some e => exact hc.kp c e he fun w hw' hp => by rw [hw] at hw'; injection hw' with hw'; subst hw'; exact hp⟩
theorem LG.oh (h : LG o A H x a n N) : OH o A H := by obtain ⟨⟨m, s, T, h1, _⟩, _⟩ := h; exact h1.oh
theorem LG.up (h : LG o A H x a n N) (hle : H.le H2) : LG o A H2 x a n N := by
 obtain ⟨⟨m, s, T, h1, h2, h3⟩, h4, h5⟩ := h
 exact ⟨⟨m, s, T, h1.up hle, h2.keep fun c hw => ⟨hw, h1.oh.eq_le hle hw⟩, h3⟩, h4, h5⟩
theorem LG.more (h : LG o A H x a n N) (hle : N ≤ M) : LG o A H x a n M := by
 obtain ⟨⟨m, s, T, h1, h2, h3⟩, h4, h5⟩ := h
 exact ⟨⟨m, s, T, h1.more hle, h2, h3⟩, h4, h5⟩
theorem LG.other {o' : Own_} {A' : Heap} {y : Nat} {A2 : Heap} (h : LG o' A' H y a n N) (hm : Mv o A H o2 A2 H2) (hd : Dj o A o' A') : LG o' A' H2 y a n N ∧ Dj o2 A2 o' A' := by
 have hO := h.oh
 obtain ⟨⟨m, s, T, h1, h2, h3⟩, h4, h5⟩ := h
 have hk : ∀ c w, o' c = some w → H2 c = H c := fun c w hw => by
  cases he : H c with
  | none => exact absurd he (hO.oh c w hw)
  | some e => exact hm.c.kp c e he fun w' hw' _ => by rw [(hd.a c w' hw').1] at hw; cases hw
 refine ⟨⟨⟨m, s, T, h1.keep (fun c e hc => hm.c.kp c e (hO.le c e hc) fun w hw _ => by rw [(hd.a c w hw).2] at hc; cases hc) hk, h2.keep fun c hw => ⟨hw, hk c _ hw⟩, h3⟩, h4, h5⟩, ⟨fun c w hw => ?_, fun c w hw => ?_⟩⟩
 ·rcases hm.c.dn c w hw with h1 | ⟨h1, _⟩
  ·exact hd.a c w h1
  ·refine ⟨?_, hO.le.none h1⟩
   cases he : o' c with
   | none => rfl
   | some w' => exact absurd h1 (hO.oh c w' he)
 ·cases he : A2 c with
  | none => rfl
  | some e =>
   rcases hm.n c (by rw [he]; simp) with h1 | h1
   ·exact absurd (hd.b c w hw) h1
   ·exact absurd h1 (hO.oh c w hw)
/-- the owner of a slice's block -/
def Own_.dn (o : Own_) (r : Sl) : Own_ := match r.p with
 | some q => o.set q.1 .done
 | none => o
theorem Own_.dn_eq {r : Sl} {q : Nat × Nat} (h : r.p = some q) : o.dn r = o.set q.1 .done := by unfold Own_.dn; rw [h]
theorem Own_.dn_none {r : Sl} (h : r.p = none) : o.dn r = o := by unfold Own_.dn; rw [h]
/-- a thing is put behind those that were done -/
theorem QlU {K : Heap → Prop} (h : Lc o A H x m s S N) (hD : Dn o A H x s T) (hn : T.length ≤ 1000000) (ht : ThIs A x t v)
 (k : ∀ o3 H3 r, Mv o A H o3 A H3 → Lc o3 A H3 x m r S N → Dn o3 A H3 x r (T ++ [t]) → K H3) :
 nw (Qd.c v ++ []) (fun b60 H61 => Heap.le (H.off s) H61 ∧ apS (Qd.c Qd.zero) 64 s (Sl.of (some (b60, 0)) 1 1) (fun r63 H64 => Heap.le (H.off s) H64 ∧ nck (some (x, 0)) fun p65 => st (p65.1, p65.2 + 1) (slv r63) (fun H67 => K H67) H64) H61) H := by
 intro b nb
 have hle := Heap.le_put nb (g := .row (Qd.c v ++ [])) (m := true)
 refine ⟨(Heap.off_le _ _).trans hle, Qd.c v, ?_, fun u hu => List.all_eq_true.1 ht.cell u hu, ?_⟩
 ·refine .inr ⟨rfl, (b, 0), rfl, QbP (Heap.put_same ..) fun j w hj => ?_⟩
  rw [Nat.zero_add, List.append_nil]; exact hj
 have hOH := h.oh
 have hL := h.up hle
 have hD2 := hD.keep (o2 := o) (H2 := H.put b (.row (Qd.c v ++ []))) fun c hw => ⟨hw, hOH.eq_le hle hw⟩
 generalize H.put b (.row (Qd.c v ++ [])) = H1 at *
 obtain ⟨⟨xs, hO, hxl, hall⟩, how⟩ := hD2
 have hsl : s.len = xs.length := by have h1 := hO.1; rw [Qd0] at h1; omega
 refine Qky (zc := Qd.c Qd.zero) hO rfl (by simp only [Sl.of]; omega) (by simp only [Sl.of]; omega) fun r H4 q1 q2 q3 q4 => ?_
 -- the slice's block
 have hrp : ∀ q, r.p = some q → o q.1 = some .done ∨ H1 q.1 = none := fun q hq => by
  rcases q3 with e | e
  ·exact .inl (how q (by rw [← e]; exact hq))
  ·exact .inr (e q hq)
 have hrx : ∀ q, r.p = some q → x ≠ q.1 := fun q hq e => by
  rcases hrp q hq with h1 | h1
  ·rw [← e, h.ox] at h1; cases h1
  ·rw [← e, hL.hx] at h1; cases h1
 have hx4 : H4 x = some (true, .row [mv (some m), slv s]) := (q4 x hrx).trans hL.hx
 refine ⟨fun c e hc => ?_, _, rfl, _, hx4, by simp, ?_⟩
 ·have hc2 := hle _ _ (Heap.off_le _ _ _ _ hc)
  refine (q4 c fun q hq e' => ?_).trans hc2
  rcases q3 with e1 | e1
  ·unfold Heap.off at hc
   rw [if_pos (by rw [← e1, hq, e']; rfl)] at hc; cases hc
  ·rw [e', e1 q hq] at hc2; cases hc2
 show K (H4.put x (.row [mv (some m), slv r]))
 have hkeep : ∀ c, (∀ q, r.p = some q → c ≠ q.1) → c ≠ x → (H4.put x (.row [mv (some m), slv r])) c = H1 c := fun c hc hcx => by
  rw [Heap.put_ne _ _ _ hcx]; exact q4 c hc
 have hli : ∀ c, H1 c ≠ none → (H4.put x (.row [mv (some m), slv r])) c ≠ none := fun c hc => by
  by_cases hcx : c = x
  ·rw [hcx, Heap.put_same]; simp
  ·rw [Heap.put_ne _ _ _ hcx]
   by_cases hr : ∃ q, r.p = some q ∧ c = q.1
   ·obtain ⟨q, hq, e⟩ := hr
    obtain ⟨g, hg⟩ := q1.mine hq
    rw [e, hg]; simp
   ·rw [q4 c fun q hq e => hr ⟨q, hq, e⟩]; exact hc
 have hdn : ∀ c w, o c = some w → (o.dn r) c = some w := fun c w hw => by
  cases hr : r.p with
  | none => rw [Own_.dn_none hr]; exact hw
  | some q =>
   rw [Own_.dn_eq hr]
   by_cases e : c = q.1
   ·rw [e, Own_.set_same]
    rcases hrp q hr with h1 | h1
    ·rw [e, h1] at hw; exact hw
    ·rw [e] at hw; exact absurd h1 (hL.oh.oh _ _ hw)
   ·rw [Own_.set_ne e]; exact hw
 have hup : ∀ c w, (o.dn r) c = some w → o c = some w ∨ (H1 c = none ∧ ∃ q, r.p = some q ∧ q.1 = c) := fun c w hw => by
  cases hr : r.p with
  | none => rw [Own_.dn_none hr] at hw; exact .inl hw
  | some q =>
   rw [Own_.dn_eq hr] at hw
   by_cases e : c = q.1
   ·rw [e, Own_.set_same] at hw
    rcases hrp q hr with h1 | h1
    ·rw [e]; exact .inl (h1.trans hw)
    ·exact .inr ⟨by rw [e]; exact h1, q, rfl, e.symm⟩
   ·rw [Own_.set_ne e] at hw; exact .inl hw
 have hlive : ∀ q, r.p = some q → (H4.put x (.row [mv (some m), slv r])) q.1 ≠ none := fun q hq => by
  obtain ⟨g, hg⟩ := q1.mine hq
  rw [Heap.put_ne _ _ _ (hrx q hq).symm, hg]; simp
 -- a block that is neither the slice's nor the log's
 have hne : ∀ c e, H1 c = some e → o c ≠ some .done → ∀ q, r.p = some q → c ≠ q.1 := fun c e hc ho q hq e' => by
  rcases hrp q hq with h1 | h1
  ·exact ho (by rw [e']; exact h1)
  ·rw [← e', hc] at h1; cases h1
 have hmap : ∀ c w, o c = some w → mapP w → (H4.put x (.row [mv (some m), slv r])) c = H1 c := fun c w hw hp => by
  cases hc : H1 c with
  | none => exact absurd hc (hL.oh.oh c w hw)
  | some e =>
   rw [hkeep c (hne c e hc fun e' => by rw [hw] at e'; injection e' with e'; subst e'; exact hp) (fun e' => by rw [e', h.ox] at hw; injection hw with hw; subst hw; exact hp), hc]
 have hA : A.le (H4.put x (.row [mv (some m), slv r])) := fun c e hc => by
  have ho : o c = none := by
   cases ho : o c with
   | none => rfl
   | some w => rw [hOH.ap c w ho] at hc; cases hc
  have hc1 := hL.oh.le _ _ hc
  rw [hkeep c (hne c e hc1 (by rw [ho]; simp)) (fun e' => by rw [e', h.ox] at ho; cases ho), hc1]
 have hmv : Mv o A H1 (o.dn r) A (H4.put x (.row [mv (some m), slv r])) := by
  refine ⟨⟨fun c e hc hn => ?_, hdn, fun c w hw => ?_, hli⟩, Heap.le.refl _, fun c hc => .inl hc⟩
  ·have ho : o c = none := by
    cases ho : o c with
    | none => rfl
    | some w => exact absurd trivial (hn w ho)
   rw [hkeep c (hne c e hc (by rw [ho]; simp)) (fun e' => by rw [e', h.ox] at ho; cases ho), hc]
  ·rcases hup c w hw with h1 | ⟨h1, q, hq, rfl⟩
   ·exact .inl h1
   ·exact .inr ⟨h1, trivial, hlive q hq⟩
 obtain ⟨L, hr⟩ := hL.rl
 refine k _ _ r ((Mv.of_le hle).trans hmv) ⟨hL.oh.chg hmv.c, Heap.put_same .., hdn _ _ h.ox, L, hr.keep fun c w hw hp => ⟨hdn c w hw, hmap c w hw hp⟩⟩ ⟨⟨xs ++ [v], ?_, by simp [hxl], fun i t' v' hi hv' => ?_⟩, fun q hq => by rw [Own_.dn_eq hq, Own_.set_same]⟩
 ·rw [List.flatMap_append, List.flatMap_singleton]
  obtain ⟨w1, w2, w3, w4⟩ := q1
  refine ⟨w1, w2, w3, w4.imp id fun ⟨b', sp, p1, p2, p3⟩ => ⟨b', sp, p1, ?_, p3⟩⟩
  rw [Heap.put_ne _ _ _ (hrx _ p1).symm]; exact p2
 ·by_cases hlt : i < T.length
  ·rw [List.getElem?_append_left hlt] at hi
   rw [List.getElem?_append_left (by omega)] at hv'
   exact hall i t' v' hi hv'
  ·have hi2 : i = T.length := by
    have := (List.getElem?_eq_some_iff.1 hi).1
    simp at this; omega
   subst hi2
   rw [List.getElem?_append_right (by omega)] at hi
   rw [← hxl, List.getElem?_append_right (by omega)] at hv'
   simp at hi hv'
   subst hi; subst hv'
   exact ht
end
end
section
open Go Go.Proofs
section
variable {C : Ctx} {o o2 : Own_} {A B H H2 : Heap} {x m n N M : Nat} {s t : Sl} {S S2 : Sta} {T : List Th} {a : Nat → Sta} {r : List V} {nm : Str}
theorem nwS {b : Nat} {v v0 : Value} {K : Heap → Prop} (k : K (H.put b (.row [v]))) : st (b, 0) v K (H.put b (.row [v0])) :=
 ⟨_, Heap.put_same .., by simp, by rw [Heap.put_put]; exact k⟩
theorem Qf3 (hO : OH o A H) (hle : H.le H2) : (A.or (Heap.new H H2)).le H2 ∧ (∀ c w, o c = some w → (A.or (Heap.new H H2)) c = none) ∧ (Heap.new H H2).le (A.or (Heap.new H H2)) ∧ ∀ c, (A.or (Heap.new H H2)) c ≠ none → A c ≠ none ∨ H c = none :=
 ⟨Heap.or_le (hO.le.trans hle) (Heap.new_le _ _), fun c w hw => Heap.or_none (hO.ap c w hw) (by
  cases hn : Heap.new H H2 c with
  | none => rfl
  | some e => exact absurd (Heap.new_inv hn).1 (hO.oh c w hw)), Heap.le_or2 fun c e hc => hO.le.none (Heap.new_inv hc).1, fun c hc => (Heap.or_some hc).imp id fun h => by
  cases hn : Heap.new H H2 c with
  | none => exact absurd hn h
  | some e => exact (Heap.new_inv hn).1⟩
theorem Qj4 {T : List Th} {t : Th} (hT : ∀ (i : Nat) (t : Th), T[i]? = some t → stepS t (a i) (a (i + 1))) (hn : T.length = n) (ht : stepS t (a n) S) : ∀ (i : Nat) (t' : Th), (T ++ [t])[i]? = some t' → stepS t' (ext a n S i) (ext a n S (i + 1)) := fun i t' hi => by
 by_cases hlt : i < T.length
 ·rw [List.getElem?_append_left hlt] at hi
  rw [Qe3 (by omega), Qe3 (by omega)]; exact hT i t' hi
 ·have hi2 : i = T.length := by
   have := (List.getElem?_eq_some_iff.1 hi).1
   simp at this; omega
  subst hi2
  rw [List.getElem?_append_right (by omega)] at hi
  simp at hi
  subst hi
  rw [hn, Qe3 (Nat.le_refl _), Qe2]; exact ht
theorem Qkc {K : Int → Heap → Prop} (h : LG o A H x a n N) (k : K n H) : QS C (some (x, 0)) K H := by
 apply Qg2
 unfold Qed
 obtain ⟨⟨m, s, T, h1, ⟨⟨xs, q1, q2, _⟩, _⟩, h3, _⟩, _⟩ := h
 refine Qi rfl ⟨_, rfl, h1.ld1 ?_⟩
 have hl := q1.1
 rw [Qd0] at hl
 rw [show (s.len : Int) = n by omega]; exact k
theorem Qk6 {j : Int} {K : Int → Heap → Prop} (h : LG o A H x a n N) (k : K (if 0 ≤ j ∧ j ≤ n then 0 else 1) H) : Qbk C (some (x, 0)) j K H := by
 apply Qgr
 unfold Qdy
 obtain ⟨⟨m, s, T, h1, ⟨⟨xs, q1, q2, _⟩, _⟩, h3, _⟩, _⟩ := h
 have hl := q1.1
 rw [Qd0] at hl
 have hs : s.len = n := by omega
 refine Qi rfl (jn.inl ?_)
 refine ift.of (fun h => ?_) (fun h => ?_)
 ·have h := of_decide_eq_true h
  rw [if_neg (by omega)] at k
  exact Qs rfl k
 ·have h := of_decide_eq_false h
  refine ⟨_, rfl, h1.ld1 ?_⟩
  refine ift.of (fun h2 => ?_) (fun h2 => ?_)
  ·have h2 := of_decide_eq_true h2
   rw [if_neg (by omega)] at k; exact k
  ·have h2 := of_decide_eq_false h2
   rw [if_pos (by omega)] at k; exact k
theorem Qm0 (hFm : FmtC C) {K : Bool → Heap → Prop} (h : LG o A H x a n N) (hb : Bs o B H) (hv : VRow B t r) (hr : okR r) (k : ∀ b H2, H.le H2 → (b = true ↔ a n (nm, r)) → K b H2) : Qah C (some (x, 0)) ⟨nm, t⟩ K H := by
 apply Qhm
 unfold QeE
 intro b1 n1
 have l1 := Heap.le_put n1 (g := .row (Qb.c (⟨nm, t⟩ : Qb))) (m := true)
 have c1 : (H.put b1 (.row (Qb.c (⟨nm, t⟩ : Qb)))) b1 = some (true, .row (Qb.c (⟨nm, t⟩ : Qb))) := Heap.put_same ..
 generalize H.put b1 (.row (Qb.c (⟨nm, t⟩ : Qb))) = E1 at *
 refine Qi rfl (fL c1 (t := t) rfl ?_)
 have hF := h.f n (Nat.le_refl _)
 refine QlI hFm hv (hb.le.trans l1) hr (fun hm H8 h8 => ?_) fun hm H8 h8 => ?_
 ·have hL := h.up (l1.trans h8)
  obtain ⟨⟨m, s, T, p1, _⟩, _⟩ := hL
  obtain ⟨L, hR⟩ := p1.rl
  refine ⟨_, rfl, p1.ld0 ⟨nm, by rw [Qo (h8 _ _ c1)]; rfl, hR.look fun y is hl => ?_⟩⟩
  exact hl.look (fun r' hr' => hF _ hr') ⟨hr, hm⟩ (fun hS _ _ => k _ _ (l1.trans h8) ⟨fun _ => hS, fun _ => rfl⟩) fun hS => k _ _ (l1.trans h8) ⟨fun e => (by cases e), fun e => absurd e hS⟩
 ·have hL := h.up (l1.trans h8)
  obtain ⟨⟨m, s, T, p1, _⟩, _⟩ := hL
  obtain ⟨L, hR⟩ := p1.rl
  refine ⟨_, rfl, p1.ld0 ⟨nm, by rw [Qo (h8 _ _ c1)]; rfl, hR.look fun y is hl => hl.any fun s' b => ?_⟩⟩
  rw [Bool.false_and]
  exact k _ _ (l1.trans h8) ⟨fun e => (by cases e), fun e => by have := (hF _ e).m; dsimp only at this; rw [hm] at this; cases this⟩
theorem Qlq (hFm : FmtC C) {K : Bool → Int → Heap → Prop} (h : LG o A H x a n N) (hn : n ≤ 1000000) (hb : Bs o B H) (hv : VRow B t r) (hr : okR r) (hnm : nm.length ≤ 1000000)
 (k0 : mayR r = false → ∀ H2, H.le H2 → K false 4 H2)
 (k1 : mayR r = true → a n (nm, r) → ∀ H2, H.le H2 → K false 0 H2)
 (k2 : mayR r = true → ¬ a n (nm, r) → ∀ o2 A2 H2, Mv o A H o2 A2 H2 → LG o2 A2 H2 x (ext a n (putS (a n) (nm, r))) (n + 1) (N + 2) → K true 0 H2) : QE C (some (x, 0)) ⟨nm, t⟩ K H := by
 apply Qhn
 unfold QeF
 intro b1 n1 b3 n3
 have l1 := Heap.le_put n1 (g := .row [pv (some (x, 0))]) (m := true)
 have l3 := Heap.le_put n3 (g := .row (Qb.c (⟨nm, t⟩ : Qb))) (m := true)
 have c1 := l3 _ _ (show (H.put b1 (.row [pv (some (x, 0))])) b1 = some (true, .row [pv (some (x, 0))]) from Heap.put_same ..)
 have c3 : ((H.put b1 (.row [pv (some (x, 0))])).put b3 (.row (Qb.c (⟨nm, t⟩ : Qb)))) b3 = some (true, .row (Qb.c (⟨nm, t⟩ : Qb))) := Heap.put_same ..
 have h3n : H b3 = none := l1.none n3
 have lE := l1.trans l3
 generalize (H.put b1 (.row [pv (some (x, 0))])).put b3 (.row (Qb.c (⟨nm, t⟩ : Qb))) = E at *
 refine ⟨_, by rw [Qo c1]; rfl, Qi rfl (fL c3 (t := t) rfl ?_)⟩
 have hF := h.f n (Nat.le_refl _)
 refine QlI hFm hv (hb.le.trans lE) hr (fun hm E2 l4 => ?_) fun hm E2 l4 => ?_
 rotate_left
 ·intro b13 n13
  refine nwS (Qs rfl (k0 hm _ (lE.trans (l4.trans (Heap.le_put n13)))))
 intro b13 n13
 refine nwS (Qi rfl ?_)
 have l13 := Heap.le_put n13 (g := .row [sv (showK r)]) (m := true)
 have c13 : (E2.put b13 (.row [sv (showK r)])) b13 = some (true, .row [sv (showK r)]) := Heap.put_same ..
 have h13n : H b13 = none := lE.none (l4.none n13)
 have l5 := l4.trans l13
 generalize E2.put b13 (.row [sv (showK r)]) = E3 at *
 have d1 := l5 _ _ c1
 have d3 := l5 _ _ c3
 have lH := lE.trans l5
 have hL := h.up lH
 have hmt := h.f
 have hnms := h.nm
 obtain ⟨⟨m, s, T, p1, p2, p3, p4⟩, _, _⟩ := hL
 obtain ⟨L, hR⟩ := p1.rl
 refine ⟨_, by rw [Qo d1]; rfl, _, rfl, p1.ld0 ⟨nm, by rw [Qo d3]; rfl, hR.look fun y is hl => ⟨_, by rw [Qo c13]; rfl, ?_⟩⟩⟩
 refine hl.look (fun r' hr' => hF _ hr') ⟨hr, hm⟩ (fun hS s2 hs => Qs rfl (k1 hm hS _ lH)) fun hS => Qi rfl ?_
 refine fL d3 (t := t) rfl ?_
 refine Qjq hv (hb.le.trans lH) (by have := hr.z; omega) fun t2 E4 hM => ?_
 have l6 := lH.trans hM.le
 have hO := h.oh
 obtain ⟨w1, w2, w3, w4⟩ := Qf3 hO l6
 have e1 := hM.le _ _ d1
 have e3 := hM.le _ _ d3
 have e13 := hM.le _ _ c13
 have n1' : H b1 = none := n1
 have a1 := w3 _ _ (Heap.new_some e1 n1)
 have a3 := w3 _ _ (Heap.new_some e3 h3n)
 have a13 := w3 _ _ (Heap.new_some e13 h13n)
 have hrow : VRow (A.or (Heap.new H E4)) t2 r := hM.row.le fun c e hc => by
  obtain ⟨q1, q2⟩ := Heap.new_inv hc
  exact w3 _ _ (Heap.new_some q2 (lH.none q1))
 have g1 := (p1.up hM.le).grow Heap.le_or w1 w2
 have g2 := (p2.keep (o2 := o) fun c hw => ⟨hw, p1.oh.eq_le hM.le hw⟩).grow (B := A.or (Heap.new H E4)) Heap.le_or
 have hAle : A.le (A.or (Heap.new H E4)) := Heap.le_or
 have hmv0 : Mv o A H o (A.or (Heap.new H E4)) E4 := ⟨Chg.of_le l6, hAle, w4⟩
 generalize A.or (Heap.new H E4) = A2 at *
 refine ⟨_, by rw [Qo e1]; rfl, ⟨nm, by rw [Qo e3]; rfl, ⟨_, by rw [Qo e13]; rfl, ?_⟩⟩⟩
 refine QnH (n := nm) g1 hrow fun o2 E5 c5 L5 => ?_
 have D5 := g2.chg g1.oh c5
 have hoff : ∀ {c : Nat} {e : Bool × GO}, A2 c = some e → (E5.off s) c = some e := fun {c e} hc => Heap.off_some (L5.oh.le _ _ hc) fun q hq e' => by
  have := L5.oh.ap _ _ (D5.ow q hq)
  rw [e', hc] at this; cases this
 have hx5 : (E5.off s) x = some (true, .row [mv (some m), slv s]) := Heap.off_some L5.hx fun q hq e' => by
  have := D5.ow q hq
  rw [e', L5.ox] at this; cases this
 refine ⟨E5.off s, Heap.off_le _ _, ⟨_, by rw [Qo (hoff a1)]; rfl, ⟨_, by rw [Qo (hoff a1)]; rfl, _, rfl, ⟨s, by rw [Qo hx5]; rfl, ⟨nm, by rw [Qo (hoff a3)]; rfl, ⟨_, by rw [Qo (hoff a13)]; rfl, ?_⟩⟩⟩⟩⟩⟩
 refine QlU (t := (true, nm, r)) L5 D5 (by omega) ⟨rfl, rfl, hrow, ⟨hr, hm⟩, b1, b3, b13, true, true, true, ⟨nm, t⟩, a1, a3, rfl, a13, .inl ⟨rfl, rfl⟩⟩ fun o3 E6 s3 m6 L6 D6 => ?_
 have hmv5 : Mv o A2 E4 o2 A2 E5 := ⟨c5.imp fun _ _ => trivial, Heap.le.refl _, fun c hc => .inl hc⟩
 refine k2 hm hS o3 A2 E6 (hmv0.trans (hmv5.trans m6)) ⟨⟨m, s3, T ++ [(true, nm, r)], by rw [Qe2]; exact L6, D6, by simp [p3], Qj4 p4 p3 (Qkt.2 ⟨hS, rfl⟩)⟩, fun i hi => ?_, fun i hi y hy => ?_⟩
 ·by_cases hin : i ≤ n
  ·rw [Qe3 hin]; exact hmt i hin
  ·have : i = n + 1 := by omega
   subst this
   rw [Qe2]
   intro y hy
   rcases hy with hy | hy
   ·exact hF y hy
   ·rw [hy]; exact ⟨hr, hm⟩
 ·by_cases hin : i ≤ n
  ·rw [Qe3 hin] at hy; exact hnms i hin y hy
  ·have : i = n + 1 := by omega
   subst this
   rw [Qe2] at hy
   rcases hy with hy | hy
   ·exact hnms n (Nat.le_refl _) y hy
   ·rw [hy]; exact hnm
theorem QmZ (hFm : FmtC C) {K : Bool → Int → Heap → Prop} (h : LG o A H x a n N) (hn : n ≤ 1000000) (hb : Bs o B H) (hv : VRow B t r) (hr : okR r)
 (k0 : mayR r = false → ∀ H2, H.le H2 → K false 4 H2)
 (k1 : mayR r = true → ¬ a n (nm, r) → ∀ H2, H.le H2 → K false 0 H2)
 (k2 : mayR r = true → a n (nm, r) → ∀ o2 A2 H2, Mv o A H o2 A2 H2 → LG o2 A2 H2 x (ext a n (QfN (a n) (nm, r))) (n + 1) (N + 2) → K true 0 H2) : QaC C (some (x, 0)) ⟨nm, t⟩ K H := by
 apply Qhl
 unfold QeD
 intro b1 n1 b3 n3
 have l1 := Heap.le_put n1 (g := .row [pv (some (x, 0))]) (m := true)
 have l3 := Heap.le_put n3 (g := .row (Qb.c (⟨nm, t⟩ : Qb))) (m := true)
 have c1 := l3 _ _ (show (H.put b1 (.row [pv (some (x, 0))])) b1 = some (true, .row [pv (some (x, 0))]) from Heap.put_same ..)
 have c3 : ((H.put b1 (.row [pv (some (x, 0))])).put b3 (.row (Qb.c (⟨nm, t⟩ : Qb)))) b3 = some (true, .row (Qb.c (⟨nm, t⟩ : Qb))) := Heap.put_same ..
 have h3n : H b3 = none := l1.none n3
 have lE := l1.trans l3
 generalize (H.put b1 (.row [pv (some (x, 0))])).put b3 (.row (Qb.c (⟨nm, t⟩ : Qb))) = E at *
 refine ⟨_, by rw [Qo c1]; rfl, Qi rfl (fL c3 (t := t) rfl ?_)⟩
 have hF := h.f n (Nat.le_refl _)
 refine QlI hFm hv (hb.le.trans lE) hr (fun hm E2 l4 => ?_) fun hm E2 l4 => ?_
 rotate_left
 ·intro b13 n13
  refine nwS (Qs rfl (k0 hm _ (lE.trans (l4.trans (Heap.le_put n13)))))
 intro b13 n13
 refine nwS (Qi rfl ?_)
 have l13 := Heap.le_put n13 (g := .row [sv (showK r)]) (m := true)
 have c13 : (E2.put b13 (.row [sv (showK r)])) b13 = some (true, .row [sv (showK r)]) := Heap.put_same ..
 have h13n : H b13 = none := lE.none (l4.none n13)
 have l5 := l4.trans l13
 generalize E2.put b13 (.row [sv (showK r)]) = E3 at *
 have d1 := l5 _ _ c1
 have d3 := l5 _ _ c3
 have lH := lE.trans l5
 have hL := h.up lH
 have hmt := h.f
 have hnms := h.nm
 obtain ⟨⟨m, s, T, p1, p2, p3, p4⟩, _, _⟩ := hL
 obtain ⟨L, hR⟩ := p1.rl
 refine ⟨E3, Heap.le.refl _, _, by rw [Qo d1]; rfl, _, rfl, p1.ld0 ⟨nm, by rw [Qo d3]; rfl, hR.look fun y is hl => ⟨_, by rw [Qo c13]; rfl, ?_⟩⟩⟩
 refine hl.look (fun r' hr' => hF _ hr') ⟨hr, hm⟩ (fun hS s2 hs => ?_) fun hS => ?_
 rotate_left
 ·intro b36 n36
  have l36 := Heap.le_put n36 (g := .row [slv Sl.nil]) (m := true)
  exact ⟨l36, nwS ⟨Heap.le_put n36, Qs rfl (k1 hm hS _ (lH.trans (Heap.le_put n36)))⟩⟩
 intro b36 n36
 have l36 := Heap.le_put n36 (g := .row [slv Sl.nil]) (m := true)
 refine ⟨l36, nwS ⟨Heap.le_put n36, Qi rfl ?_⟩⟩
 have l37 := Heap.le_put n36 (g := .row [slv s2]) (m := true)
 have c36 : (E3.put b36 (.row [slv s2])) b36 = some (true, .row [slv s2]) := Heap.put_same ..
 have h36n : H b36 = none := lH.none n36
 generalize E3.put b36 (.row [slv s2]) = E4 at *
 have l6 := lH.trans l37
 have hO := h.oh
 obtain ⟨w1, w2, w3, w4⟩ := Qf3 hO l6
 have e1 := l37 _ _ d1
 have e3 := l37 _ _ d3
 have e13 := l37 _ _ c13
 have a1 := w3 _ _ (Heap.new_some e1 n1)
 have a3 := w3 _ _ (Heap.new_some e3 h3n)
 have a13 := w3 _ _ (Heap.new_some e13 h13n)
 have a36 := w3 _ _ (Heap.new_some c36 h36n)
 have hrow : VRow (A.or (Heap.new H E4)) s2 r := hs.le Heap.le_or
 have g1 := (p1.up l37).grow Heap.le_or w1 w2
 have g2 := (p2.keep (o2 := o) fun c hw => ⟨hw, p1.oh.eq_le l37 hw⟩).grow (B := A.or (Heap.new H E4)) Heap.le_or
 have hAle : A.le (A.or (Heap.new H E4)) := Heap.le_or
 have hmv0 : Mv o A H o (A.or (Heap.new H E4)) E4 := ⟨Chg.of_le l6, hAle, w4⟩
 generalize A.or (Heap.new H E4) = A2 at *
 refine ⟨_, by rw [Qo e1]; rfl, ⟨nm, by rw [Qo e3]; rfl, ⟨_, by rw [Qo e13]; rfl, ?_⟩⟩⟩
 refine Qm7 (n := nm) g1 hF hS fun E5 c5 L5 => ?_
 have D5 := g2.chg g1.oh c5
 have hoff : ∀ {c : Nat} {e : Bool × GO}, A2 c = some e → (E5.off s) c = some e := fun {c e} hc => Heap.off_some (L5.oh.le _ _ hc) fun q hq e' => by
  have := L5.oh.ap _ _ (D5.ow q hq)
  rw [e', hc] at this; cases this
 have hx5 : (E5.off s) x = some (true, .row [mv (some m), slv s]) := Heap.off_some L5.hx fun q hq e' => by
  have := D5.ow q hq
  rw [e', L5.ox] at this; cases this
 refine ⟨E5.off s, Heap.off_le _ _, ⟨_, by rw [Qo (hoff a1)]; rfl, ⟨_, by rw [Qo (hoff a1)]; rfl, _, rfl, ⟨s, by rw [Qo hx5]; rfl, ⟨nm, by rw [Qo (hoff a3)]; rfl, ⟨_, by rw [Qo (hoff a13)]; rfl, ⟨s2, by rw [Qo (hoff a36)]; rfl, ?_⟩⟩⟩⟩⟩⟩⟩
 refine QlU (t := (false, nm, r)) L5 D5 (by omega) ⟨rfl, rfl, hrow, ⟨hr, hm⟩, b1, b3, b13, true, true, true, ⟨nm, t⟩, a1, a3, rfl, a13, .inr ⟨rfl, b36, true, s2, a36, hrow, rfl⟩⟩ fun o3 E6 s3 m6 L6 D6 => ?_
 have hmv5 : Mv o A2 E4 o A2 E5 := ⟨c5.imp fun _ _ => trivial, Heap.le.refl _, fun c hc => .inl hc⟩
 refine k2 hm hS o3 A2 E6 (hmv0.trans (hmv5.trans m6)) ⟨⟨m, s3, T ++ [(false, nm, r)], by rw [Qe2]; exact L6.more (by omega), D6, by simp [p3], Qj4 p4 p3 (Qks.2 ⟨hS, rfl⟩)⟩, fun i hi => ?_, fun i hi y hy => ?_⟩
 ·by_cases hin : i ≤ n
  ·rw [Qe3 hin]; exact hmt i hin
  ·have : i = n + 1 := by omega
   subst this
   rw [Qe2]
   exact fun y hy => hF y hy.1
 ·by_cases hin : i ≤ n
  ·rw [Qe3 hin] at hy; exact hnms i hin y hy
  ·have : i = n + 1 := by omega
   subst this
   rw [Qe2] at hy
   exact hnms n (Nat.le_refl _) y hy.1
theorem Qlo {K : Heap → Prop} (h : LG o A H x a n N) (k : ∀ H2, Mv o A H o A H2 → LG o A H2 x (fun _ => a n) 0 N → K H2) : Qa6 C (some (x, 0)) K H := by
 apply QfJ
 unfold Qc1
 have hf := h.f n (Nat.le_refl _)
 have hnm := h.nm n (Nat.le_refl _)
 obtain ⟨⟨m, s, T, p1, p2, p3, p4⟩, _, _⟩ := h
 refine Qs rfl ⟨_, rfl, _, p1.hx, by simp, ?_⟩
 have hc : Chg (fun _ => True) o H o (H.put x (.row [mv (some m), slv Sl.nil])) := Chg.put p1.ox trivial
 obtain ⟨L, hR⟩ := p1.rl
 refine k _ ⟨hc, Heap.le.refl _, fun c hc => .inl hc⟩ ⟨⟨m, Sl.nil, [], ⟨p1.oh.chg hc, Heap.put_same .., p1.ox, L, hR.keep fun c w hw hp => ⟨hw, Heap.put_ne _ _ _ fun e => ?_⟩⟩, ⟨⟨[], Own.nil _ 4, rfl, fun i t v hi => by simp at hi⟩, fun q hq => by cases hq⟩, rfl, fun i t hi => by simp at hi⟩, fun i hi => hf, fun i hi => hnm⟩
 rw [e, p1.ox] at hw; injection hw with hw; subst hw; exact hp
theorem Qm1 {K : Option (Nat × Nat) → Heap → Prop} (k : ∀ x o H2, H.le H2 → (∀ c w, o c = some w → H c = none) → LG o (fun _ => none) H2 x (fun _ => noS) 0 0 → K (some (x, 0)) H2) : QeN C K H := by
 apply Qke
 unfold QhX
 intro m nm x nx
 have l1 := Heap.le_put nm (g := .obj (.map #[] 0)) (m := true)
 have l2 := Heap.le_put nx (g := .row (Q4.c (⟨some m, Sl.nil⟩ : Q4))) (m := true)
 have hxm : x ≠ m := fun e => by subst e; rw [Heap.put_same] at nx; cases nx
 refine k x (fun c => if c = m then some .rels else if c = x then some .log else none) _ (l1.trans l2) (fun c w hw => ?_) ⟨⟨m, Sl.nil, [], ⟨⟨fun c e hc => (by cases hc), fun c w hw => rfl, fun c w hw => ?_⟩, Heap.put_same .., by rw [if_neg hxm, if_pos rfl], [], ⟨by rw [if_pos rfl], ?_, fun p hp => (by cases hp), fun n r hr => hr.elim, Nat.le_refl _⟩⟩, ⟨⟨[], Own.nil _ 4, rfl, fun i t v hi => by simp at hi⟩, fun q hq => by cases hq⟩, rfl, fun i t hi => by simp at hi⟩, fun i hi y hy => hy.elim, fun i hi y hy => hy.elim⟩
 ·split at hw
  ·rename_i e; rw [e]; exact nm
  ·split at hw
   ·rename_i e; rw [e]; exact l1.none nx
   ·cases hw
 ·split at hw
  ·rename_i e; rw [e, Heap.put_ne _ _ _ hxm.symm, Heap.put_same]; simp
  ·split at hw
   ·rename_i e; rw [e, Heap.put_same]; simp
   ·cases hw
 ·exact (MapS.new (H := H) (b := m)).same (by rw [Heap.put_ne _ _ _ hxm.symm])
end
end
section
open Go Go.Proofs
/-- what is called behind keeps the world's blocks: it has grown -/
theorem QlB {w1 w' : World} {H' : Heap} (h : St (ctxOf w1) w' H') : ∃ q os', w' = Go.Sort.grow (w1.drewN q) os' := by
 have h1 : w'.os = w1.os := congrArg (fun q : Os × (Nat → Question → Nat) => q.1) h.os.1
 have h2 : w'.tape = w1.tape := congrArg (fun q : Os × (Nat → Question → Nat) => q.2) h.os.1
 have h3 : w1.drawn ≤ w'.drawn := h.os.2
 have h4 : w'.output = w1.output := h.out
 have h5 : w1.heap.size ≤ w'.heap.size := h.old_le
 have h6 : ∀ i, i < w1.heap.size → w'.heap[i]? = w1.heap[i]? := fun i hi => h.old i hi
 refine ⟨w'.drawn - w1.drawn, w'.heap.extract w1.heap.size w'.heap.size, ?_⟩
 have hh : w'.heap = w1.heap ++ w'.heap.extract w1.heap.size w'.heap.size := by
  apply Array.ext_getElem?
  intro i
  rw [Array.getElem?_append]
  split
  ·exact h6 i ‹_›
  ·rw [Array.getElem?_extract]
   have e : w1.heap.size + (i - w1.heap.size) = i := by omega
   rw [e]
   split
   ·rfl
   ·rw [Array.getElem?_eq_none (by omega)]
 have hd : w'.drawn = w1.drawn + (w'.drawn - w1.drawn) := by omega
 unfold Go.Sort.grow World.drewN
 generalize w'.drawn - w1.drawn = q at *
 generalize w'.heap.extract w1.heap.size w'.heap.size = es at *
 obtain ⟨a1, a2, a3, a4, a5⟩ := w'
 obtain ⟨b1, b2, b3, b4, b5⟩ := w1
 simp only at *
 subst h1; subst h2; subst h4; subst hd; subst hh
 rfl
theorem Qnd {A B : Heap} (h : ∀ p v, rd A p = some v → rd B p = some v) : ∀ {cs : List Value} {p : Nat × Nat}, rds A p cs → rds B p cs
 | [], _, _ => trivial
 | v :: r, p, ⟨h1, h2⟩ => ⟨h _ _ h1, Qnd h h2⟩
theorem Ql2 {A B : Heap} (h : ∀ p v, rd A p = some v → rd B p = some v) {s : Sl} {cs : List Value} (hr : rdsl A s cs) : rdsl B s cs := by
 rcases hr with hr | ⟨a, p, b, c⟩
 ·exact .inl hr
 ·exact .inr ⟨a, p, b, Qnd h c⟩
mutual
theorem VIs.to {A B : Heap} (h : ∀ p v, rd A p = some v → rd B p = some v) : ∀ {v : V} {x : TV}, VIs A v x → VIs B v x
 | .mk k n s l, x, ⟨h1, h2, h3, xs, h4, h5, h6⟩ => ⟨h1, h2, h3, xs, Ql2 h h4, h5, VsAre.to h h6⟩
theorem VsAre.to {A B : Heap} (h : ∀ p v, rd A p = some v → rd B p = some v) : ∀ {l : List V} {xs : List TV}, VsAre A l xs → VsAre B l xs
 | [], [], _ => trivial
 | v :: l, x :: xs, ⟨h1, h2⟩ => ⟨VIs.to h h1, VsAre.to h h2⟩
end
theorem VRow.to {A B : Heap} (h : ∀ p v, rd A p = some v → rd B p = some v) {t : Sl} {l : List V} (hr : VRow A t l) : VRow B t l := by
 obtain ⟨xs, h1, h2, h3⟩ := hr
 exact ⟨xs, Ql2 h h1, h2, h3.to h⟩
/-- what is read in a part of the heap is read in a world that keeps its blocks -/
theorem QkW {C : Ctx} {w w1 : World} {A H : Heap} (hs : St C w H) (hA : A.le H) (hb : ∀ c, A c ≠ none → w1.heap[c]? = w.heap[c]?) (p : Nat × Nat) (v : Value) (h : rd A p = some v) : rd (heapOf w1) p = some v := by
 unfold rd at h
 split at h
 ·rename_i m g hg
  obtain ⟨ob, ho, hr⟩ := hs.blk _ _ _ (hA _ _ hg)
  have hw1 := (hb p.1 (by rw [hg]; simp)).trans ho
  cases hc : g.cells? with
  | none => rw [hc] at h; cases h
  | some c =>
   rw [hc] at h
   have : ∃ t fr, ob = .cells c.toArray t fr := by
    cases g <;> simp only [GO.cells?, Option.some.injEq, reduceCtorEq] at hc <;> cases ob <;> simp only [GO.rel] at hr
    ·subst hc; exact ⟨_, _, by rw [hr.1]⟩
    ·subst hc; exact ⟨_, _, by rw [hr.1]⟩
   obtain ⟨t, fr, e⟩ := this
   subst e
   unfold rd heapOf
   rw [hw1]
   exact h
 ·cases h
end
section
open Go Go.Proofs
/-- a row that can be compared, in a part of memory -/
def ZR (A : Heap) : Type := {z : Sl × List V // VRow A z.1 z.2 ∧ VBs z.2 ∧ z.2.length ≤ 140737488355328}
instance (A : Heap) : Inhabited (ZR A) := ⟨⟨(Sl.nil, []), ⟨[], .inl rfl, rfl, trivial⟩, trivial, Nat.zero_le _⟩⟩
def ZR.cf {A : Heap} (a b : ZR A) : Int := cmpR a.1.2 b.1.2
theorem QnA (A : Heap) : Go.Sort.SWO (ltOf (ZR.cf (A := A))) := by
 have hL := Lin.row
 refine ⟨fun x => ?_, fun x y z h1 h2 => ?_, fun x y z h1 h2 => ?_⟩
 ·have := hL.refl (a := x.1.2) trivial
  unfold ltOf ZR.cf; rw [this]; rfl
 ·have h1 := of_decide_eq_true h1
  have h2 := of_decide_eq_true h2
  have := (hL.tr x.1.2 y.1.2 z.1.2 trivial trivial trivial (by unfold ZR.cf at h1; omega) (by unfold ZR.cf at h2; omega)).2 (.inl h1)
  exact decide_eq_true this
 ·have h1 := of_decide_eq_false h1
  have h2 := of_decide_eq_false h2
  refine decide_eq_false ?_
  unfold ZR.cf at *
  have a1 := hL.anti x.1.2 y.1.2 trivial trivial
  have a2 := hL.anti y.1.2 z.1.2 trivial trivial
  have a3 := hL.anti x.1.2 z.1.2 trivial trivial
  have := (hL.tr z.1.2 y.1.2 x.1.2 trivial trivial trivial (by omega) (by omega)).1
  omega
theorem Qj2 {α : Type} [Inhabited α] {enc : α → Value} {w : World} {blk m c : Nat} {dk : Array α} {os : Array Obj} (hc : c ≠ blk) (hl : c < w.heap.size) : (sortWorld enc w blk 0 m dk os).heap[c]? = w.heap[c]? := by
 unfold sortWorld Go.Sort.grow Go.Sort.putRow Go.Sort.mapBlock Go.Sort.ahead
 simp only
 rw [Array.getElem?_append_left (by simpa using hl), Array.getElem?_modify, if_neg hc.symm]
theorem Qmn {C : Ctx} {w : World} {H A : Heap} {blk size : Nat} (hs : St C w H) (hA : A.le H) (hb : A blk = none) : CmpLays1 Tryz.prog 37 #[] (fun z : ZR A => slv z.1.1) ZR.cf blk 0 size w := by
 intro m os dk hd x y
 have hrd : ∀ p v, rd A p = some v → rd (heapOf (sortWorld (fun z : ZR A => slv z.1.1) w blk 0 m dk os)) p = some v := fun p v h =>
  QkW hs hA (fun c hc => Qj2 (fun e => hc (by rw [e]; exact hb)) (by
   cases hac : A c with
   | none => exact absurd hac hc
   | some e => exact hs.lt (hA _ _ hac))) p v h
 have hspec : QbJ (ctxOf (sortWorld (fun z : ZR A => slv z.1.1) w blk 0 m dk os)) x.1.1 y.1.1 (fun r _ => r = cmpR x.1.2 y.1.2) (heapOf (sortWorld (fun z : ZR A => slv z.1.1) w blk 0 m dk os)) :=
  QhQ (x.2.1.to hrd) (y.2.1.to hrd) x.2.2.2 y.2.2.2 x.2.2.1 y.2.2.1 rfl
 have hcall := hspec _ (Qh0 _)
 refine hcall.mono ?_
 rintro e w' ⟨v, H', rfl, hst, r, rfl, hr⟩
 subst hr
 exact ⟨rfl, QlB hst⟩
theorem QlD {C : Ctx} {w : World} {H A : Heap} {blk : Nat} {d : Array (ZR A)} {sp : List Value} (hs : St C w H) (hb : H blk = some (true, .row ((d.toList.map fun z => slv z.1.1) ++ sp))) : Go.Sort.Holds (fun z : ZR A => slv z.1.1) w blk 0 d := by
 intro j hj
 obtain ⟨ob, ho, hr⟩ := hs.blk _ _ _ hb
 cases ob <;> simp only [GO.rel] at hr
 rename_i c t fr
 obtain ⟨rfl, hfr⟩ := hr
 have hfr := hfr trivial
 have hl : 0 + j < ((d.toList.map fun z : ZR A => slv z.1.1) ++ sp).length := by simp; omega
 constructor
 ·unfold World.cell?
  simp only [ho]
  rw [if_neg (by simp), List.getElem?_toArray, Nat.zero_add, List.getElem?_append_left (by simpa using hj), List.getElem?_map, Array.getElem?_toList, Array.getElem?_eq_getElem hj]
  simp [hj]
 ·unfold World.frozen?
  simp only [ho]
  obtain ⟨lo, hi⟩ := fr
  simp only at hfr ⊢
  rcases hfr with h | h
  ·subst h; simp; try omega
  ·simp; try omega
theorem St.putR {α : Type} [Inhabited α] {enc : α → Value} {C : Ctx} {w : World} {H : Heap} {b : Nat} {cs sp : List Value} {d : Array α} (hs : St C w H) (hb : H b = some (true, .row (cs ++ sp))) (hl : cs.length = d.size) : St C (Go.Sort.putRow enc w b 0 d) (H.put b (.row ((d.toList.map enc) ++ sp))) := by
 obtain ⟨ob, ho, hr⟩ := hs.blk _ _ _ hb
 cases ob <;> simp only [GO.rel] at hr
 rename_i c t fr
 obtain ⟨rfl, hfr⟩ := hr
 have hfr := hfr trivial
 refine hs.set hb (o' := .cells (Go.Sort.putCells enc 0 d (cs ++ sp).toArray) t fr) ⟨rfl, rfl, ?_, fun x hx => ?_⟩ ⟨?_, fun _ => ?_⟩
 ·unfold Go.Sort.putRow Go.Sort.mapBlock
  simp only
  rw [Array.getElem?_modify, if_pos rfl, ho]
  rfl
 ·unfold Go.Sort.putRow Go.Sort.mapBlock
  simp only
  rw [Array.getElem?_modify, if_neg hx.symm]
 ·apply Array.ext_getElem?
  intro k
  unfold Go.Sort.putCells
  rw [Array.getElem?_mapIdx, List.getElem?_toArray, List.getElem?_toArray, Nat.zero_add]
  by_cases hk : k < d.size
  ·have hk1 : k < cs.length := by omega
   have hk2 : k < (d.toList.map enc).length := by simpa using hk
   have e1 : (cs ++ sp)[k]? = some cs[k] := by rw [List.getElem?_append_left hk1, List.getElem?_eq_getElem hk1]
   have e2 : (d.toList.map enc ++ sp)[k]? = some (enc d[k]) := by rw [List.getElem?_append_left hk2, List.getElem?_map, Array.getElem?_toList, Array.getElem?_eq_getElem hk]; rfl
   rw [e1, e2]
   simp [hk]
  ·have e1 : (cs ++ sp)[k]? = sp[k - d.size]? := by rw [List.getElem?_append_right (by omega), hl]
   have e2 : (d.toList.map enc ++ sp)[k]? = sp[k - d.size]? := by rw [List.getElem?_append_right (by simp; omega)]; simp
   rw [e1, e2]
   cases hsp : sp[k - d.size]? with
   | none => rfl
   | some v => simp [hk]
 ·simp only [List.length_append, List.length_map, Array.length_toList] at hfr ⊢
  omega
theorem St.sortW {α : Type} [Inhabited α] {enc : α → Value} {C : Ctx} {w : World} {H : Heap} {b n : Nat} {cs sp : List Value} {d : Array α} {os : Array Obj} (hs : St C w H) (hb : H b = some (true, .row (cs ++ sp))) (hl : cs.length = d.size) : St C (sortWorld enc w b 0 n d os) (H.put b (.row ((d.toList.map enc) ++ sp))) := by
 have h1 := St.putR (enc := enc) (hs.drewN n) hb hl
 have h2 := St.growL os.toList h1
 rw [Array.toArray_toList] at h2
 exact h2
theorem Qml {A : Heap} : ∀ (zs : List (Sl × List V)), (∀ z ∈ zs, VRow A z.1 z.2 ∧ VBs z.2 ∧ z.2.length ≤ 140737488355328) → ∃ dl : List (ZR A), dl.map (fun z => z.1) = zs
 | [], _ => ⟨[], rfl⟩
 | z :: zs, h => by
  obtain ⟨dl, e⟩ := Qml zs fun z hz => h z (List.mem_cons_of_mem _ hz)
  exact ⟨⟨z, h z (List.mem_cons_self ..)⟩ :: dl, congrArg (fun l => z :: l) e⟩
theorem Qk4 {C : Ctx} {H0 H : Heap} {s : Sl} {zs : List (Sl × List V)} {K : Heap → Prop} (ho : OwnF H0 H 1 s (zs.map fun z => slv z.1)) (hz : ∀ z ∈ zs, VRow (H.off s) z.1 z.2 ∧ VBs z.2 ∧ z.2.length ≤ 140737488355328) (hn : zs.length ≤ 1000000000)
 (k : ∀ (ws : List (Sl × List V)) H2, ws.Perm zs → ws.Pairwise (fun a b => cmpR a.2 b.2 ≤ 0) → OwnF H0 H2 1 s (ws.map fun z => slv z.1) → H2.off s = H.off s → K H2) : QB C s (.func (.func 37) (List.toArray []) (List.toArray [])) K H := by
 intro w hw
 obtain ⟨hle, ⟨hlen, hx, hcap, hcase⟩, hfr⟩ := ho
 have hlen : s.len = zs.length := by simpa using hlen.symm
 by_cases h0 : zs = []
 ·have hl0 : s.len = 0 := by rw [hlen, h0]; rfl
  have hall := AnyF.slices_SortFunc_none (P := Tryz.prog) (ρ := Tryz.laysSrt_ren) (by have L := Tryz.laysSrt; exact { L with }) s.ad s.cap (.func (.func 37) #[] #[]) w
  have harg : (#[.slice s.ad 0 s.cap, .func (.func 37) #[] #[]] : Array Value) = [slv s, .func (.func 37) (List.toArray []) (List.toArray [])].toArray := by
   unfold slv; rw [hl0]
  rw [← harg]
  refine hall.mono ?_
  rintro e w' ⟨rfl, rfl⟩
  exact ⟨.tuple #[], H, rfl, hw, rfl, k zs H (List.Perm.refl _) (by rw [h0]; exact .nil) ⟨hle, ⟨by simpa using hlen.symm, hx, hcap, hcase⟩, hfr⟩ rfl⟩
 ·rcases hcase with ⟨_, hc0⟩ | ⟨b, sp, hp, hb, hsz⟩
  ·have : zs.length = 0 := by omega
   exact absurd (List.length_eq_zero_iff.1 this) h0
  ·have hoff : (H.off s) b = none := Heap.off_fresh s H _ hp
   have had : s.ad = some ⟨b, 0, none⟩ := by unfold Sl.ad; rw [hp, hx]; rfl
   obtain ⟨dl, hdl⟩ := Qml zs hz
   have hdv : dl.toArray.toList.map (fun z : ZR (H.off s) => z.1) = zs := hdl
   have hdm : (dl.toArray.toList.map fun z : ZR (H.off s) => slv z.1.1) = zs.map fun z => slv z.1 := by
    rw [← hdv, List.map_map]; rfl
   have hds : dl.toArray.size = zs.length := by rw [← hdv]; simp
   generalize dl.toArray = d at *
   have hall := Any.slices_SortFunc Tryz.laysSrt (fun z : ZR (H.off s) => slv z.1.1) (fun z => rfl) ZR.cf (QnA _) 37 #[] b 0 s.cap d w (Qb3 Qd3) (Qmn hw (Heap.off_le s H) hoff) (QlD (sp := sp) hw (by rw [hdm]; exact hb)) (hw.lt hb) (by omega)
   have harg : (#[.slice (some ⟨b, 0, none⟩) d.size s.cap, .func (.func 37) #[] #[]] : Array Value) = [slv s, .func (.func 37) (List.toArray []) (List.toArray [])].toArray := by
    unfold slv; rw [had, hds, hlen]
   rw [← harg]
   refine hall.mono ?_
   rintro e w' ⟨rfl, d', n, os, hperm, hsort, rfl⟩
   obtain ⟨p1, _, p3⟩ := hperm
   have hP : d'.toList.Perm d.toList := by
    have e1 : d'.extract 0 d.size = d' := by rw [← p1]; simp
    have e2 : d.extract 0 d.size = d := by simp
    rw [e1, e2] at p3; exact p3
   have hwp : (d'.toList.map fun z : ZR (H.off s) => z.1).Perm zs := by
    have := hP.map (fun z : ZR (H.off s) => z.1)
    rw [hdv] at this; exact this
   have hst := St.sortW (enc := fun z : ZR (H.off s) => slv z.1.1) (n := n) (os := os) (d := d') hw hb (by rw [List.length_map, p1, hds])
   refine ⟨.tuple #[], _, rfl, hst, rfl, k (d'.toList.map fun z => z.1) _ hwp ?_ ⟨?_, ⟨?_, hx, hcap, .inr ⟨b, sp, hp, ?_, ?_⟩⟩, hfr⟩ ?_⟩
   ·rw [List.pairwise_map, List.pairwise_iff_getElem]
    intro i j hi hj hij
    have hj2 : j < d'.size := by simpa using hj
    have hi2 : i < d'.size := by omega
    have h1 := of_decide_eq_false (hsort i j (Nat.zero_le _) hij (by omega))
    have e1 : d'[i]! = d'[i] := by simp [hi2]
    have e2 : d'[j]! = d'[j] := by simp [hj2]
    rw [e1, e2] at h1
    unfold ZR.cf at h1
    have := Lin.row.anti d'[i].1.2 d'[j].1.2 trivial trivial
    simp only [Array.getElem_toList]
    omega
   ·intro c e hc
    have : c ≠ b := fun e' => by rw [e'] at hc; have := hfr _ hp; rw [this] at hc; cases hc
    rw [Heap.put_ne _ _ _ this]; exact hle _ _ hc
   ·rw [List.length_map, hwp.length_eq]; omega
   ·rw [Heap.put_same, List.map_map]; rfl
   ·rw [List.map_map] at *
    simp only [List.length_append, List.length_map, Array.length_toList] at hsz ⊢
    omega
   ·funext c
    unfold Heap.off
    split
    ·rfl
    ·rename_i hc
     have : c ≠ b := fun e => hc (by rw [hp, e]; rfl)
     rw [Heap.put_ne _ _ _ this]
end
section
open Go Go.Proofs
theorem Qm5 : ∀ x y : Str, x < y ↔ vcmpS x y < 0
 | [], [] => by simp [vcmpS]
 | [], b :: y => by simp [vcmpS]
 | a :: x, [] => by simp [vcmpS]
 | a :: x, b :: y => by
  rw [List.cons_lt_cons_iff, Qm5 x y]
  simp only [vcmpS]
  by_cases he : a = b
  ·subst he
   rw [if_pos rfl]
   exact ⟨fun h => h.elim (fun h => absurd h (fun h => Nat.lt_irrefl _ h)) fun h => h.2, fun h => .inr ⟨rfl, h⟩⟩
  ·rw [if_neg he, QgE]
   refine ⟨fun h => h.elim (fun h => ?_) fun h => absurd h.1 he, fun h => .inl ?_⟩
   ·have := UInt8.lt_iff_toNat_lt.1 h; omega
   ·exact UInt8.lt_iff_toNat_lt.2 (by omega)
theorem QkL (x y : Str) : x ≤ y ↔ vcmpS x y ≤ 0 := by
 have h1 : x ≤ y ↔ ¬ y < x := Iff.rfl
 rw [h1, Qm5]
 have := Lin.txt.anti y x trivial trivial
 omega
theorem QlE {C : Ctx} {w : World} {H : Heap} {blk : Nat} {d : Array Str} {sp : List Value} (hs : St C w H) (hb : H blk = some (true, .row ((d.toList.map sv) ++ sp))) : Go.Sort.Holds Go.Proofs.encStr w blk 0 d := by
 intro j hj
 obtain ⟨ob, ho, hr⟩ := hs.blk _ _ _ hb
 cases ob <;> simp only [GO.rel] at hr
 rename_i c t fr
 obtain ⟨rfl, hfr⟩ := hr
 have hfr := hfr trivial
 have hl : 0 + j < ((d.toList.map sv) ++ sp).length := by simp; omega
 constructor
 ·unfold World.cell?
  simp only [ho]
  rw [if_neg (by simp), List.getElem?_toArray, Nat.zero_add, List.getElem?_append_left (by simpa using hj), List.getElem?_map, Array.getElem?_toList, Array.getElem?_eq_getElem hj]
  simp [hj, sv]
 ·unfold World.frozen?
  simp only [ho]
  obtain ⟨lo, hi⟩ := fr
  simp only at hfr ⊢
  rcases hfr with h | h
  ·subst h; simp; try omega
  ·simp; try omega
theorem QmU {C : Ctx} {H0 H : Heap} {s : Sl} {zs : List Str} {K : Heap → Prop} (ho : OwnF H0 H 1 s (zs.map sv)) (hn : zs.length ≤ 1000000000)
 (k : ∀ (ws : List Str) H2, ws.Perm zs → ws.Pairwise (fun a b => vcmpS a b ≤ 0) → OwnF H0 H2 1 s (ws.map sv) → K H2) : QaT C s K H := by
 intro w hw
 obtain ⟨hle, ⟨hlen, hx, hcap, hcase⟩, hfr⟩ := ho
 have hlen : s.len = zs.length := by simpa using hlen.symm
 by_cases h0 : zs = []
 ·have hl0 : s.len = 0 := by rw [hlen, h0]; rfl
  have hall := Any.slices_Sort_string_none (P := Tryz.prog) (ρ := Tryz.lays190_ren) Tryz.lays190 s.ad s.cap w
  have harg : (#[.slice s.ad 0 s.cap] : Array Value) = [slv s].toArray := by
   unfold slv; rw [hl0]
  rw [← harg]
  refine hall.mono ?_
  rintro e w' ⟨rfl, rfl⟩
  exact ⟨.tuple #[], H, rfl, hw, rfl, k zs H (List.Perm.refl _) (by rw [h0]; exact .nil) ⟨hle, ⟨by simpa using hlen.symm, hx, hcap, hcase⟩, hfr⟩⟩
 ·rcases hcase with ⟨_, hc0⟩ | ⟨b, sp, hp, hb, hsz⟩
  ·have : zs.length = 0 := by omega
   exact absurd (List.length_eq_zero_iff.1 this) h0
  ·have had : s.ad = some ⟨b, 0, none⟩ := by unfold Sl.ad; rw [hp, hx]; rfl
   have hall := Any.slices_Sort_string Tryz.lays190 b 0 s.cap zs w (QlE (d := zs.toArray) (sp := sp) hw hb) (hw.lt hb) (by omega)
   have harg : (#[.slice (some ⟨b, 0, none⟩) zs.length s.cap] : Array Value) = [slv s].toArray := by
    unfold slv; rw [had, hlen]
   rw [← harg]
   refine hall.mono ?_
   rintro e w' ⟨rfl, n, os, rfl⟩
   have hP : (zs.mergeSort fun x y => decide (x ≤ y)).Perm zs := List.mergeSort_perm _ _
   have hS : (zs.mergeSort fun x y => decide (x ≤ y)).Pairwise fun a b => vcmpS a b ≤ 0 := by
    have := List.pairwise_mergeSort (le := fun x y : Str => decide (x ≤ y)) (fun a b c h1 h2 => by
     rw [decide_eq_true_iff, QkL] at *
     exact (Lin.txt.tr a b c trivial trivial trivial h1 h2).1) (fun a b => by
     rw [Bool.or_eq_true, decide_eq_true_iff, decide_eq_true_iff, QkL, QkL]
     have := Lin.txt.anti a b trivial trivial
     omega) zs
    exact this.imp fun {a b} h => (QkL a b).1 (of_decide_eq_true h)
   generalize (zs.mergeSort fun x y => decide (x ≤ y)) = ws at *
   have hst := St.sortW (enc := Go.Proofs.encStr) (n := n) (os := os) (d := ws.toArray) hw hb (by rw [List.length_map, List.size_toArray, hP.length_eq])
   refine ⟨.tuple #[], _, rfl, hst, rfl, k ws _ hP hS ⟨?_, ⟨?_, hx, hcap, .inr ⟨b, sp, hp, Heap.put_same .., ?_⟩⟩, hfr⟩⟩
   ·intro c e hc
    have : c ≠ b := fun e' => by rw [e'] at hc; have := hfr _ hp; rw [this] at hc; cases hc
    rw [Heap.put_ne _ _ _ this]; exact hle _ _ hc
   ·rw [List.length_map, hP.length_eq]; omega
   ·simp only [List.length_append, List.length_map] at hsz ⊢
    rw [hP.length_eq]; omega
end
section
open Go Go.Proofs
section
variable {C : Ctx} {H A : Heap}
theorem Qk9 {x y : Str} {K : Int → Heap → Prop} (k : K (vcmpS x y) H) : QA C x y K H := by
 have nan : ∀ {s : Str} {K : Bool → Heap → Prop}, K false H → Q5 C s K H := fun {s K} k => by
  apply Qcu
  unfold Qbt
  simpa using k
 apply QbT
 unfold QaY
 obtain ⟨h1, h2, h3, h4⟩ := vslt x y
 refine nan (nan (Qi rfl (Qi rfl ?_)))
 refine ift.of (fun h => ?_) (fun h => ?_)
 ·rw [h1] at h
  have := of_decide_eq_true h
  rw [show vcmpS x y = -1 by omega] at k; exact k
 ·have hlt : ¬ vcmpS x y < 0 := by rw [h1] at h; exact of_decide_eq_false h
  rw [h, Bool.false_or]
  refine ift.of (fun h => ?_) (fun h => ?_)
  ·have hne : x ≠ y := by simpa using h
   have : vcmpS x y ≠ 0 := fun e => hne (h2.1 e)
   rw [show vcmpS x y = 1 by omega] at k; exact k
  ·have he : x = y := by simpa using h
   rw [show vcmpS x y = 0 from h2.2 he] at k; exact k
theorem QnK {b : Nat} {x y : Int} {m : Bool} {K : Int → Heap → Prop} (h : H b = some (m, .row [.int .i64 x, .int .i64 y])) (k : K (if x ≠ 0 then x else y) H) : Qbu C (Sl.of (some (b, 0)) 2 2) K H := by
 apply QfB
 unfold QdW
 refine ⟨fun i D => D = H ∧ (i = 0 ∨ (i = 1 ∧ x = 0) ∨ (i = 2 ∧ x = 0 ∧ y = 0)), fun i _ => 2 - i.toNat, ⟨rfl, .inl rfl⟩, ?_⟩
 rintro i D ⟨rfl, h0 | ⟨h0, h1⟩ | ⟨h0, h1, h2⟩⟩ <;> subst h0
 ·refine Qs rfl ⟨(b, 0), rfl, rfl, by omega, by simp [Sl.of], ⟨x, by rw [Qo h]; rfl, ?_⟩⟩
  refine ift.of (fun h => ?_) (fun h => ?_)
  ·rw [if_pos (by simpa using h)] at k; exact k
  ·exact ⟨⟨rfl, .inr (.inl ⟨rfl, by simpa using h⟩)⟩, by show 2 - (1 : Int).toNat < 2 - (0 : Int).toNat; decide⟩
 ·refine Qs rfl ⟨(b, 0), rfl, rfl, by omega, by simp [Sl.of], ⟨y, by rw [Qo h]; rfl, ?_⟩⟩
  rw [if_neg (by omega)] at k
  refine ift.of (fun h => k) (fun h => ?_)
  exact ⟨⟨rfl, .inr (.inr ⟨rfl, h1, by simpa using h⟩)⟩, by show 2 - (2 : Int).toNat < 2 - (1 : Int).toNat; decide⟩
 ·refine Qi rfl ?_
  rw [if_neg (by omega), h2] at k; exact k
/-- a change in memory -/
structure CgIs (A : Heap) (v : Qc) (d : NR) : Prop where
 rel : v.Row.Rel = d.1
 row : VRow A v.Row.L d.2
 b : VBs d.2
 l : d.2.length ≤ 140737488355328
theorem Qmb {v w : Qc} {d e : NR} {K : Int → Heap → Prop} (hv : CgIs A v d) (hw : CgIs A w e) (hA : A.le H) (k : ∀ H2, H.le H2 → K (cmpN d e) H2) : QbI C v w K H := by
 apply Qfo
 unfold QcI
 intro b1 n1 b3 n3
 have l1 := Heap.le_put n1 (g := .row (Qc.c v)) (m := true)
 have l3 := Heap.le_put n3 (g := .row (Qc.c w)) (m := true)
 have c1 := l3 _ _ (show (H.put b1 (.row (Qc.c v))) b1 = some (true, .row (Qc.c v)) from Heap.put_same ..)
 have c3 : ((H.put b1 (.row (Qc.c v))).put b3 (.row (Qc.c w))) b3 = some (true, .row (Qc.c w)) := Heap.put_same ..
 have lE := l1.trans l3
 generalize (H.put b1 (.row (Qc.c v))).put b3 (.row (Qc.c w)) = E at *
 have hAE := hA.trans lE
 refine ⟨E, Heap.le.refl _, ⟨v.Row.Rel, by rw [Qo c1]; rfl, ⟨w.Row.Rel, by rw [Qo c3]; rfl, ⟨v.Row.L, by rw [Qo c1]; rfl, ⟨w.Row.L, by rw [Qo c3]; rfl, ?_⟩⟩⟩⟩⟩
 refine Qk9 ⟨Heap.le.refl _, ?_⟩
 refine QhQ (hv.row.le hAE) (hw.row.le hAE) hv.l hw.l hv.b hw.b ⟨Heap.le.refl _, ?_⟩
 intro b22 n22
 have l22 := Heap.le_put n22 (g := .row [.int .i64 (vcmpS v.Row.Rel w.Row.Rel), .int .i64 (cmpR d.2 e.2)]) (m := true)
 refine ⟨l22, QnK (Heap.put_same ..) ⟨l22, ?_⟩⟩
 rw [hv.rel, hw.rel]
 exact k _ (lE.trans (by rw [hv.rel, hw.rel] at l22; exact l22))
end
/-- changes that can be compared, in a part of memory -/
def ZC (A : Heap) : Type := {z : Qc × NR // CgIs A z.1 z.2}
instance (A : Heap) : Inhabited (ZC A) := ⟨⟨(⟨⟨[], Sl.nil⟩, 0⟩, ([], [])), ⟨rfl, ⟨[], .inl rfl, rfl, trivial⟩, trivial, Nat.zero_le _⟩⟩⟩
def ZC.cf {A : Heap} (a b : ZC A) : Int := cmpN a.1.2 b.1.2
def ZC.en {A : Heap} (z : ZC A) : List Value := Qc.c z.1.1
theorem QnO (A : Heap) : Go.Sort.SWO (ltOf (ZC.cf (A := A))) := by
 have hL := Lin.nr
 refine ⟨fun x => ?_, fun x y z h1 h2 => ?_, fun x y z h1 h2 => ?_⟩
 ·have := hL.refl (a := x.1.2) trivial
  unfold ltOf ZC.cf; rw [this]; rfl
 ·have h1 := of_decide_eq_true h1
  have h2 := of_decide_eq_true h2
  have := (hL.tr x.1.2 y.1.2 z.1.2 trivial trivial trivial (by unfold ZC.cf at h1; omega) (by unfold ZC.cf at h2; omega)).2 (.inl h1)
  exact decide_eq_true this
 ·have h1 := of_decide_eq_false h1
  have h2 := of_decide_eq_false h2
  refine decide_eq_false ?_
  unfold ZC.cf at *
  have a1 := hL.anti x.1.2 y.1.2 trivial trivial
  have a2 := hL.anti y.1.2 z.1.2 trivial trivial
  have a3 := hL.anti x.1.2 z.1.2 trivial trivial
  have := (hL.tr z.1.2 y.1.2 x.1.2 trivial trivial trivial (by omega) (by omega)).1
  omega
theorem Qjl {α : Type} [Inhabited α] {enc : α → List Value} {kk : Nat} {w : World} {blk m c : Nat} {dk : Array α} {os : Array Obj} (hc : c ≠ blk) (hl : c < w.heap.size) : (Go.Proofs.sortWorldK enc kk w blk 0 m dk os).heap[c]? = w.heap[c]? := by
 unfold Go.Proofs.sortWorldK Go.Sort.putRowK Go.Sort.grow Go.Sort.putRow Go.Sort.mapBlock Go.Sort.ahead
 simp only
 rw [Array.getElem?_append_left (by simpa using hl), Array.getElem?_modify, if_neg hc.symm]
theorem Qly {C : Ctx} {w : World} {H A : Heap} {blk size : Nat} (hs : St C w H) (hA : A.le H) (hb : A blk = none) : CmpLays Tryz.prog 34 #[] (ZC.en (A := A)) 3 ZC.cf blk 0 size w := by
 intro m os dk hd x y
 have hrd : ∀ p v, rd A p = some v → rd (heapOf (Go.Proofs.sortWorldK (ZC.en (A := A)) 3 w blk 0 m dk os)) p = some v := fun p v h =>
  QkW hs hA (fun c hc => Qjl (fun e => hc (by rw [e]; exact hb)) (by
   cases hac : A c with
   | none => exact absurd hac hc
   | some e => exact hs.lt (hA _ _ hac))) p v h
 have hx : CgIs (heapOf (Go.Proofs.sortWorldK (ZC.en (A := A)) 3 w blk 0 m dk os)) x.1.1 x.1.2 := ⟨x.2.rel, x.2.row.to hrd, x.2.b, x.2.l⟩
 have hy : CgIs (heapOf (Go.Proofs.sortWorldK (ZC.en (A := A)) 3 w blk 0 m dk os)) y.1.1 y.1.2 := ⟨y.2.rel, y.2.row.to hrd, y.2.b, y.2.l⟩
 have hspec : QbI (ctxOf (Go.Proofs.sortWorldK (ZC.en (A := A)) 3 w blk 0 m dk os)) x.1.1 y.1.1 (fun r _ => r = cmpN x.1.2 y.1.2) (heapOf (Go.Proofs.sortWorldK (ZC.en (A := A)) 3 w blk 0 m dk os)) :=
  Qmb hx hy (Heap.le.refl _) fun _ _ => rfl
 have hcall := hspec _ (Qh0 _)
 refine hcall.mono ?_
 rintro e w' ⟨v, H', rfl, hst, r, rfl, hr⟩
 subst hr
 exact ⟨rfl, QlB hst⟩
theorem Qiy {α : Type} [Inhabited α] {enc : α → List Value} {k : Nat} (hk : ∀ x, (enc x).length = k) (hk0 : 0 < k) (d : Array α) : (Go.Sort.flatK enc k d).toList = d.toList.flatMap enc := by
 have hfl : ∀ (l : List α), (l.flatMap enc).length = l.length * k := by
  intro l
  induction l with
  | nil => simp
  | cons a l ih => rw [List.flatMap_cons, List.length_append, ih, hk, List.length_cons, Nat.add_mul]; omega
 apply List.ext_getElem?
 intro t
 by_cases ht : t < d.size * k
 ·have hd : t / k < d.size := (Nat.div_lt_iff_lt_mul hk0).2 ht
  have h1 : (Go.Sort.flatK enc k d).toList[t]? = some ((enc d[t / k]!)[t % k]!) := by
   rw [Array.getElem?_toList, Array.getElem?_eq_getElem (by simpa using ht)]
   have := Go.Sort.get_flatK enc k d t ht
   rw [getElem!_pos _ _ (by simpa using ht)] at this
   rw [this]
  have hm : t % k < (enc d[t / k]!).length := by rw [hk]; exact Nat.mod_lt _ hk0
  have h2 := QdM enc k hk d.toList (t / k) d[t / k]! (by rw [Array.getElem?_toList, Array.getElem?_eq_getElem hd, getElem!_pos d _ hd]) (t % k) _ (List.getElem?_eq_getElem hm)
  rw [h1, getElem!_pos (enc d[t / k]!) _ hm]
  rw [show t / k * k + t % k = t by rw [Nat.mul_comm]; exact Nat.div_add_mod t k] at h2
  exact h2.symm
 ·rw [List.getElem?_eq_none (by simp; omega), List.getElem?_eq_none (by rw [hfl]; simp; omega)]
theorem Qmj {A : Heap} : ∀ (zs : List (Qc × NR)), (∀ z ∈ zs, CgIs A z.1 z.2) → ∃ dl : List (ZC A), dl.map (fun z => z.1) = zs
 | [], _ => ⟨[], rfl⟩
 | z :: zs, h => by
  obtain ⟨dl, e⟩ := Qmj zs fun z hz => h z (List.mem_cons_of_mem _ hz)
  exact ⟨⟨z, h z (List.mem_cons_self ..)⟩ :: dl, congrArg (fun l => z :: l) e⟩
theorem Qmr {C : Ctx} {w : World} {H : Heap} {blk : Nat} {d : Array Value} {sp : List Value} (hs : St C w H) (hb : H blk = some (true, .row (d.toList ++ sp))) : Go.Sort.Holds id w blk 0 d := by
 intro j hj
 obtain ⟨ob, ho, hr⟩ := hs.blk _ _ _ hb
 cases ob <;> simp only [GO.rel] at hr
 rename_i c t fr
 obtain ⟨rfl, hfr⟩ := hr
 have hfr := hfr trivial
 have hl : 0 + j < (d.toList ++ sp).length := by simp; omega
 constructor
 ·unfold World.cell?
  simp only [ho]
  rw [if_neg (by simp), List.getElem?_toArray, Nat.zero_add, List.getElem?_append_left (by simpa using hj), Array.getElem?_toList, Array.getElem?_eq_getElem hj]
  simp [hj]
 ·unfold World.frozen?
  simp only [ho]
  obtain ⟨lo, hi⟩ := fr
  simp only at hfr ⊢
  rcases hfr with h | h
  ·subst h; simp; try omega
  ·simp; try omega
theorem QmT {C : Ctx} {H0 H : Heap} {s : Sl} {zs : List (Qc × NR)} {K : Heap → Prop} (ho : OwnF H0 H 3 s (zs.flatMap fun z => Qc.c z.1)) (hz : ∀ z ∈ zs, CgIs (H.off s) z.1 z.2) (hn : zs.length ≤ 1000000000)
 (k : ∀ (ws : List (Qc × NR)) H2, ws.Perm zs → ws.Pairwise (fun a b => cmpN a.2 b.2 ≤ 0) → OwnF H0 H2 3 s (ws.flatMap fun z => Qc.c z.1) → H2.off s = H.off s → K H2) : QR C s (.func (.func 34) (List.toArray []) (List.toArray [])) K H := by
 intro w hw
 have hfl : ∀ (l : List (Qc × NR)), (l.flatMap fun z => Qc.c z.1).length = l.length * 3 := by
  intro l
  induction l with
  | nil => rfl
  | cons a l ih => rw [List.flatMap_cons, List.length_append, ih, List.length_cons, Nat.add_mul]; show 3 + _ = _; omega
 obtain ⟨hle, ⟨hlen, hx, hcap, hcase⟩, hfr⟩ := ho
 rw [hfl] at hlen
 have hlen : s.len = zs.length := by omega
 by_cases h0 : zs = []
 ·have hl0 : s.len = 0 := by rw [hlen, h0]; rfl
  have hall := AnyF.slices_SortFunc_none (P := Tryz.prog) (ρ := Tryz.laysSrk_ren) Tryz.laysSrk s.ad s.cap (.func (.func 34) #[] #[]) w
  have harg : (#[.slice s.ad 0 s.cap, .func (.func 34) #[] #[]] : Array Value) = [slv s, .func (.func 34) (List.toArray []) (List.toArray [])].toArray := by
   unfold slv; rw [hl0]
  rw [← harg]
  refine hall.mono ?_
  rintro e w' ⟨rfl, rfl⟩
  exact ⟨.tuple #[], H, rfl, hw, rfl, k zs H (List.Perm.refl _) (by rw [h0]; exact .nil) ⟨hle, ⟨by rw [hfl]; omega, hx, hcap, hcase⟩, hfr⟩ rfl⟩
 ·rcases hcase with ⟨_, hc0⟩ | ⟨b, sp, hp, hb, hsz⟩
  ·have : zs.length = 0 := by omega
   exact absurd (List.length_eq_zero_iff.1 this) h0
  ·have hoff : (H.off s) b = none := Heap.off_fresh s H _ hp
   have had : s.ad = some ⟨b, 0, none⟩ := by unfold Sl.ad; rw [hp, hx]; rfl
   obtain ⟨dl, hdl⟩ := Qmj zs hz
   have hdv : dl.toArray.toList.map (fun z : ZC (H.off s) => z.1) = zs := hdl
   have hdm : (dl.toArray.toList.flatMap ZC.en) = zs.flatMap fun z => Qc.c z.1 := by
    rw [← hdv, List.flatMap_map]; rfl
   have hds : dl.toArray.size = zs.length := by rw [← hdv]; simp
   generalize dl.toArray = d at *
   have hk3 : ∀ z : ZC (H.off s), (ZC.en z).length = 3 := fun z => rfl
   have hkd := Qiy hk3 (by omega) d
   have h1c : ∀ z : ZC (H.off s), ∀ v ∈ ZC.en z, v.oneCell' = true := fun z v hv => by
    simp only [ZC.en, Qc.c, List.mem_cons, List.not_mem_nil, or_false] at hv
    rcases hv with rfl | rfl | rfl <;> rfl
   have hall := AnyQ.slices_SortFunc Tryz.laysSrk 3 Tryz.isAgg43 Tryz.sizeOf43 ZC.en hk3 h1c ZC.cf (QnO _) 34 #[] b 0 s.cap d w (Qb3 Qfu) (Qly hw (Heap.off_le s H) hoff) (Qmr (sp := sp) hw (by rw [hkd, hdm]; exact hb)) (hw.lt hb) (by omega)
   have harg : (#[.slice (some ⟨b, 0, none⟩) d.size s.cap, .func (.func 34) #[] #[]] : Array Value) = [slv s, .func (.func 34) (List.toArray []) (List.toArray [])].toArray := by
    unfold slv; rw [had, hds, hlen]
   rw [← harg]
   refine hall.mono ?_
   rintro e w' ⟨rfl, d', n, os, hperm, hsort, rfl⟩
   obtain ⟨p1, _, p3⟩ := hperm
   have hP : d'.toList.Perm d.toList := by
    have e1 : d'.extract 0 d.size = d' := by rw [← p1]; simp
    have e2 : d.extract 0 d.size = d := by simp
    rw [e1, e2] at p3; exact p3
   have hwp : (d'.toList.map fun z : ZC (H.off s) => z.1).Perm zs := by
    have := hP.map (fun z : ZC (H.off s) => z.1)
    rw [hdv] at this; exact this
   have hdm' : (d'.toList.flatMap ZC.en) = (d'.toList.map fun z : ZC (H.off s) => z.1).flatMap fun z => Qc.c z.1 := by
    rw [List.flatMap_map]; rfl
   have hst := St.sortW (enc := id) (n := n) (os := os) (d := Go.Sort.flatK ZC.en 3 d') hw hb (by rw [Go.Sort.size_flatK, p1, hfl, hds])
   rw [List.map_id, Qiy hk3 (by omega) d', hdm'] at hst
   refine ⟨.tuple #[], _, rfl, hst, rfl, k (d'.toList.map fun z => z.1) _ hwp ?_ ⟨?_, ⟨?_, hx, hcap, .inr ⟨b, sp, hp, Heap.put_same .., ?_⟩⟩, hfr⟩ ?_⟩
   ·rw [List.pairwise_map, List.pairwise_iff_getElem]
    intro i j hi hj hij
    have hj2 : j < d'.size := by simpa using hj
    have hi2 : i < d'.size := by omega
    have h1 := of_decide_eq_false (hsort i j (Nat.zero_le _) hij (by omega))
    have e1 : d'[i]! = d'[i] := by simp [hi2]
    have e2 : d'[j]! = d'[j] := by simp [hj2]
    rw [e1, e2] at h1
    unfold ZC.cf at h1
    have := Lin.nr.anti d'[i].1.2 d'[j].1.2 trivial trivial
    simp only [Array.getElem_toList]
    omega
   ·intro c e hc
    have : c ≠ b := fun e' => by rw [e'] at hc; have := hfr _ hp; rw [this] at hc; cases hc
    rw [Heap.put_ne _ _ _ this]; exact hle _ _ hc
   ·rw [hfl, hwp.length_eq]; omega
   ·rw [List.length_append, hfl] at hsz ⊢
    rw [hwp.length_eq]; omega
   ·funext c
    unfold Heap.off
    split
    ·rfl
    ·rename_i hc
     have : c ≠ b := fun e => hc (by rw [hp, e]; rfl)
     rw [Heap.put_ne _ _ _ this]
end
section
open Go Go.Proofs
/-- rows told: rising, those of R, each in new memory -/
structure Told (H H2 : Heap) (R : List V → Prop) (T : List (List V)) (s : Sl) (ys : List Sl) : Prop where
 og : Og H H2 T s ys
 len : ys.length = T.length
 rise : Rise T
 mem : ∀ r, r ∈ T ↔ R r
/-- names told -/
structure NmTold (H H2 : Heap) (S : Sta) (W : List Str) (s : Sl) : Prop where
 own : OwnF H H2 1 s (W.map sv)
 rise : RiseT W
 mem : ∀ n, n ∈ W ↔ ∃ r, S (n, r)
section
variable {C : Ctx} {o : Own_} {A H H2 D : Heap} {x n N it m : Nat} {a : Nat → Sta} {R : List V → Prop} {nm : Str}
theorem OwnF.del {H0 H : Heap} {z : Nat} {s : Sl} {cs : List Value} {e : Bool × GO} (h : OwnF H0 H z s cs) (hi : H0 it = some e) : OwnF (H0.del it) (H.del it) z s cs := by
 obtain ⟨h1, ⟨h2, h3, h4, h5⟩, h6⟩ := h
 refine ⟨fun c e' hc => ?_, ⟨h2, h3, h4, ?_⟩, h6.le (Heap.del_le _ _)⟩
 ·by_cases hci : c = it
  ·rw [hci, Heap.del_same] at hc; cases hc
  ·rw [Heap.del_ne _ hci] at hc ⊢; exact h1 _ _ hc
 ·rcases h5 with h5 | ⟨b, sp, q1, q2, q3⟩
  ·exact .inl h5
  ·refine .inr ⟨b, sp, q1, ?_, q3⟩
   have : b ≠ it := fun e' => by have := h6 _ q1; rw [e', hi] at this; cases this
   rw [Heap.del_ne _ this]; exact q2
theorem QhB {s : Sl} : (H.del it).off s = (H.off s).del it := by
 funext c
 unfold Heap.off Heap.del
 by_cases h1 : c = it
 ·rw [if_pos h1, if_pos h1]; split <;> rfl
 ·rw [if_neg h1, if_neg h1]
theorem Qfw {g : GO} {mu : Bool} : (H.put it g mu).del it = H.del it := by
 funext c
 by_cases h1 : c = it
 ·rw [h1, Heap.del_same, Heap.del_same]
 ·rw [Heap.del_ne _ h1, Heap.del_ne _ h1, Heap.put_ne _ _ _ h1]
theorem QkG (hit : H it = none) : H.del it = H := by
 funext c
 by_cases hc : c = it
 ·rw [hc, Heap.del_same, hit]
 ·rw [Heap.del_ne _ hc]
theorem Made.del {r : List V} {t : Sl} {e : Bool × GO} (h : Made D H2 r t) (hi : D it = some e) : Made (D.del it) (H2.del it) r t := by
 have hn : ∀ c, D c = none → c ≠ it := fun c hc e' => by rw [e', hi] at hc; cases hc
 refine ⟨fun c e' hc => ?_, h.row.le fun c e' hc => ?_, ?_, h.cp⟩
 ·by_cases hci : c = it
  ·rw [hci, Heap.del_same] at hc; cases hc
  ·rw [Heap.del_ne _ hci] at hc ⊢; exact h.le _ _ hc
 ·obtain ⟨q1, q2⟩ := Heap.new_inv hc
  exact Heap.new_some (by rw [Heap.del_ne _ (hn c q1)]; exact q2) (by rw [Heap.del_ne _ (hn c q1)]; exact q1)
 ·obtain ⟨j, hj⟩ := h.sp
  exact ⟨j, hj.to fun c e' hc he => ⟨by rw [Heap.del_ne _ (hn c hc)]; exact hc, by rw [Heap.del_ne _ (hn c hc)]; exact he⟩⟩
theorem Og.more {B : Heap} {ls : List (List V)} {s : Sl} {ys : List Sl} {r : List V} (h : Og H B ls s ys) (hl : ys.length = ls.length) : Og H B (ls ++ [r]) s ys :=
 ⟨h.own, by simp; omega, fun j l y hj hy => h.done j l y (by
  have := (List.getElem?_eq_some_iff.1 hy).1
  rw [List.getElem?_append_left (by omega)] at hj; exact hj) hy⟩
theorem Qmk : ∀ {ys : List Sl} {ls : List (List V)}, ys.length = ls.length → (ys.zip ls).map (fun z => z.1) = ys ∧ (ys.zip ls).map (fun z => z.2) = ls
 | [], [], _ => ⟨rfl, rfl⟩
 | y :: ys, l :: ls, h => by
  obtain ⟨h1, h2⟩ := Qmk (ys := ys) (ls := ls) (by simpa using h)
  simp [h1, h2]
theorem QnP {ys : List Sl} {ls : List (List V)} {z : Sl × List V} (h : z ∈ ys.zip ls) : ∃ j : Nat, ls[j]? = some z.2 ∧ ys[j]? = some z.1 := by
 obtain ⟨j, hj⟩ := List.mem_iff_getElem?.1 h
 rw [List.getElem?_zip_eq_some] at hj
 exact ⟨j, hj.2, hj.1⟩
theorem It.same {α κ : Type} [DecidableEq κ] {ke : κ → Value} {enc : α → Value} {it m : Nat} {l vs : List (κ × α)} (h : It ke enc H it m l vs) (h1 : H2 it = H it) (h2 : H2 m = H m) : It ke enc H2 it m l vs := by
 obtain ⟨⟨es, ck, seen, q1, q2, q3⟩, h4, h5, h6⟩ := h
 exact ⟨⟨es, ck, seen, ⟨by rw [h2]; exact q1.at_, q1.ents, q1.st⟩, by rw [h1]; exact q2, q3⟩, h4, h5, h6⟩
theorem It.at_ {α κ : Type} [DecidableEq κ] {ke : κ → Value} {enc : α → Value} {it m : Nat} {l vs : List (κ × α)} (h : It ke enc H it m l vs) : (∃ ob, H it = some (true, .obj ob)) ∧ ∃ ob, H m = some (true, .obj ob) := by
 obtain ⟨⟨es, ck, seen, q1, q2, q3⟩, h4, h5, h6⟩ := h
 exact ⟨⟨_, q2⟩, _, q1.at_⟩
/-- the list of the rows of a leaf -/
theorem QnC {K : Sl → Heap → Prop} {y : Option Nat} (hl : LfIs A H y R) (hA : A.le H) (hF : ∀ r, R r → inR r) {M0 : Nat} (hM0 : M0 ≤ 1000000) (hN : ∀ e M, y = some e → RM A H e R M → ∃ M', RM A H e R M' ∧ M' ≤ M0)
 (k : ∀ T s ys H2, Told H H2 R T s ys → T.length ≤ M0 → K s H2) :
 rgM sv slv y (fun b9 H10 =>
 lp (α := Sl) Sl.nil H10 (fun x11 J12 H13 =>
 nxB sv slv b9 (fun b14 H15 =>
 ift b14
 (enM sv slv b9 (fun k17 x18 =>
 QaD C x18 (fun r20 H21 =>
 apd ([slv Sl.nil]) 24 x11 ([slv r20]) 1 (fun r22 H23 =>
 J12 r22 H23) H21) H15) H15)
 (QB C x11 (.func (.func 37) (List.toArray []) (List.toArray []) : Value) (fun H24 =>
 K x11 H24) H15)) H13)) H := by
  rcases hl with ⟨rfl, hn⟩ | ⟨m, M, rfl, hMM⟩
  ·refine .inl ⟨rfl, fun it hit => ?_⟩
   refine ⟨fun s D => s = Sl.nil ∧ D = H.put it (.obj (.mapIter none 0 #[] 0)), fun _ _ => 0, ⟨rfl, rfl⟩, ?_⟩
   rintro _ D ⟨rfl, rfl⟩
   refine .inl ⟨Heap.put_same .., Qi rfl ?_⟩
   refine Qk4 (H0 := H) (zs := []) ⟨Heap.le_put hit, Own.nil _ 1, Fresh.nil _⟩ (fun z hz => by cases hz) (by simp) fun ws H3 hw hs hown hoff => ?_
   have : ws = [] := List.Perm.eq_nil hw
   subst this
   exact k [] Sl.nil [] H3 ⟨⟨hown, Nat.le_refl _, fun j l y hj => by simp at hj⟩, rfl, .nil, fun r => ⟨fun h => (by cases h), fun h => absurd h (hn r)⟩⟩ (Nat.zero_le _)
  ·obtain ⟨M', hRM, hM'⟩ := hN m M rfl hMM
   obtain ⟨gm, hgm⟩ := hRM.isS
   obtain ⟨l, h1, h2, h3, h4⟩ := hRM
   refine .inr ⟨m, l, rfl, h1, fun it ob hit hI => ?_⟩
   refine ⟨fun s D => ∃ vs ls ys, It sv slv D it m l vs ∧ Og H (D.del it) ls s ys ∧ ys.length = ls.length ∧ ls.map showK = vs.map (fun p => p.1) ∧ ∀ r ∈ ls, R r, fun _ D => l.length - itN D it, ⟨[], [], [], hI, ?_, rfl, rfl, fun r hr => by cases hr⟩, ?_⟩
   ·rw [Qfw, QkG hit]; exact Og.nil
   ·rintro s D ⟨vs, ls, ys, hIt, hO, hyl, hk, hR⟩
    have hlsl : ls.length = vs.length := by have := congrArg List.length hk; simpa using this
    refine .inr ⟨m, l, vs, hIt, fun hall => ?_, fun p hp hnv ob2 hI2 => ?_⟩
    ·refine Qi rfl ?_
     have hmem : ∀ r, r ∈ ls ↔ R r := fun r => ⟨hR r, fun hr => by
      obtain ⟨s', hs'⟩ := h3 r hr
      have : showK r ∈ ls.map showK := by rw [hk]; exact List.mem_map.2 ⟨_, hall _ hs', rfl⟩
      obtain ⟨r', hr', e⟩ := List.mem_map.1 this
      rw [← (hF r' (hR r' hr')).inj (hF r hr) e]; exact hr'⟩
     have hnd : ls.Nodup := by
      have h5 : (ls.map showK).Nodup := by rw [hk, List.Nodup, List.pairwise_map]; exact hIt.nd
      rw [List.Nodup, List.pairwise_map] at h5
      exact h5.imp fun {a b} hab e => hab (by rw [e])
     have hfew := hIt.few
     obtain ⟨z1, z2⟩ := Qmk hyl
     have hdone : ∀ z ∈ ys.zip ls, Made H ((D.del it).off s) z.2 z.1 := fun z hz => by
      obtain ⟨j, a, b⟩ := QnP hz
      exact hO.done j _ _ a b
     have hoffle : ((D.del it).off s).le (D.off s) := by rw [QhB]; exact Heap.del_le _ _
     refine Qk4 (H0 := H) (zs := ys.zip ls) ?_ (fun z hz => ?_) ?_ fun ws H3 hw hs hown hoff => ?_
     ·rw [show (ys.zip ls).map (fun z => slv z.1) = ((ys.zip ls).map (fun z => z.1)).map slv by rw [List.map_map]; rfl, z1]
      exact hO.own.up (Heap.del_le _ _)
     ·have hr : R z.2 := hR _ (by rw [← z2]; exact List.mem_map.2 ⟨z, hz, rfl⟩)
      have hf := hF _ hr
      refine ⟨(hdone z hz).row2.le hoffle, hf.b, by have := hf.tookR.len; omega⟩
     ·rw [List.length_zip, hyl, Nat.min_self]; omega
     ·have hTp : (ws.map fun z => z.2).Perm ls := by
       have := hw.map fun z : Sl × List V => z.2
       rw [z2] at this; exact this
      have hTn : (ws.map fun z => z.2).Nodup := hTp.symm.nodup hnd
      refine k (ws.map fun z => z.2) s (ws.map fun z => z.1) H3 ⟨⟨?_, by simp, fun j l' y hj hy => ?_⟩, by simp, ?_, fun r => hTp.mem_iff.trans (hmem r)⟩ (by rw [hTp.length_eq]; omega)
      ·rw [List.map_map]; exact hown
      ·rw [List.getElem?_map] at hj hy
       cases hwj : ws[j]? with
       | none => rw [hwj] at hj; cases hj
       | some z =>
        rw [hwj] at hj hy
        simp only [Option.map_some, Option.some.injEq] at hj hy
        subst hj; subst hy
        rw [hoff]
        exact (hdone z (hw.subset (List.mem_of_getElem? hwj))).up hoffle
      ·have hs2 : (ws.map fun z => z.2).Pairwise fun a b => cmpR a b ≤ 0 := by rw [List.pairwise_map]; exact hs
       refine List.Pairwise.imp_of_mem (fun {a b} ha hb hab => ?_) (hs2.and hTn)
       have ra := (hF _ (hR _ (hTp.subset ha))).m
       have rb := (hF _ (hR _ (hTp.subset hb))).m
       have hne : cmpR a b ≠ 0 := fun e => hab.2 ((QjD ra rb).1 e)
       have := hab.1
       omega
    ·refine Qs rfl ⟨p.1, p.2, ⟨m, l, vs, hI2⟩, ?_⟩
     obtain ⟨r, hr, hpk, hv⟩ := h2 p hp
     obtain ⟨⟨ob3, a1⟩, ob4, a2⟩ := hI2.at_
     have hAit : A it = none := hA.none hit
     have hHD : H.le (D.del it) := hO.own.le
     have hDel : ((D.put it (.obj ob2)).del it) = D.del it := Qfw
     have hle : (D.del it).le (D.put it (.obj ob2)) := by rw [← hDel]; exact Heap.del_le _ _
     refine Qjq hv ((hA.trans hHD).trans hle) (by have := (hF r hr).z; omega) fun t2 H3 hM => ?_
     have hM2 := hM.del a1
     rw [hDel] at hM2
     have hOwn3 : Own H3 1 s (ys.map slv) := (hO.own.own.le hle).le hM.le
     have hsit : ∀ q, s.p = some q → q.1 ≠ it := fun q hq e => by
      obtain ⟨g, hg⟩ := hO.own.own.mine hq
      rw [e, Heap.del_same] at hg; cases hg
     have hsm : ∀ q, s.p = some q → q.1 ≠ m := fun q hq e => by
      have := hO.own.fresh q hq
      rw [e, hgm] at this; cases this
     have hit3 : (H3.off s) it = some (true, .obj ob3) := Heap.off_some (hM.le _ _ a1) hsit
     have hm3 : (H3.off s) m = some (true, .obj ob4) := Heap.off_some (hM.le _ _ a2) hsm
     have hsl : s.len = ys.length := by have := hOwn3.1; simpa using this.symm
     have hfew := hIt.few
     refine QcN (zc := [slv Sl.nil]) hOwn3.off rfl (by omega) (by omega) fun r2 H4 q1 q2 => ?_
     have e1 := hI2.cnt
     have e2 := hI2.few
     have e3 := hIt.cnt
     have hI4 : It sv slv H4 it m l (vs ++ [p]) := hI2.same ((q1.le _ _ hit3).trans a1.symm) ((q1.le _ _ hm3).trans a2.symm)
     have e4 := hI4.cnt
     simp only [List.length_append, List.length_singleton] at e1 e2 e4
     refine ⟨⟨vs ++ [p], ls ++ [r], ys ++ [t2], hI4, ?_, by simp [hyl], by rw [List.map_append, List.map_append, hk]; simp [hpk], fun r' hr' => ?_⟩, by dsimp only; omega⟩
     ·have hq : OwnF ((H3.del it).off s) (H4.del it) 1 r2 (ys.map slv ++ [slv t2]) := by rw [QhB]; exact q1.del hit3
      have hi : ys.length < (ls ++ [r]).length := by simp; omega
      refine Og.step (hO.more hyl) hi ?_ hq
      have : (ls ++ [r])[ys.length] = r := by
       rw [List.getElem_append_right (by omega)]; simp
      rw [this]; exact hM2
     ·rcases List.mem_append.1 hr' with hr' | hr'
      ·exact hR r' hr'
      ·rw [List.mem_singleton] at hr'; rw [hr']; exact hr
theorem RelsL.lookN {S : Sta} {L : List (Str × Option Nat)} {X : Str → Prop} {K : Option Nat → Bool → Prop} (h : RelsL o A H m S N L X) (k : ∀ x is, LfIs A H x (fun r => S (nm, r)) → (∀ e M, x = some e → RM A H e (fun r => S (nm, r)) M → ∃ M', RM A H e (fun r => S (nm, r)) M' ∧ M' ≤ N) → K x is) : lkM sv mv none (some m) nm K H := by
 refine h.ms.is.lk (fun x hx => ?_) fun hx => ?_
 ·obtain ⟨e, q1, _, q3, _⟩ := h.lf _ (QaV hx)
  dsimp only at q1 q3
  exact k _ _ (.inr ⟨e, N, q1, q3⟩) fun e' M he _ => by rw [q1] at he; injection he with he; subst he; exact ⟨N, q3, Nat.le_refl _⟩
 ·refine k _ _ (.inl ⟨rfl, fun r hr => ?_⟩) fun e M he => by cases he
  obtain ⟨e, he⟩ := h.al nm r hr
  rw [Qba h.ms.is.nd he] at hx; cases hx
theorem Qkd {K : Sl → Heap → Prop} (h : LG o A H x a n N) (hN : N ≤ 1000000) (k : ∀ T s ys H2, Told H H2 (fun r => a n (nm, r)) T s ys → T.length ≤ N → K s H2) : Qak C (some (x, 0)) nm K H := by
 apply Qg3
 unfold Qee
 have hf := h.f n (Nat.le_refl _)
 obtain ⟨⟨m, s, T, p1, _⟩, _⟩ := h
 obtain ⟨L, hR⟩ := p1.rl
 refine Qi rfl ⟨_, rfl, p1.ld0 (hR.lookN fun y is hl hM => ?_)⟩
 exact QnC hl p1.oh.le (fun r hr => hf _ hr) hN hM k
theorem Qkw {K : Sl → Heap → Prop} (h : LG o A H x a n N) (hN : N ≤ 1000000) (k : ∀ W s H2, NmTold H H2 (a n) W s → W.length ≤ N → K s H2) : Qbj C (some (x, 0)) K H := by
 apply Qgo
 unfold Qdv
 obtain ⟨⟨m, s0, T, p1, _⟩, _⟩ := h
 obtain ⟨L, hR⟩ := p1.rl
 obtain ⟨gm, hgm⟩ := hR.mine
 have hLN := hR.ln
 refine Qi rfl ⟨_, rfl, p1.ld0 ?_⟩
 refine .inr ⟨m, L, rfl, hR.ms, fun it ob hit hI => ?_⟩
 refine ⟨fun s D => ∃ vs, It sv mv D it m L vs ∧ OwnF H (D.del it) 1 s (vs.map fun p => sv p.1), fun _ D => L.length - itN D it, ⟨[], hI, ?_⟩, ?_⟩
 ·rw [Qfw, QkG hit]; exact OwnF.nil H 1
 ·rintro s D ⟨vs, hIt, hO⟩
  have hfew := hIt.few
  refine .inr ⟨m, L, vs, hIt, fun hall => ?_, fun p hp hnv ob2 hI2 => ?_⟩
  ·refine Qi rfl ?_
   refine QmU (H0 := H) (zs := vs.map fun p => p.1) (by rw [List.map_map]; exact hO.up (Heap.del_le _ _)) (by rw [List.length_map]; omega) fun ws H3 hw hs hown => ?_
   have hnd : (vs.map fun p => p.1).Nodup := by rw [List.Nodup, List.pairwise_map]; exact hIt.nd
   refine k ws s H3 ⟨hown, ?_, fun nm => ?_⟩ (by rw [hw.length_eq, List.length_map]; omega)
   ·refine List.Pairwise.imp (fun {a b} hab => ?_) (hs.and (hw.symm.nodup hnd))
    have : vcmpS a b ≠ 0 := fun e => hab.2 ((vslt a b).2.1.1 e)
    have := hab.1
    omega
   ·rw [hw.mem_iff, List.mem_map]
    constructor
    ·rintro ⟨p, hp, rfl⟩
     obtain ⟨e, _, _, _, q4⟩ := hR.lf p (hIt.sub p hp)
     exact q4 id
    ·rintro ⟨r, hr⟩
     obtain ⟨e, he⟩ := hR.al nm r hr
     exact ⟨_, hall _ he, rfl⟩
  ·refine Qs rfl ⟨p.1, p.2, ⟨m, L, vs, hI2⟩, ?_⟩
   obtain ⟨⟨ob3, a1⟩, ob4, a2⟩ := hI2.at_
   have hDel : ((D.put it (.obj ob2)).del it) = D.del it := Qfw
   have hle : (D.del it).le (D.put it (.obj ob2)) := by rw [← hDel]; exact Heap.del_le _ _
   have hOwn3 : Own (D.put it (.obj ob2)) 1 s (vs.map fun p => sv p.1) := hO.own.le hle
   have hsit : ∀ q, s.p = some q → q.1 ≠ it := fun q hq e => by
    obtain ⟨g, hg⟩ := hO.own.mine hq
    rw [e, Heap.del_same] at hg; cases hg
   have hsm : ∀ q, s.p = some q → q.1 ≠ m := fun q hq e => by
    have := hO.fresh q hq
    rw [e, hgm] at this; cases this
   have hit3 : ((D.put it (.obj ob2)).off s) it = some (true, .obj ob3) := Heap.off_some a1 hsit
   have hm3 : ((D.put it (.obj ob2)).off s) m = some (true, .obj ob4) := Heap.off_some a2 hsm
   have hsl : s.len = vs.length := by have := hOwn3.1; simpa using this.symm
   refine QcN (zc := [sv []]) hOwn3.off rfl (by omega) (by omega) fun r2 H4 q1 q2 => ?_
   have e1 := hI2.cnt
   have e2 := hI2.few
   have e3 := hIt.cnt
   have hI4 : It sv mv H4 it m L (vs ++ [p]) := hI2.same ((q1.le _ _ hit3).trans a1.symm) ((q1.le _ _ hm3).trans a2.symm)
   have e4 := hI4.cnt
   simp only [List.length_append, List.length_singleton] at e1 e2 e4
   refine ⟨⟨vs ++ [p], hI4, ?_⟩, by dsimp only; omega⟩
   have hq : OwnF (((D.put it (.obj ob2)).del it).off s) (H4.del it) 1 r2 ((vs.map fun p => sv p.1) ++ [sv p.1]) := by rw [QhB]; exact q1.del hit3
   rw [hDel] at hq
   rw [List.map_append]
   refine ⟨(fun c e hc => hq.le _ _ (Heap.off_some (hO.le _ _ hc) fun q hq' e' => ?_)), hq.own, fun q hq' => ?_⟩
   ·have := hO.fresh q hq'
    rw [e', hc] at this; cases this
   ·have h1 := hq.fresh q hq'
    cases hH : H q.1 with
    | none => rfl
    | some e =>
     rw [Heap.off_some (hO.le _ _ hH) fun q2 hq2 e' => by
      have := hO.fresh q2 hq2
      rw [e', hH] at this; cases this] at h1
     cases h1
end
end
section
open Go Go.Proofs
section
variable {C : Ctx} {o o2 : Own_} {A B H H2 D : Heap} {x m n N yl : Nat} {s : Sl} {S : Sta} {T : List Th} {t : Th} {a : Nat → Sta}
theorem Chg.tmp {P : Uw → Prop} {it : Nat} {g : GO} {mu : Bool} (h : Chg P o H o2 D) (hn : H it = none) (ho : ∀ w, o2 it = some w → False) : Chg P o H o2 (D.put it g mu) := by
 refine ⟨fun c e hc hw => ?_, h.up, fun c w hw => ?_, fun c hc => ?_⟩
 ·have : c ≠ it := fun e' => by rw [e', hn] at hc; cases hc
  rw [Heap.put_ne _ _ _ this]; exact h.kp c e hc hw
 ·have : c ≠ it := fun e' => ho w (by rw [← e']; exact hw)
  rw [Heap.put_ne _ _ _ this]; exact h.dn c w hw
 ·have : c ≠ it := fun e' => hc (by rw [e']; exact hn)
  rw [Heap.put_ne _ _ _ this]; exact h.li c hc
theorem Dn.at_ (h : Dn o A H x s T) {i : Nat} (hi : T[i]? = some t) : ∃ v b, ThIs A x t v ∧ s.p = some (b, 0) ∧ rds H (b, i * 4) (Qd.c v) := by
 obtain ⟨⟨xs, ⟨q1, q2, q3, q4⟩, h2, h3⟩, ho⟩ := h
 have hlt : i < T.length := (List.getElem?_eq_some_iff.1 hi).1
 have hx : xs[i]? = some xs[i] := List.getElem?_eq_getElem (by omega)
 rw [Qd0] at q1
 rcases q4 with ⟨w1, w2⟩ | ⟨b, sp, w1, w2, w3⟩
 ·omega
 ·refine ⟨_, b, h3 i t _ hi hx, w1, Qev fun j v hj => ?_⟩
  rw [Qo w2]
  have := QdM Qd.c 4 Qmd xs i _ hx j v hj
  rw [List.getElem?_append_left (List.getElem?_eq_some_iff.1 this).1]; exact this
/-- while things are undone: those behind j are -/
structure BkI (o : Own_) (A H B : Heap) (x m : Nat) (s : Sl) (a : Nat → Sta) (T : List Th) (n N yl : Nat) (o2 : Own_) (H2 : Heap) (j : Nat) : Prop where
 lc : Lc o2 A H2 x m s (a j) (N + 2 * (n - j))
 dn : Dn o2 A H2 x s T
 bs : Bs o2 B H2
 cg : Chg mapP o H o2 H2
 ny : o2 yl = none
theorem BkI.puty {j : Nat} {g : GO} (h : BkI o A H B x m s a T n N yl o2 H2 j) (hy : H yl = none) (hB : B yl = none) (hA : A yl = none) : BkI o A H B x m s a T n N yl o2 (H2.put yl g) j := by
 have hne : ∀ c w, o2 c = some w → c ≠ yl := fun c w hw e => by rw [e, h.ny] at hw; cases hw
 refine ⟨h.lc.keep (fun c e hc => ?_) fun c w hw => Heap.put_ne _ _ _ (hne c w hw), h.dn.keep fun c hw => ⟨hw, Heap.put_ne _ _ _ (hne c _ hw)⟩, ⟨fun c e hc => ?_, h.bs.ap⟩, h.cg.tmp hy (fun w hw => by rw [h.ny] at hw; cases hw), h.ny⟩
 ·have : c ≠ yl := fun e' => by rw [e', hA] at hc; cases hc
  rw [Heap.put_ne _ _ _ this]; exact h.lc.oh.le c e hc
 ·have : c ≠ yl := fun e' => by rw [e', hB] at hc; cases hc
  rw [Heap.put_ne _ _ _ this]; exact h.bs.le c e hc
theorem BkI.up {j : Nat} {H3 : Heap} (h : BkI o A H B x m s a T n N yl o2 H2 j) (hle : H2.le H3) : BkI o A H B x m s a T n N yl o2 H3 j :=
 ⟨h.lc.up hle, h.dn.keep fun c hw => ⟨hw, h.lc.oh.eq_le hle hw⟩, h.bs.up hle, h.cg.trans (Chg.of_le hle), h.ny⟩
/-- what yield is called with, and what follows -/
def BkY (o : Own_) (A H B : Heap) (x m : Nat) (s : Sl) (a : Nat → Sta) (T : List Th) (n N yl : Nat) (r : Loop) (us : List Value) (K : Bool → Heap → Prop) (H2 : Heap) : Prop :=
 ∃ (i : Int) (j : Nat) (t : Th) (v : Qd) (o2 : Own_), us = [.int .i64 i, .agg (Qd.c v).toArray] ∧ T[j]? = some t ∧ ThIs A x t v ∧ BkI o A H B x m s a T n N yl o2 H2 (j + 1) ∧ H2 yl = some (true, Rf.lrec r .ready none) ∧
  ∀ o3 H3, BkI o A H B x m s a T n N yl o3 H3 j → H3 yl = some (true, Rf.lrec r .ready none) → K true H3
theorem Qlm {jj : Int} {K : Int → Heap → Prop} (h : LG o A H x a n N) (hnn : n ≤ 1000000) (k1 : ¬ (0 ≤ jj ∧ jj ≤ n) → K 1 H) (k0 : 0 ≤ jj → jj ≤ n → ∀ o2 H2, Mv o A H o2 A H2 → LG o2 A H2 x a jj.toNat (N + 2 * (n - jj.toNat)) → K 0 H2) : QaU C (some (x, 0)) jj K H := by
 apply Qg1
 unfold Qec
 refine Qk6 h ?_
 by_cases hj : 0 ≤ jj ∧ jj ≤ n
 rotate_left
 ·rw [if_neg hj]
  exact Qs rfl (k1 hj)
 rw [if_pos hj]
 refine Qi rfl ?_
 obtain ⟨h0, h1⟩ := hj
 obtain ⟨mk, rfl⟩ := Int.eq_ofNat_of_zero_le h0
 have hmk : mk ≤ n := by omega
 have hmkn : (mk : Int).toNat ≤ n := by omega
 have hmts := h.f
 have hnms := h.nm
 have hO := h.oh
 obtain ⟨⟨m, s, T, p1, p2, p3, p4⟩, _, _⟩ := h
 obtain ⟨⟨xs, q1, q2, q3⟩, q4⟩ := p2
 have p2 : Dn o A H x s T := ⟨⟨xs, q1, q2, q3⟩, q4⟩
 have hsl : s.len = n := by have h1 := q1.1; rw [Qd0] at h1; omega
 have hcap := q1.2.2.1
 refine ⟨_, rfl, p1.ld1 ⟨by omega, by omega, by omega, by omega, _, rfl, ?_⟩⟩
 generalize ht8 : (⟨if (s.cap : Int) = (mk : Int) then s.p else s.p.map (fun p => (p.1, p.2 + (mk : Int).toNat * 4)), ((s.len : Int) - (mk : Int)).toNat, ((s.cap : Int) - (mk : Int)).toNat, if (s.cap : Int) = (mk : Int) ∨ (mk : Int).toNat * 4 = 0 then s.x else none⟩ : Sl) = t8
 have h8l : t8.len = n - mk := by rw [← ht8]; show ((s.len : Int) - (mk : Int)).toNat = _; omega
 apply QaN
 unfold QP
 intro b1 nb1
 have l1 := Heap.le_put nb1 (g := .row [slv t8]) (m := true)
 have c1 : (H.put b1 (.row [slv t8])) b1 = some (true, .row [slv t8]) := Heap.put_same ..
 generalize H.put b1 (.row [slv t8]) = H1 at *
 refine ⟨70, [pv (some (b1, 0))], rfl, Qaz, fun D yl r hD hyl hne => ?_⟩
 have hHD : H D = none := l1.none hD
 have hHy : H yl = none := l1.none hyl
 have hAy : A yl = none := hO.le.none hHy
 have hAD : A D = none := hO.le.none hHD
 have ob1 : o b1 = none := by
  cases e : o b1 with
  | none => rfl
  | some w => exact absurd nb1 (hO.oh _ _ e)
 have oD : o D = none := by
  cases e : o D with
  | none => rfl
  | some w => exact absurd hHD (hO.oh _ _ e)
 have oy : o yl = none := by
  cases e : o yl with
  | none => rfl
  | some w => exact absurd hHy (hO.oh _ _ e)
 have hle2 : H1.le (H1.put D (.obj (.deferred (some [])))) := Heap.le_put hD
 have hyD : (H1.put D (.obj (.deferred (some [])))) yl = none := by rw [Heap.put_ne _ _ _ hne.symm]; exact hyl
 have bs0 : Bs o (Heap.wo_ o (H1.put D (.obj (.deferred (some []))))) (H1.put D (.obj (.deferred (some [])))) := Bs.wo
 have hBy : (Heap.wo_ o (H1.put D (.obj (.deferred (some []))))) yl = none := by rw [Heap.wo_none oy]; exact hyD
 have hBb : (Heap.wo_ o (H1.put D (.obj (.deferred (some []))))) b1 = some (true, .row [slv t8]) := by rw [Heap.wo_none ob1]; exact hle2 _ _ c1
 have hBD : (Heap.wo_ o (H1.put D (.obj (.deferred (some []))))) D = some (true, .obj (.deferred (some []))) := by rw [Heap.wo_none oD]; exact Heap.put_same ..
 have I0 : BkI o A H (Heap.wo_ o (H1.put D (.obj (.deferred (some []))))) x m s a T n N yl o (H1.put D (.obj (.deferred (some [])))) n := by
  have hh := l1.trans hle2
  exact ⟨by rw [show n - n = 0 by omega]; exact p1.up hh, p2.keep fun c hw => ⟨hw, hO.eq_le hh hw⟩, bs0, Chg.of_le hh, oy⟩
 generalize H1.put D (.obj (.deferred (some []))) = HD at *
 generalize Heap.wo_ o HD = B0 at *
 refine ⟨BkY o A H B0 x m s a T n N yl r, fun us K2 H2 hY => ?_, fun hy => ?_⟩
 ·-- a round
  obtain ⟨i, j, t, v, o2, rfl, htj, hth, hI, hyr, hK⟩ := hY
  refine ⟨hyr, rfl, i, v, rfl, ?_⟩
  intro b42 n42
  refine ⟨hth.cell, nwT rfl ?_⟩
  have l42 := Heap.le_put n42 (g := .row (Qd.c v)) (m := true)
  have c42 : (H2.put b42 (.row (Qd.c v))) b42 = some (true, .row (Qd.c v)) := Heap.put_same ..
  have ny : b42 ≠ yl := fun e => by rw [← e, n42] at hyr; cases hyr
  have hI2 := hI.up l42
  have hyr2 := l42 _ _ hyr
  generalize H2.put b42 (.row (Qd.c v)) = H3 at *
  refine ⟨hyr2, ?_⟩
  have hI3 := hI2.puty (g := Rf.lrec r .busy none) hHy hBy hAy
  have hy3 : (H3.put yl (Rf.lrec r .busy none)) yl = some (true, Rf.lrec r .busy none) := Heap.put_same ..
  have c43 : (H3.put yl (Rf.lrec r .busy none)) b42 = some (true, .row (Qd.c v)) := by rw [Heap.put_ne _ _ _ ny]; exact c42
  generalize H3.put yl (Rf.lrec r .busy none) = H4 at *
  refine ⟨v.undo_, by rw [Qo c43]; rfl, ?_⟩
  have hlt : j < T.length := (List.getElem?_eq_some_iff.1 htj).1
  refine Qmf hI3.lc (hmts (j + 1) (by omega)) hth.und (p4 j t htj) fun o3 H5 hc5 L5 => ?_
  have hnew : o3 yl = none := by
   cases e : o3 yl with
   | none => rfl
   | some w =>
    rcases hc5.dn _ _ e with e1 | ⟨e1, _⟩
    ·rw [hI3.ny] at e1; cases e1
    ·rw [hy3] at e1; cases e1
  have hy5 : H5 yl = some (true, Rf.lrec r .busy none) := hc5.kp _ _ hy3 fun w hw => by rw [hI3.ny] at hw; cases hw
  have I5 : BkI o A H B0 x m s a T n N yl o3 H5 j := ⟨L5.more (by omega), hI3.dn.chg hI3.lc.oh hc5, hI3.bs.mv (A := A) (A2 := A) ⟨hc5.imp fun _ _ => trivial, Heap.le.refl _, fun c hc => .inl hc⟩, hI3.cg.trans hc5, hnew⟩
  exact ⟨rfl, hy5, hK o3 _ (I5.puty hHy hBy hAy) (Heap.put_same ..)⟩
 ·refine Spec.mono (Qau C hy (b1, 0) (fun H4 => ∃ st pend, H4 yl = some (true, Rf.lrec r st pend) ∧ st ≠ .busy ∧ (pend = none ∧ _ ∨ pend = some .ret ∧ _)) (HD.put yl (Rf.lrec r .ready none)) ?_) fun u H4 hh => hh.2
  have I1 := I0.puty (g := Rf.lrec r .ready none) hHy hBy hAy
  have hy1 : (HD.put yl (Rf.lrec r .ready none)) yl = some (true, Rf.lrec r .ready none) := Heap.put_same ..
  unfold QI
  generalize HD.put yl (Rf.lrec r .ready none) = H2 at *
  refine ⟨t8, by rw [Qo (I1.bs.le _ _ hBb)]; rfl, ?_⟩
  dsimp only
  rw [h8l]
  rw [Qz (by omega) (by omega)]
  refine ⟨fun y H' => ∃ (i : Nat) (o2 : Own_), y = (i : Int) - 1 ∧ i ≤ n - mk ∧ BkI o A H B0 x m s a T n N yl o2 H' (mk + i) ∧ H' yl = some (true, Rf.lrec r .ready none), fun y _ => (y + 1).toNat, ⟨n - mk, o, rfl, Nat.le_refl _, by rw [show mk + (n - mk) = n by omega]; exact I1, hy1⟩, ?_⟩
  rintro _ H3 ⟨i, o2, rfl, hi, I3, hy3⟩
  refine ift.of (fun hge => ?_) (fun hge => ?_)
  ·have hge := of_decide_eq_true hge
   have hi1 : 1 ≤ i := by omega
   have hti : T[mk + (i - 1)]? = some (T[mk + (i - 1)]'(by omega)) := List.getElem?_eq_getElem _
   obtain ⟨v, b, hth, hsp, hrd⟩ := I3.dn.at_ hti
   have hs8 : t8.p = some (b, mk * 4) ∧ t8.x = none := by
    rw [← ht8]
    have hne : ¬ (s.cap : Int) = (mk : Int) := by omega
    refine ⟨?_, ?_⟩
    ·show (if (s.cap : Int) = (mk : Int) then s.p else s.p.map (fun p => (p.1, p.2 + (mk : Int).toNat * 4))) = _
     rw [if_neg hne, hsp]; simp
    ·show (if (s.cap : Int) = (mk : Int) ∨ (mk : Int).toNat * 4 = 0 then s.x else none) = none
     rw [q1.2.1]; split <;> rfl
   refine ⟨t8, by rw [Qo (I3.bs.le _ _ hBb)]; rfl, (b, mk * 4), hs8.1, hs8.2, by omega, by rw [h8l]; omega, v, ?_, ?_⟩
   ·show rds H3 (b, mk * 4 + ((i : Int) - 1).toNat * 4) _
    rw [show mk * 4 + ((i : Int) - 1).toNat * 4 = (mk + (i - 1)) * 4 by omega]
    exact hrd
   ·refine ⟨(i : Int) - 1, mk + (i - 1), _, v, o2, rfl, hti, hth, by rw [show mk + (i - 1) + 1 = mk + i by omega]; exact I3, hy3, fun o3 H4 I4 hy4 => Qi rfl ?_⟩
    rw [Qz (by omega) (by omega)]
    exact ⟨⟨i - 1, o3, by omega, by omega, I4, hy4⟩, by dsimp only; omega⟩
  ·have hge := of_decide_eq_false hge
   have hi0 : i = 0 := by omega
   subst hi0
   refine ⟨.ready, none, hy3, by decide, .inl ⟨rfl, ?_⟩⟩
   have I4 := I3.puty (g := Rf.lrec r .exhausted none) hHy hBy hAy
   generalize H3.put yl (Rf.lrec r .exhausted none) = H4 at *
   refine ⟨_, rfl, I4.lc.ld1 ⟨by omega, by omega, by omega, by omega, _, rfl, _, rfl, _, I4.lc.hx, by simp, ?_⟩⟩
   generalize ht61 : (⟨if (mk : Int) = 0 then s.p else s.p.map (fun p => (p.1, p.2 + (0 : Int).toNat * 4)), ((mk : Int) - 0).toNat, ((mk : Int) - 0).toNat, if (mk : Int) = 0 ∨ (0 : Int).toNat * 4 = 0 then s.x else none⟩ : Sl) = t61
   have e61 : t61 = ⟨s.p, mk, mk, s.x⟩ := by
    rw [← ht61]
    have : s.p.map (fun p : Nat × Nat => (p.1, p.2 + (0 : Int).toNat * 4)) = s.p := by cases s.p <;> simp
    rw [this]
    simp
   subst e61
   have hxD : D ≠ x := fun e => by rw [e, p1.hx] at hHD; cases hHD
   show Rf.mk1 (H4.put x (.row [mv (some m), slv ⟨s.p, mk, mk, s.x⟩])) D _
   refine ⟨(H4.put x (.row [mv (some m), slv ⟨s.p, mk, mk, s.x⟩])).del D, Heap.del_le _ _, Heap.del_same .., by rw [Heap.put_ne _ _ _ hxD]; exact I4.bs.le _ _ hBD, ?_⟩
   have oD2 : o2 D = none := by
    cases e : o2 D with
    | none => rfl
    | some w => rw [I4.bs.ap _ _ e] at hBD; cases hBD
   have hcx : Chg (fun _ => True) o2 H4 o2 (H4.put x (.row [mv (some m), slv ⟨s.p, mk, mk, s.x⟩])) := Chg.put I4.lc.ox trivial
   have hcg := (I4.cg.imp (Q := fun _ => True) fun _ _ => trivial).trans hcx
   have hoc := I4.lc.oh.chg hcx
   have hxs : ∀ c w, o2 c = some w → c ≠ D := fun c w hw e => by rw [e, oD2] at hw; cases hw
   have hdel : ∀ c w, o2 c = some w → w ≠ .log → ((H4.put x (.row [mv (some m), slv ⟨s.p, mk, mk, s.x⟩])).del D) c = H4 c := fun c w hw hwl => by
    rw [Heap.del_ne _ (hxs c w hw)]
    exact Heap.put_ne _ _ _ fun e => by rw [e, I4.lc.ox] at hw; injection hw with hw; exact hwl hw.symm
   refine k0 h0 h1 o2 _ ⟨⟨fun c e hc hn => ?_, hcg.up, fun c w hw => ?_, fun c hc => ?_⟩, Heap.le.refl _, fun c hc => .inl hc⟩ ⟨⟨m, ⟨s.p, mk, mk, s.x⟩, T.take mk, ⟨⟨fun c e hc => ?_, hoc.ap, fun c w hw => ?_⟩, ?_, I4.lc.ox, ?_⟩, ⟨?_, fun q hq => I4.dn.ow q hq⟩, by simp [p3]; omega, fun i t hi => ?_⟩, fun i hi => hmts i (Nat.le_trans hi hmkn), fun i hi => hnms i (Nat.le_trans hi hmkn)⟩
   ·rw [Heap.del_ne _ (fun e' => by rw [e', hHD] at hc; cases hc)]; exact hcg.kp c e hc hn
   ·rcases hcg.dn c w hw with e | ⟨e1, e2, e3⟩
    ·exact .inl e
    ·exact .inr ⟨e1, e2, by rw [Heap.del_ne _ (hxs c w hw)]; exact e3⟩
   ·rw [Heap.del_ne _ (fun e' => hc (by rw [e']; exact hHD))]; exact hcg.li c hc
   ·rw [Heap.del_ne _ (fun e' => by rw [e', hAD] at hc; cases hc)]; exact hoc.le c e hc
   ·rw [Heap.del_ne _ (hxs c w hw)]; exact hoc.oh c w hw
   ·rw [Heap.del_ne _ hxD.symm]; exact Heap.put_same ..
   ·obtain ⟨L, hR⟩ := I4.lc.rl
    refine ⟨L, ?_⟩
    have := hR.keep (o2 := o2) (H2 := ((H4.put x (.row [mv (some m), slv ⟨s.p, mk, mk, s.x⟩])).del D)) fun c w hw hp => ⟨hw, hdel c w hw fun e => by subst e; exact hp⟩
    exact this
   ·obtain ⟨⟨ys, w1, w2, w3⟩, w4⟩ := I4.dn
    obtain ⟨v1, v2, v3, v4⟩ := w1
    refine ⟨ys.take mk, ⟨by rw [Qd0, List.length_take]; show min mk ys.length * 4 = mk * 4; rw [Nat.min_eq_left (by omega)], v2, Nat.le_refl _, ?_⟩, by rw [List.length_take, List.length_take]; omega, fun i t v hi hv => ?_⟩
    ·rcases v4 with ⟨e1, e2⟩ | ⟨b, sp, e1, e2, e3⟩
     ·exact .inl ⟨e1, by show mk = 0; omega⟩
     ·refine .inr ⟨b, (ys.drop mk).flatMap Qd.c ++ sp, e1, ?_, ?_⟩
      ·rw [hdel b .done (w4 _ e1) (fun e => by cases e), e2, ← List.append_assoc, ← List.flatMap_append, List.take_append_drop]
      ·rw [← List.append_assoc, ← List.flatMap_append, List.take_append_drop]
       have : mk * 4 ≤ s.cap * 4 := Nat.mul_le_mul_right _ (by omega)
       exact Nat.le_trans this e3
    ·rw [List.getElem?_take] at hi hv
     split at hi
     ·rename_i hlt
      rw [if_pos hlt] at hv
      exact w3 i t v hi hv
     ·cases hi
   ·rw [List.getElem?_take] at hi
    split at hi
    ·exact p4 i t hi
    ·cases hi
end
end
section
open Go Go.Proofs
/-- changes that grow, each row a copy -/
structure OgC (H B : Heap) (cs : List (Qc × NR)) (s : Sl) : Prop where
 own : OwnF H B 3 s (cs.flatMap fun z => Qc.c z.1)
 done : ∀ z ∈ cs, Made H (B.off s) z.2.2 z.1.Row.L ∧ z.1.Row.Rel = z.2.1
theorem OgC.nil {H B : Heap} (h : H.le B) : OgC H B [] Sl.nil := ⟨⟨h, Own.nil _ 3, Fresh.nil _⟩, fun z hz => by cases hz⟩
theorem OgC.step {H B B2 B4 : Heap} {cs : List (Qc × NR)} {s r t : Sl} {l : List V} {n : Str} {k : Int} (h : OgC H B cs s) (hm : Made B B2 l t) (h4 : OwnF (B2.off s) B4 3 r ((cs.flatMap fun z => Qc.c z.1) ++ Qc.c (⟨⟨n, t⟩, k⟩ : Qc))) : OgC H B4 (cs ++ [((⟨⟨n, t⟩, k⟩ : Qc), (n, l))]) r := by
 have hoff : H.le (B2.off s) := Heap.le_off (h.own.le.trans hm.le) h.own.fresh
 have h34 : (B2.off s).le (B4.off r) := Heap.le_off h4.le h4.fresh
 have h12 : (B.off s).le (B2.off s) := Heap.le_off ((Heap.off_le s B).trans hm.le) (Heap.off_fresh s B)
 refine ⟨?_, fun z hz => ?_⟩
 ·rw [List.flatMap_append]
  have := h4.down hoff
  simpa using this
 ·rcases List.mem_append.1 hz with hz | hz
  ·obtain ⟨q1, q2⟩ := h.done z hz
   exact ⟨q1.up (h12.trans h34), q2⟩
  ·rw [List.mem_singleton] at hz
   subst hz
   exact ⟨(hm.off h.own.le h.own.fresh fun p hp => h.own.own.mine hp).up h34, rfl⟩
theorem Qhb (l : List (Qc × NR)) : (l.flatMap fun z => Qc.c z.1).length = l.length * 3 := by
 induction l with
 | nil => rfl
 | cons a l ih => rw [List.flatMap_cons, List.length_append, ih, List.length_cons, Nat.add_mul]; show 3 + _ = _; omega
/-- what is new since a mark, told in new memory -/
structure SinceIs (H H2 : Heap) (S0 S : Sta) (s : Sl) (ws : List (Qc × NR)) : Prop where
 og : OgC H H2 ws s
 isd : IsD S0 S (ws.map fun z => (z.2, z.1.N))
/-- what was turned an odd number of times -/
structure TnI (A D : Heap) (b4 : Nat) (S0 S : Sta) (l : List ((Str × Str) × Sl)) (k : Nat) : Prop where
 ms : MapS kp slv D b4 l
 of : ∀ p ∈ l, ∃ y : NR, p.1 = (y.1, showK y.2) ∧ VRow A p.2 y.2 ∧ ¬ (S y ↔ S0 y) ∧ inR y.2
 al : ∀ y, ¬ (S y ↔ S0 y) → ∃ s, ((y.1, showK y.2), s) ∈ l
 ln : l.length ≤ k
section
variable {C : Ctx} {o : Own_} {A B H H2 D : Heap} {x m n N b4 k : Nat} {s : Sl} {S0 S S2 : Sta} {T : List Th} {t : Th} {a : Nat → Sta} {l : List ((Str × Str) × Sl)}
theorem Qi5 {x y : NR} (hx : inR x.2) (hy : inR y.2) (e : (x.1, showK x.2) = (y.1, showK y.2)) : x = y := by
 have h := Prod.ext_iff.1 e
 exact Prod.ext h.1 (hx.inj hy h.2)
/-- one thing more -/
theorem TnI.step {K : Heap → Prop} {v : Sl} (h : TnI A D b4 S0 S l k) (hF : FineS S) (hF0 : FineS S0) (hx : inR t.2.2) (hv : VRow A v t.2.2) (hst : stepS t S S2)
 (kk : ∀ g l2, TnI A (D.put b4 g) b4 S0 S2 l2 (k + 1) → K (D.put b4 g))
 {Kx : Sl → Bool → Prop} (f1 : ∀ z, delS kp slv (some b4) (t.2.1, showK t.2.2) K D → Kx z true) (f0 : upS kp slv (some b4) (t.2.1, showK t.2.2) v K D → Kx Sl.nil false) :
 lkM kp slv Sl.nil (some b4) (t.2.1, showK t.2.2) Kx D := by
 obtain ⟨ht1, ht2⟩ := hst.turn
 have hin : ∀ y, ¬ (S y ↔ S0 y) → inR y.2 := fun y hy => by
  by_cases h1 : S y
  ·exact hF y h1
  ·by_cases h2 : S0 y
   ·exact hF0 y h2
   ·exact absurd ⟨fun h => absurd h h1, fun h => absurd h h2⟩ hy
 refine h.ms.is.lk (fun z hz => f1 _ ?_) fun hz => f0 ?_
 ·obtain ⟨y, q1, q2, q3, q4⟩ := h.of _ (QaV hz)
  dsimp only at q1
  have hxy : t.2 = y := Qi5 hx q4 q1
  subst hxy
  refine .inr ⟨b4, l, rfl, h.ms, fun g l2 w1 w2 => kk g l2 ⟨w1, fun p hp => ?_, fun y hy => ?_, ?_⟩⟩
  ·obtain ⟨e1, e2⟩ := (w2 p).1 hp
   obtain ⟨y, r1, r2, r3, r4⟩ := h.of p e1
   have hne : y ≠ t.2 := fun e => e2 (by rw [r1, e])
   exact ⟨y, r1, r2, by rw [ht2 y hne]; exact r3, r4⟩
  ·have hne : y ≠ t.2 := fun e => hy (by
    rw [e, ht1]
    constructor
    ·intro h1; exact Classical.byContradiction fun h2 => q3 ⟨fun h => absurd h h1, fun h => absurd h h2⟩
    ·intro h1 h2; exact q3 ⟨fun _ => h1, fun _ => h2⟩)
   rw [ht2 y hne] at hy
   obtain ⟨s', hs'⟩ := h.al y hy
   exact ⟨s', (w2 _).2 ⟨hs', fun e => hne (Qi5 (hin y hy) hx e)⟩⟩
  ·have := QjL (f := fun p : (Str × Str) × Sl => p.1) w1.is.nd fun p hp => ((w2 p).1 hp).1
   have := h.ln
   omega
 ·have hsame : S t.2 ↔ S0 t.2 := Classical.byContradiction fun hc => by
   obtain ⟨s', hs'⟩ := h.al _ hc
   rw [Qba h.ms.is.nd hs'] at hz; cases hz
  refine ⟨b4, l, rfl, h.ms, fun g l2 w1 w2 w3 => kk g l2 ⟨w1, fun p hp => ?_, fun y hy => ?_, ?_⟩⟩
  ·have hl := Qba w1.is.nd (k := p.1) (x := p.2) hp
   rw [w2] at hl
   split at hl
   ·rename_i he
    injection hl with hl
    refine ⟨t.2, he, hl ▸ hv, fun hc => ?_, hx⟩
    rw [ht1, hsame] at hc
    by_cases h0 : S0 t.2
    ·exact hc.2 h0 h0
    ·exact h0 (hc.1 h0)
   ·obtain ⟨y, r1, r2, r3, r4⟩ := h.of p (QaV hl)
    rename_i he
    have hne : y ≠ t.2 := fun e => he (by rw [r1, e])
    exact ⟨y, r1, r2, by rw [ht2 y hne]; exact r3, r4⟩
  ·by_cases hne : y = t.2
   ·subst hne; exact ⟨v, QaV (by rw [w2, if_pos rfl])⟩
   ·rw [ht2 y hne] at hy
    obtain ⟨s', hs'⟩ := h.al y hy
    refine ⟨s', QaV ?_⟩
    rw [w2, if_neg fun e => hne (Qi5 (hin y hy) hx e)]
    exact Qba h.ms.is.nd hs'
  ·have := h.ln
   rw [w3]; split <;> omega
end
end
section
open Go Go.Proofs
section
variable {C : Ctx} {o : Own_} {A B H H2 D : Heap} {x m n N b4 k : Nat} {s : Sl} {S0 S S2 : Sta} {T : List Th} {t : Th} {a : Nat → Sta} {l : List ((Str × Str) × Sl)}
theorem fS2 {H : Heap} {b j : Nat} {mu : Bool} {cs : List Value} {t : Str} {K : Str → Prop} (h : H b = some (mu, .row cs)) (hj : cs[j]? = some (sv t)) (k : K t) : ldS H ((b, 0).1, (b, 0).2 + j) K := ⟨t, by rw [Qo h, Nat.zero_add]; exact hj, k⟩
theorem QlV {b : Nat} {g : GO} (h : H.le D) (hb : H b = none) : H.le (D.put b g) := fun c e hc => by
 rw [Heap.put_ne _ _ _ (fun e' => by rw [e', hb] at hc; cases hc)]; exact h c e hc
theorem Qkx {jj : Int} {K : Sl → Int → Heap → Prop} (h : LG o A H x a n N) (hnn : n ≤ 1000000) (k1 : ¬ (0 ≤ jj ∧ jj ≤ n) → K Sl.nil 1 H)
 (k0 : ∀ s ws H2, 0 ≤ jj → jj ≤ n → SinceIs H H2 (a jj.toNat) (a n) s ws → ws.length ≤ n - jj.toNat → K s 0 H2) : QW C (some (x, 0)) jj K H := by
 apply Qgq
 unfold Qdx
 refine Qk6 h ?_
 by_cases hj : 0 ≤ jj ∧ jj ≤ n
 rotate_left
 ·rw [if_neg hj]
  exact Qs rfl (k1 hj)
 rw [if_pos hj]
 refine Qi rfl ?_
 obtain ⟨h0, h1⟩ := hj
 obtain ⟨mk, rfl⟩ := Int.eq_ofNat_of_zero_le h0
 have hmk : mk ≤ n := by omega
 have hmn : (mk : Int).toNat = mk := by omega
 rw [hmn] at k0
 have hF := h.f
 have hLG := h
 obtain ⟨⟨m, s, T, p1, p2, p3, p4⟩, _, _⟩ := h
 have hsl : s.len = n := by
  obtain ⟨⟨xs, q1, q2, _⟩, _⟩ := p2
  have h1 := q1.1; rw [Qd0] at h1; omega
 have hcap : s.len ≤ s.cap := by obtain ⟨⟨xs, q1, q2, _⟩, _⟩ := p2; exact q1.2.2.1
 have hsx : s.x = none := by obtain ⟨⟨xs, q1, q2, _⟩, _⟩ := p2; exact q1.2.1
 intro b4 nb4
 have l4 := Heap.le_put nb4 (g := .obj (.map #[] 0)) (m := true)
 have hm4 : MapS kp slv (H.put b4 (.obj (.map #[] 0))) b4 ([] : List ((Str × Str) × Sl)) := MapS.new
 generalize H.put b4 (.obj (.map #[] 0)) = H5 at *
 refine ⟨_, rfl, (p1.up l4).ld1 ⟨by omega, by omega, by omega, by omega, _, rfl, ?_⟩⟩
 generalize ht8 : (⟨if (s.cap : Int) = (mk : Int) then s.p else s.p.map (fun p => (p.1, p.2 + (mk : Int).toNat * 4)), ((s.len : Int) - (mk : Int)).toNat, ((s.cap : Int) - (mk : Int)).toNat, if (s.cap : Int) = (mk : Int) ∨ (mk : Int).toNat * 4 = 0 then s.x else none⟩ : Sl) = t8
 have h8l : t8.len = n - mk := by rw [← ht8]; show ((s.len : Int) - (mk : Int)).toNat = _; omega
 refine ⟨fun y D => ∃ (i : Nat) (l : List ((Str × Str) × Sl)), y = (i : Int) ∧ i ≤ n - mk ∧ H.le D ∧ TnI A D b4 (a mk) (a (mk + i)) l i, fun y _ => n - mk - y.toNat, ⟨0, [], rfl, Nat.zero_le _, l4, hm4, fun p hp => (by cases hp), fun y hy => absurd Iff.rfl hy, Nat.le_refl _⟩, ?_⟩
 rintro _ D ⟨i, l, rfl, hi, hHD, hT⟩
 rw [h8l]
 refine ift.of (fun hlt => ?_) (fun hge => ?_)
 ·have hlt : i < n - mk := by have := of_decide_eq_true hlt; omega
  have hti : T[mk + i]? = some (T[mk + i]'(by omega)) := List.getElem?_eq_getElem _
  obtain ⟨v, b, hth, hsp, hrd⟩ := p2.at_ hti
  have hs8 : t8.p = some (b, mk * 4) ∧ t8.x = none := by
   rw [← ht8]
   have hne : ¬ (s.cap : Int) = (mk : Int) := by omega
   refine ⟨?_, ?_⟩
   ·show (if (s.cap : Int) = (mk : Int) then s.p else s.p.map (fun p => (p.1, p.2 + (mk : Int).toNat * 4))) = _
    rw [if_neg hne, hsp]; simp
   ·show (if (s.cap : Int) = (mk : Int) ∨ (mk : Int).toNat * 4 = 0 then s.x else none) = none
    rw [hsx]; split <;> rfl
  refine ⟨fun _ D2 => ∃ l, H.le D2 ∧ TnI A D2 b4 (a mk) (a (mk + (i + 1))) l (i + 1), ?_, ?_⟩
  ·refine ⟨(b, mk * 4), hs8.1, hs8.2, by omega, by rw [h8l]; omega, v, ?_, ?_⟩
   ·show rds D (b, mk * 4 + (i : Int).toNat * 4) _
    rw [show mk * 4 + (i : Int).toNat * 4 = (mk + i) * 4 by omega]
    exact Ql1 hHD hrd
   ·intro b31 n31
    refine ⟨hth.cell, nwT rfl ?_⟩
    have l31 := Heap.le_put n31 (g := .row (Qd.c v)) (m := true)
    have c31 : (D.put b31 (.row (Qd.c v))) b31 = some (true, .row (Qd.c v)) := Heap.put_same ..
    generalize D.put b31 (.row (Qd.c v)) = D1 at *
    refine fS2 (j := 0) c31 rfl (fS2 (j := 1) c31 rfl ?_)
    intro b39 n39
    refine nwT rfl ?_
    have l39 := Heap.le_put n39 (g := .row (Qg.c (⟨v.rel_, v.key_⟩ : Qg))) (m := true)
    have c39 : (D1.put b39 (.row (Qg.c (⟨v.rel_, v.key_⟩ : Qg)))) b39 = some (true, .row (Qg.c (⟨v.rel_, v.key_⟩ : Qg))) := Heap.put_same ..
    have c31' := l39 _ _ c31
    generalize D1.put b39 (.row (Qg.c (⟨v.rel_, v.key_⟩ : Qg))) = D2 at *
    refine bxT (c := Qg.c) c39 ?_
    have lD := l31.trans l39
    have hHD2 := hHD.trans lD
    have hT2 : TnI A D2 b4 (a mk) (a (mk + i)) l i := ⟨hT.ms.le lD, hT.of, hT.al, hT.ln⟩
    have hst := p4 (mk + i) _ hti
    have hrow := hth.row
    have hrel := hth.rel
    have hkey := hth.key
    dsimp only
    rw [hrel, hkey] at c39 ⊢
    refine hT2.step (hF _ (by omega)) (hF _ hmk) hth.inn hrow hst (K := fun D2 => ∃ l, H.le D2 ∧ TnI A D2 b4 (a mk) (a (mk + (i + 1))) l (i + 1)) (fun g l2 w1 => ⟨l2, QlV hHD2 nb4, w1⟩) (fun z hd => Qs rfl (bxT (c := Qg.c) c39 hd)) fun hu => Qi rfl (bxT (c := Qg.c) c39 (fL (j := 2) c31' rfl hu))
  ·rintro _ D2 ⟨l2, w1, w2⟩
   rw [Qz (by omega) (by omega)]
   exact ⟨⟨i + 1, l2, by omega, by omega, w1, w2⟩, by first | omega | (dsimp only; omega)⟩
 ·have hie : i = n - mk := by have := of_decide_eq_false hge; omega
  subst hie
  rw [show mk + (n - mk) = n by omega] at hT
  have hin : ∀ y, ¬ (a n y ↔ a mk y) → inR y.2 := fun y hy => by
   by_cases h1 : a n y
   ·exact hF n (Nat.le_refl _) y h1
   ·by_cases h2 : a mk y
    ·exact hF mk hmk y h2
    ·exact absurd ⟨fun h => absurd h h1, fun h => absurd h h2⟩ hy
  obtain ⟨⟨ob4, cb4⟩, hb4⟩ : (∃ ob, D b4 = some (true, .obj ob)) ∧ True := by
   obtain ⟨es, ck, hm⟩ := hT.ms
   exact ⟨⟨_, hm.at_⟩, trivial⟩
  have hTl := hT.ln
  have hAD : A.le D := p1.oh.le.trans hHD
  refine .inr ⟨b4, l, rfl, hT.ms, fun it ob hit hI => ?_⟩
  refine ⟨fun s E => ∃ vs cs, It kp slv E it b4 l vs ∧ OgC D (E.del it) cs s ∧ (cs.map fun z => (z.2.1, showK z.2.2)) = vs.map (fun p => p.1) ∧ ∀ z ∈ cs, ¬ (a n z.2 ↔ a mk z.2) ∧ ((a n z.2 ∧ z.1.N = 1) ∨ (¬ a n z.2 ∧ z.1.N = -1)), fun _ E => l.length - itN E it, ⟨[], [], hI, ?_, rfl, fun z hz => by cases hz⟩, ?_⟩
  ·rw [Qfw, QkG hit]; exact OgC.nil (Heap.le.refl _)
  rintro u E ⟨vs, cs, hIt, hO, hk, hR⟩
  have hlsl : cs.length = vs.length := by have := congrArg List.length hk; simpa using this
  have hfew := hIt.few
  refine .inr ⟨b4, l, vs, hIt, fun hall => ?_, fun p hp hnv ob2 hI2 => ?_⟩
  ·refine Qi rfl ?_
   have hmem : ∀ y, y ∈ (cs.map fun z => z.2) ↔ ¬ (a n y ↔ a mk y) := fun y => ⟨fun hy => by
    obtain ⟨z, hz, rfl⟩ := List.mem_map.1 hy
    exact (hR z hz).1, fun hy => by
    obtain ⟨s', hs'⟩ := hT.al y hy
    have : (y.1, showK y.2) ∈ cs.map fun z => (z.2.1, showK z.2.2) := by rw [hk]; exact List.mem_map.2 ⟨_, hall _ hs', rfl⟩
    obtain ⟨z, hz, e⟩ := List.mem_map.1 this
    have := Qi5 (x := z.2) (y := y) (hin _ (hR z hz).1) (hin y hy) e
    exact List.mem_map.2 ⟨z, hz, this⟩⟩
   have hnd : (cs.map fun z => z.2).Nodup := by
    have h5 : (cs.map fun z => (z.2.1, showK z.2.2)).Nodup := by rw [hk, List.Nodup, List.pairwise_map]; exact hIt.nd
    rw [List.Nodup, List.pairwise_map] at h5 ⊢
    exact h5.imp fun {a b} hab e => hab (by rw [e])
   have hoffle : ((E.del it).off u).le (E.off u) := by rw [QhB]; exact Heap.del_le _ _
   refine QmT (H0 := D) (zs := cs) (hO.own.up (Heap.del_le _ _)) (fun z hz => ?_) (by omega) fun ws H3 hw hs hown hoff => ?_
   ·obtain ⟨q1, q2⟩ := hO.done z hz
    have hf := hin _ (hR z hz).1
    exact ⟨q2, q1.row2.le hoffle, hf.b, by have := hf.tookR.len; omega⟩
   ·have hwn : (ws.map fun z => z.2).Nodup := (hw.map fun z => z.2).symm.nodup hnd
    refine k0 u ws H3 h0 h1 ⟨⟨hown.down hHD, fun z hz => ?_⟩, ⟨?_, fun y c => ?_⟩⟩ (by rw [hw.length_eq]; omega)
    ·obtain ⟨q1, q2⟩ := hO.done z (hw.subset hz)
     rw [hoff]
     exact ⟨(q1.up hoffle).down hHD, q2⟩
    ·rw [List.map_map]
     show RiseN (ws.map fun z => z.2)
     have hs2 : (ws.map fun z => z.2).Pairwise fun a b => cmpN a b ≤ 0 := by rw [List.pairwise_map]; exact hs
     refine List.Pairwise.imp_of_mem (fun {a b} ha hb hab => ?_) (hs2.and hwn)
     have ra := (hin _ ((hmem a).1 ((hw.map fun z => z.2).subset ha))).m
     have rb := (hin _ ((hmem b).1 ((hw.map fun z => z.2).subset hb))).m
     have hne : cmpN a b ≠ 0 := fun e => hab.2 ((Qel ra rb).1 e)
     have := hab.1
     omega
    ·constructor
     ·intro hy
      obtain ⟨z, hz, e⟩ := List.mem_map.1 hy
      obtain ⟨r1, r2⟩ := hR z (hw.subset hz)
      injection e with e1 e2
      subst e1; subst e2
      rcases r2 with ⟨r2, r3⟩ | ⟨r2, r3⟩
      ·exact .inl ⟨r3, r2, fun h => r1 ⟨fun _ => h, fun _ => r2⟩⟩
      ·exact .inr ⟨r3, Classical.byContradiction fun h => r1 ⟨fun h2 => absurd h2 r2, fun h2 => absurd h2 h⟩, r2⟩
     ·intro hy
      have hmy : y ∈ cs.map fun z => z.2 := (hmem y).2 (by
       rcases hy with ⟨_, h1, h2⟩ | ⟨_, h1, h2⟩
       ·exact fun h3 => h2 (h3.1 h1)
       ·exact fun h3 => h2 (h3.2 h1))
      obtain ⟨z, hz, rfl⟩ := List.mem_map.1 hmy
      refine List.mem_map.2 ⟨z, hw.symm.subset hz, ?_⟩
      obtain ⟨_, r2⟩ := hR z hz
      rcases hy with ⟨e, h1, h2⟩ | ⟨e, h1, h2⟩ <;> rcases r2 with ⟨r2, r3⟩ | ⟨r2, r3⟩
      ·rw [r3, e]
      ·exact absurd h1 r2
      ·exact absurd r2 h2
      ·rw [r3, e]
  ·refine Qs rfl ⟨p.1, p.2, ⟨b4, l, vs, hI2⟩, ?_⟩
   obtain ⟨y, hpk, hv, hty, hyin⟩ := hT.of p hp
   obtain ⟨⟨ob3, a1⟩, ob5, a2⟩ := hI2.at_
   have hDit : D it = none := hit
   have hDel : ((E.put it (.obj ob2)).del it) = E.del it := Qfw
   have hle : (E.del it).le (E.put it (.obj ob2)) := by rw [← hDel]; exact Heap.del_le _ _
   have hDE : D.le (E.put it (.obj ob2)) := hO.own.le.trans hle
   have hOw : Own (E.put it (.obj ob2)) 3 u (cs.flatMap fun z => Qc.c z.1) := hO.own.own.le hle
   generalize E.put it (.obj ob2) = E1 at *
   rw [hpk]
   intro b67 n67
   refine nwT rfl ?_
   have l67 := Heap.le_put n67 (g := .row (Qg.c (⟨y.1, showK y.2⟩ : Qg))) (m := true)
   have c67 : (E1.put b67 (.row (Qg.c (⟨y.1, showK y.2⟩ : Qg)))) b67 = some (true, .row (Qg.c (⟨y.1, showK y.2⟩ : Qg))) := Heap.put_same ..
   show jn _ _
   dsimp only
   generalize E1.put b67 (.row (Qg.c (⟨y.1, showK y.2⟩ : Qg))) = E2 at *
   have hADE2 : A.le E2 := hAD.trans (hDE.trans l67)
   have hyz : vsizes y.2 ≤ 1000000 := by have := hyin.z; omega
   refine ⟨fun q E3 => ∃ (b : Nat) (t : Sl) (G : Heap), q = (b, 0) ∧ Made E2 G y.2 t ∧ G b = none ∧ E3 = G.put b (.row (Qc.c (⟨⟨y.1, t⟩, -1⟩ : Qc))), ?_, ?_⟩
   ·refine ⟨E2, Heap.le.refl _, fS2 (j := 0) c67 rfl ⟨?_, ?_⟩⟩
    ·refine Qjq hv hADE2 hyz fun t2 G hM => ⟨hM.le, ?_⟩
     intro b82 n82
     exact ⟨hM.le.trans (Heap.le_put n82), nwT rfl ⟨b82, t2, G, rfl, hM, n82, rfl⟩⟩
    ·intro b86 n86
     have l86 := Heap.le_put n86 (g := .row (Qc.c Qc.zero)) (m := true)
     have c86 : (E2.put b86 (.row (Qc.c Qc.zero))) b86 = some (true, .row (Qc.c Qc.zero)) := Heap.put_same ..
     refine ⟨l86, Qjq hv (hADE2.trans l86) hyz fun t2 G hM => ⟨l86.trans hM.le, ?_⟩⟩
     have hg := hM.le _ _ c86
     have hM2 := hM.del c86
     rw [Qfw, QkG n86] at hM2
     refine ⟨_, hg, by simp [Qc.c], b86, t2, G.del b86, rfl, hM2, Heap.del_same .., ?_⟩
     funext c
     by_cases hc : c = b86
     ·subst hc; rw [Heap.put_same, Heap.put_same]; rfl
     ·rw [Heap.put_ne _ _ _ hc, Heap.put_ne _ _ _ hc, Heap.del_ne _ hc]
   ·rintro _ E3 ⟨b, t, G, rfl, hM, hGb, rfl⟩
    have lG := Heap.le_put hGb (g := .row (Qc.c (⟨⟨y.1, t⟩, -1⟩ : Qc))) (m := true)
    have hHG : H.le (G.put b (.row (Qc.c (⟨⟨y.1, t⟩, -1⟩ : Qc)))) := hHD.trans (hDE.trans (l67.trans (hM.le.trans lG)))
    have c67' := lG _ _ (hM.le _ _ c67)
    have cb : (G.put b (.row (Qc.c (⟨⟨y.1, t⟩, -1⟩ : Qc)))) b = some (true, .row (Qc.c (⟨⟨y.1, t⟩, -1⟩ : Qc))) := Heap.put_same ..
    refine ⟨fun _ E4 => ∃ c : Int, ((a n y ∧ c = 1) ∨ (¬ a n y ∧ c = -1)) ∧ E4 = G.put b (.row (Qc.c (⟨⟨y.1, t⟩, c⟩ : Qc))), ?_, ?_⟩
    ·have hP := p1.up hHG
     obtain ⟨L, hRL⟩ := hP.rl
     refine ⟨_, rfl, hP.ld0 (fS2 (j := 0) c67' rfl (hRL.look fun q is hl => fS2 (j := 1) c67' rfl ?_))⟩
     refine hl.look (fun r' hr' => hF n (Nat.le_refl _) _ hr') hyin (fun hS s2 hs2 => Qs rfl ?_) fun hS => Qi rfl ⟨-1, .inr ⟨hS, rfl⟩, rfl⟩
     refine ⟨_, cb, by simp [Qc.c], 1, .inl ⟨hS, rfl⟩, ?_⟩
     rw [Heap.put_put]; rfl
    ·rintro _ E4 ⟨c, hc, rfl⟩
     have lG4 := Heap.le_put hGb (g := .row (Qc.c (⟨⟨y.1, t⟩, c⟩ : Qc))) (m := true)
     refine bxT (c := Qc.c) (x := (⟨⟨y.1, t⟩, c⟩ : Qc)) (Heap.put_same ..) ?_
     have hE1G : E1.le (G.put b (.row (Qc.c (⟨⟨y.1, t⟩, c⟩ : Qc)))) := l67.trans (hM.le.trans lG4)
     have hM3 : Made E1 (G.put b (.row (Qc.c (⟨⟨y.1, t⟩, c⟩ : Qc)))) y.2 t := (hM.up lG4).down l67
     generalize G.put b (.row (Qc.c (⟨⟨y.1, t⟩, c⟩ : Qc))) = E5 at *
     have hM4 := hM3.del a1
     rw [hDel] at hM4
     have hOwn3 : Own E5 3 u (cs.flatMap fun z => Qc.c z.1) := hOw.le hE1G
     have hsit : ∀ q, u.p = some q → q.1 ≠ it := fun q hq e => by
      obtain ⟨g, hg⟩ := hO.own.own.mine hq
      rw [e, Heap.del_same] at hg; cases hg
     have hsm : ∀ q, u.p = some q → q.1 ≠ b4 := fun q hq e => by
      have := hO.own.fresh q hq
      rw [e, cb4] at this; cases this
     have hit3 : (E5.off u) it = some (true, .obj ob3) := Heap.off_some (hE1G _ _ a1) hsit
     have hm3 : (E5.off u) b4 = some (true, .obj ob5) := Heap.off_some (hE1G _ _ a2) hsm
     have hsl3 : u.len = cs.length := by have h1 := hOwn3.1; rw [Qhb] at h1; omega
     refine QcN (zc := Qc.c Qc.zero) hOwn3.off rfl (by omega) (by omega) fun r2 H4 q1 q2 => ?_
     have e1 := hI2.cnt
     have e2 := hI2.few
     have e3 := hIt.cnt
     have hI4 : It kp slv H4 it b4 l (vs ++ [p]) := hI2.same ((q1.le _ _ hit3).trans a1.symm) ((q1.le _ _ hm3).trans a2.symm)
     have e4 := hI4.cnt
     simp only [List.length_append, List.length_singleton] at e1 e2 e4
     refine ⟨⟨vs ++ [p], cs ++ [((⟨⟨y.1, t⟩, c⟩ : Qc), y)], hI4, ?_, by rw [List.map_append, List.map_append, hk]; simp [hpk], fun z hz => ?_⟩, by first | omega | (dsimp only; omega)⟩
     ·have hq : OwnF ((E5.del it).off u) (H4.del it) 3 r2 ((cs.flatMap fun z => Qc.c z.1) ++ Qc.c (⟨⟨y.1, t⟩, c⟩ : Qc)) := by
       rw [QhB]
       have := q1.del hit3
       rw [List.append_nil] at this; exact this
      exact OgC.step hO hM4 hq
     ·rcases List.mem_append.1 hz with hz | hz
      ·exact hR z hz
      ·rw [List.mem_singleton] at hz
       subst hz
       exact ⟨hty, hc⟩
end
end
section
open Go Go.Proofs
/-- named rows in memory -/
def NRIs (A : Heap) (v : NR) (x : Qb) : Prop := x.Rel = v.1 ∧ VRow A x.L v.2
def NRows (A : Heap) (s : Sl) (W : List NR) : Prop := SlIs (NRIs A) Qb.c A s W
theorem NRows.le {A B : Heap} {s : Sl} {W : List NR} (h : NRows A s W) (hle : A.le B) : NRows B s W := SlIs.le hle h fun v _ x hx => ⟨hx.1, hx.2.le hle⟩
/-- texts in memory -/
def NmL (A : Heap) (s : Sl) (W : List Str) : Prop := SlIs (fun v x : Str => x = v) (fun s => [sv s]) A s W
theorem QdN {H0 H H2 H3 : Heap} (h1 : H0.le H) (h2 : H2.le H3) : (Heap.new H H2).le (Heap.new H0 H3) := fun c e hc => by
 obtain ⟨a, b⟩ := Heap.new_inv hc
 exact Heap.new_some (h2 _ _ b) (h1.none a)
theorem Qji {T U : List (List V)} (h1 : Rise T) (h2 : Rise U) (he : ∀ r, r ∈ T ↔ r ∈ U) : T = U := Qht (P := fun _ => True) Lin.row h1 h2 (fun _ _ => trivial) he
section
variable {C : Ctx} {o o2 : Own_} {A B H H2 D : Heap} {x n N : Nat} {s t : Sl} {S : Sta} {a : Nat → Sta} {W : List NR} {R : List V → Prop} {T : List (List V)} {ys : List Sl}
theorem Qku : ∀ W : List Str, (W.flatMap fun s => [sv s]) = W.map sv
 | [] => rfl
 | a :: l => by rw [List.flatMap_cons, Qku l]; rfl
theorem OwnF.new {z : Nat} {s : Sl} {cs : List Value} (h : OwnF H H2 z s cs) : Own (Heap.new H H2) z s cs := by
 obtain ⟨h1, ⟨q1, q2, q3, q4⟩, h3⟩ := h
 refine ⟨q1, q2, q3, ?_⟩
 rcases q4 with q4 | ⟨b, sp, r1, r2, r3⟩
 ·exact .inl q4
 ·exact .inr ⟨b, sp, r1, Heap.new_some r2 (h3 _ r1), r3⟩
theorem Told.rows (h : Told D H2 R T s ys) : VRows (Heap.new D H2) s T := by
 have ho := h.og.own
 refine ⟨ys, ho.new.rdsl, by have := ho.len; simpa using this, h.len, fun i y l hy hl => ?_⟩
 refine (h.og.done i l y hl hy).row.le fun c e hc => ?_
 obtain ⟨a, b⟩ := Heap.new_inv hc
 exact Heap.new_some ((Heap.off_le _ _) _ _ b) a
theorem QiC (hO : OH o A D) (hle : D.le H) : Bs o (Heap.new D H) H := ⟨Heap.new_le _ _, fun c w hw => by
 cases hh : Heap.new D H c with
 | none => rfl
 | some e => exact absurd (Heap.new_inv hh).1 (hO.oh c w hw)⟩
theorem NmTold.nm {W : List Str} (h : NmTold D H2 S W s) (hl : W.length ≤ 140737488355328) : NmL (Heap.new D H2) s W := by
 have h1 := Qku W
 have h2 := h.own.new.rdsl
 have h3 := h.own.own.1
 refine ⟨W, by rw [h1]; exact h2, by simpa using h3.symm, rfl, hl, fun i v x hv hx => by rw [hv] at hx; injection hx with hx; exact hx.symm⟩
/-- named rows that grow -/
structure OgR (H B : Heap) (cs : List (Qb × NR)) (s : Sl) : Prop where
 own : OwnF H B 2 s (cs.flatMap fun z => Qb.c z.1)
 done : ∀ z ∈ cs, VRow (Heap.new H (B.off s)) z.1.L z.2.2 ∧ z.1.Rel = z.2.1
theorem OgR.nil : OgR H H [] Sl.nil := ⟨OwnF.nil H 2, fun z hz => by cases hz⟩
theorem Qmx (h : H.le H2) : (H.off s).le (H2.off s) := fun c e hc => by
 have h1 := Heap.off_le _ _ _ _ hc
 refine Heap.off_some (h _ _ h1) fun q hq e' => ?_
 unfold Heap.off at hc
 rw [if_pos (by rw [hq, ← e']; rfl)] at hc; cases hc
end
end
section
open Go Go.Proofs
structure OpV where
 k : Int
 n : Int
 rel : Str
 row : List V
def OpIs (A : Heap) (o : OpV) (x : Qk) : Prop := x.Kind = o.k ∧ x.N = o.n ∧ x.Row.Rel = o.rel ∧ VRow A x.Row.L o.row
def Ops (A : Heap) (s : Sl) (l : List OpV) : Prop := SlIs (OpIs A) Qk.c A s l
/-- what comes in -/
def InOp (o : OpV) : Prop := VBs o.row ∧ o.row.length ≤ 140737488355328 ∧ o.rel.length ≤ 140737488355328
def opw (l : List OpV) : Nat := (l.map fun o => 2 + o.rel.length / 50 + vsizes o.row).sum
theorem Qmy {l : List OpV} {i : Nat} (h : i < l.length) : opw (l.take (i + 1)) = opw (l.take i) + (2 + l[i].rel.length / 50 + vsizes l[i].row) := by
 unfold opw
 rw [List.take_add_one, List.getElem?_eq_getElem h, Option.toList_some, List.map_append, List.sum_append]; simp
/-- not large -/
structure FewOp (l : List OpV) : Prop where
 len : l.length ≤ 400
 op : ∀ o ∈ l, okR o.row ∧ o.rel.length ≤ 1000000
theorem QlO : ∀ {l : List OpV}, 2 * l.length ≤ opw l ∧ ∀ o ∈ l, 2 + o.rel.length / 50 + vsizes o.row ≤ opw l
 | [] => ⟨by simp, fun o ho => by cases ho⟩
 | a :: l => by
  obtain ⟨h1, h2⟩ := QlO (l := l)
  have e : opw (a :: l) = (2 + a.rel.length / 50 + vsizes a.row) + opw l := by unfold opw; simp
  refine ⟨by rw [e, List.length_cons]; omega, fun o ho => ?_⟩
  rcases List.mem_cons.1 ho with rfl | ho
  ·omega
  ·have := h2 o ho; omega
theorem FewOp.of {l : List OpV} (hB : ∀ o ∈ l, InOp o) (h : opw l < 800) : FewOp l := by
 obtain ⟨h1, h2⟩ := QlO (l := l)
 refine ⟨by omega, fun o ho => ?_⟩
 have := h2 o ho
 exact ⟨⟨(hB o ho).1, by omega⟩, by omega⟩
theorem tdiv50 (n : Nat) : Int.tdiv (n : Int) 50 = ((n / 50 : Nat) : Int) := by
 rw [Int.tdiv_eq_ediv_of_nonneg (by omega)]; rfl
section
variable {C : Ctx} {o o2 : Own_} {A B H H2 D : Heap} {x n N : Nat} {s t : Sl} {S : Sta} {a : Nat → Sta}
theorem Qmt {l : List OpV} {K : Bool → Heap → Prop} (hv : Ops H s l) (hB : ∀ o ∈ l, InOp o) (k : ∀ b : Bool, (b = false → FewOp l) → K b H) : QdE C s K H := by
 apply Qib
 unfold Qfb
 have hlen := SlIs.len hv
 have hbd := SlIs.bd hv
 refine ⟨fun y A => A = H ∧ ∃ i n : Nat, y = ((n : Int), (i : Int)) ∧ i ≤ l.length ∧ n ≤ 200000000000000 ∧ (n < 800 → opw (l.take i) ≤ n), fun y _ => l.length - y.2.toNat,
  ⟨rfl, 0, 0, rfl, Nat.zero_le _, by omega, fun _ => by simp [opw]⟩, ?_⟩
 rintro _ A ⟨rfl, i, n, rfl, hi, hn2, hn3⟩
 rw [hlen]
 refine ift.of (fun h => ?_) (fun h => ?_)
 ·simp only [Bool.and_eq_true, decide_eq_true_eq] at h
  have hlt : i < l.length := by omega
  have hnm : n < 800 := by omega
  obtain ⟨b1, b2, b3⟩ := hB _ (List.getElem_mem hlt)
  refine SlIs.at_ hv (Heap.le.refl _) (z := 4) (fun _ => rfl) (by omega) rfl hlt fun p y hy hr => ⟨y.Row.Rel, hr 2 _ rfl, ?_⟩
  rw [hy.2.2.1]
  dsimp only
  rw [tdiv50]
  have hq : l[i].rel.length / 50 ≤ 140737488355328 := Nat.le_trans (Nat.div_le_self _ _) b3
  generalize hqe : l[i].rel.length / 50 = q at *
  rw [Qz (x := (n : Int) + 2) (by omega) (by omega), Qz (x := (q : Int)) (by omega) (by omega), Qz (by omega) (by omega)]
  refine ⟨fun y E => E = A ∧ ∃ k m : Nat, y = ((m : Int), (k : Int)) ∧ k ≤ l[i].row.length ∧ m ≤ 200000000000000 ∧ (m < 800 → n + 2 + q + vsizes (l[i].row.take k) ≤ m), fun y _ => l[i].row.length - y.2.toNat,
   ⟨rfl, 0, n + 2 + q, by simp, Nat.zero_le _, by omega, fun _ => by simp [vsizes]⟩, ?_⟩
  rintro _ E ⟨rfl, k, m, rfl, hk, hm2, hm3⟩
  refine SlIs.at_ hv (Heap.le.refl _) (z := 4) (fun _ => rfl) (by omega) rfl hlt fun p y hy hr => ⟨y.Row.L, hr 3 _ rfl, ?_⟩
  dsimp only
  rw [hy.2.2.2.len]
  refine ift.of (fun h2 => ?_) (fun h2 => ?_)
  ·simp only [Bool.and_eq_true, decide_eq_true_eq] at h2
   have hkt : k < l[i].row.length := by omega
   have hmm : m < 800 := by omega
   refine SlIs.at_ hv (Heap.le.refl _) (z := 4) (fun _ => rfl) (by omega) rfl hlt fun p y hy hr => ⟨y.Row.L, hr 3 _ rfl, ?_⟩
   refine hy.2.2.2.ld (Heap.le.refl _) rfl hkt fun z hz => ?_
   refine Qmh (m := 800) hz (b1.mem (List.getElem_mem hkt)) (by omega) (by omega) fun r r1 r2 r3 => ?_
   skip
   rw [Qz (by omega) (by omega), Qz (by omega) (by omega)]
   refine ⟨⟨rfl, k + 1, m + r, by simp, by omega, by omega, fun hh => ?_⟩, by first | omega | (dsimp only; omega)⟩
   rw [Qh4 hkt]
   have := r3 (by omega)
   have := hm3 hmm
   omega
  ·skip
   rw [Qz (by omega) (by omega)]
   refine ⟨⟨rfl, i + 1, m, by simp, by omega, by omega, fun hh => ?_⟩, by first | omega | (dsimp only; omega)⟩
   have hke : k = l[i].row.length := by
    simp only [Bool.and_eq_false_iff, decide_eq_false_iff_not] at h2
    omega
   have := hm3 hh
   rw [hke, List.take_length] at this
   rw [Qmy hlt, hqe]
   have := hn3 hnm
   omega
 ·refine k _ fun hh => FewOp.of hB ?_
  have hh := of_decide_eq_false hh
  dsimp only at hh
  have hie : i = l.length := by
   simp only [Bool.and_eq_false_iff, decide_eq_false_iff_not] at h
   omega
  have := hn3 (by omega)
  rw [hie, List.take_length] at this
  omega
/-- what a step makes of what is there -/
structure Stp (a : Nat → Sta) (n : Nat) (a2 : Nat → Sta) (n2 : Nat) : Prop where
 le : n ≤ n2
 old : ∀ i, i ≤ n → a2 i = a i
theorem Stp.trans {a2 a3 : Nat → Sta} {n2 n3 : Nat} (h : Stp a n a2 n2) (h' : Stp a2 n2 a3 n3) : Stp a n a3 n3 := ⟨Nat.le_trans h.le h'.le, fun i hi => (h'.old i (Nat.le_trans hi h.le)).trans (h.old i hi)⟩
end
end
end Sx
end
