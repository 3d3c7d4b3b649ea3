/-
  Texts of this family, one behind the other: ValO1, SortP, SortQ, ValM, ValN1, ShowQ, BldB, ShowP, SortE, ValN2, ValH, Zs1, Zs2, Zs3, Zs4, ZsQ, Zs5, Zs6, Zs7, Zs8, Zs9, Zs10, Zs11, Zs12, Zs13, Zs14.
-/
import Derived.Test.YtgmcalaliipajaaGreatDoorAT4
import Derived.Lib.ItoaNum
import Derived.Lib.ItoaLen
noncomputable section
set_option linter.unusedVariables false
set_option linter.unusedSimpArgs false
namespace Sx
open Go Go.Proofs
/-- an order, told by signs -/
structure Lin {α : Type} (f : α → α → Int) (P : α → Prop) : Prop where
 anti : ∀ a b, P a → P b → f b a = - f a b
 rng : ∀ a b, P a → P b → -1 ≤ f a b ∧ f a b ≤ 1
 tr : ∀ a b c, P a → P b → P c → f a b ≤ 0 → f b c ≤ 0 → f a c ≤ 0 ∧ (f a b < 0 ∨ f b c < 0 → f a c < 0)
section
variable {α β : Type} {f g : α → α → Int} {P Q : α → Prop}
theorem Lin.refl (h : Lin f P) {a : α} (ha : P a) : f a a = 0 := by have := h.anti a a ha ha; omega
theorem Lin.l0 (h : Lin f P) {a b c : α} (ha : P a) (hb : P b) (hc : P c) (e : f a b = 0) : f a c = f b c := by
 have t1 := h.tr a b c ha hb hc (by omega)
 have e' := h.anti a b ha hb
 have t2 := h.tr b a c hb ha hc (by omega)
 have r1 := h.rng a c ha hc
 have r2 := h.rng b c hb hc
 rcases Int.lt_trichotomy (f b c) 0 with h1 | h1 | h1
 ·have := (t1 (by omega)).2 (.inr h1); omega
 ·have k1 := (t1 (by omega)).1
  rcases Int.lt_trichotomy (f a c) 0 with h2 | h2 | h2
  ·have := (t2 (by omega)).2 (.inr h2); omega
  ·omega
  ·omega
 ·rcases Int.lt_trichotomy (f a c) 0 with h2 | h2 | h2
  ·have := (t2 (by omega)).2 (.inr h2); omega
  ·have := (t2 (by omega)).1; omega
  ·omega
theorem Lin.r0 (h : Lin f P) {a b c : α} (ha : P a) (hb : P b) (hc : P c) (e : f b c = 0) : f a c = f a b := by
 have h1 := h.anti b c hb hc
 have h2 := h.l0 hc hb ha (by omega)
 have h3 := h.anti a c ha hc
 have h4 := h.anti a b ha hb
 omega
theorem Lin.sub (h : Lin f P) (hs : ∀ a, Q a → P a) : Lin f Q := ⟨fun a b ha hb => h.anti a b (hs a ha) (hs b hb), fun a b ha hb => h.rng a b (hs a ha) (hs b hb), fun a b c ha hb hc => h.tr a b c (hs a ha) (hs b hb) (hs c hc)⟩
theorem Lin.swap (h : Lin f P) : Lin (fun a b => f b a) P := ⟨fun a b ha hb => h.anti b a hb ha, fun a b ha hb => h.rng b a hb ha, fun a b c ha hb hc h1 h2 => by
 have := h.tr c b a hc hb ha h2 h1
 exact ⟨this.1, fun hh => this.2 hh.symm⟩⟩
theorem Lin.comp {f : β → β → Int} {P : β → Prop} (h : Lin f P) (u : α → β) : Lin (fun a b => f (u a) (u b)) (fun a => P (u a)) :=
 ⟨fun a b ha hb => h.anti _ _ ha hb, fun a b ha hb => h.rng _ _ ha hb, fun a b c ha hb hc => h.tr _ _ _ ha hb hc⟩
theorem Lin.or (h : Lin f P) (h2 : Lin g P) : Lin (fun a b => if f a b ≠ 0 then f a b else g a b) P := by
 refine ⟨fun a b ha hb => ?_, fun a b ha hb => ?_, fun a b c ha hb hc => ?_⟩
 ·have e1 := h.anti a b ha hb
  have e2 := h2.anti a b ha hb
  try dsimp only
  by_cases hz : f a b = 0
  ·rw [if_neg (by omega), if_neg (by omega)]; exact e2
  ·rw [if_pos (by omega), if_pos (by omega)]; exact e1
 ·try dsimp only
  split
  ·exact h.rng a b ha hb
  ·exact h2.rng a b ha hb
 ·try dsimp only
  have t := h.tr a b c ha hb hc
  have t2 := h2.tr a b c ha hb hc
  by_cases h1 : f a b = 0
  ·have e := h.l0 ha hb hc h1
   by_cases h3 : f b c = 0
   ·rw [if_neg (by omega), if_neg (by omega), if_neg (by omega)]; exact t2
   ·rw [if_neg (by omega), if_pos h3, if_pos (by omega)]
    intro _ k2
    exact ⟨by omega, fun _ => by omega⟩
  ·by_cases h3 : f b c = 0
   ·have e := h.r0 ha hb hc h3
    rw [if_pos h1, if_neg (by omega), if_pos (by omega)]
    intro k1 _
    exact ⟨by omega, fun _ => by omega⟩
   ·rw [if_pos h1, if_pos h3]
    intro k1 k2
    have := (t k1 k2).2 (.inl (by omega))
    rw [if_pos (by omega)]
    exact ⟨by omega, fun _ => this⟩
/-- first by classes, then within a class -/
theorem Lin.sel {κ : α → Int} {B : Int → α → α → Int} (hs : Lin (fun a b : Int => sgn a b) fun _ => True) (h : ∀ k, Lin (B k) P) : Lin (fun a b => if κ a ≠ κ b then sgn (κ a) (κ b) else B (κ a) a b) P := by
 refine ⟨fun a b ha hb => ?_, fun a b ha hb => ?_, fun a b c ha hb hc => ?_⟩
 ·try dsimp only
  by_cases hz : κ a = κ b
  ·rw [if_neg (by omega), if_neg (by omega), hz]; exact (h _).anti a b ha hb
  ·rw [if_pos (by omega), if_pos (by omega)]; exact hs.anti _ _ trivial trivial
 ·try dsimp only
  split
  ·exact hs.rng _ _ trivial trivial
  ·exact (h _).rng a b ha hb
 ·try dsimp only
  have t := hs.tr (κ a) (κ b) (κ c) trivial trivial trivial
  try dsimp only at t
  by_cases h1 : κ a = κ b
  ·by_cases h3 : κ b = κ c
   ·rw [if_neg (by omega), if_neg (by omega), if_neg (by omega), ← h1]; exact (h _).tr a b c ha hb hc
   ·rw [if_neg (by omega), if_pos h3, if_pos (by omega), h1]
    intro _ k2
    have := sgn_zero (a := κ b) (b := κ c)
    exact ⟨by omega, fun _ => by omega⟩
  ·have z1 := sgn_zero (a := κ a) (b := κ b)
   by_cases h3 : κ b = κ c
   ·rw [if_pos h1, if_neg (by omega), if_pos (by omega), ← h3]
    intro k1 _
    exact ⟨by omega, fun _ => by omega⟩
   ·rw [if_pos h1, if_pos h3]
    intro k1 k2
    have := (t k1 k2).2 (.inl (by omega))
    have z2 := sgn_neg.1 this
    rw [if_pos (by omega)]
    exact ⟨by omega, fun _ => this⟩
end
theorem Lin.sgn : Lin (fun a b : Int => sgn a b) fun _ => True := by
 refine ⟨fun a b _ _ => ?_, fun a b _ _ => sgn_rng a b, fun a b c _ _ _ h1 h2 => ?_⟩
 ·unfold Sx.sgn; split <;> split <;> omega
 ·have n1 := sgn_neg (a := a) (b := b)
  have n2 := sgn_neg (a := b) (b := c)
  have n3 := sgn_neg (a := a) (b := c)
  have z1 := sgn_zero (a := a) (b := b)
  have z2 := sgn_zero (a := b) (b := c)
  have z3 := sgn_zero (a := a) (b := c)
  omega
def lexF {α : Type} (f : α → α → Int) : List α → List α → Int
 | [], [] => 0
 | [], _ :: _ => -1
 | _ :: _, [] => 1
 | a :: s, b :: t => if f a b ≠ 0 then f a b else lexF f s t
theorem Lin.lex {α : Type} {f : α → α → Int} {P : α → Prop} (h : Lin f P) : Lin (lexF f) (fun l => ∀ a ∈ l, P a) := by
 refine ⟨fun l => ?_, fun l => ?_, fun l => ?_⟩
 ·induction l with
  | nil => intro m _ _; cases m <;> simp [lexF]
  | cons a l ih =>
   intro m hl hm
   cases m with
   | nil => simp [lexF]
   | cons b m =>
    have ha := hl a (List.mem_cons_self ..)
    have hb := hm b (List.mem_cons_self ..)
    have e1 := h.anti a b ha hb
    have e2 := ih m (fun x hx => hl x (List.mem_cons_of_mem _ hx)) (fun x hx => hm x (List.mem_cons_of_mem _ hx))
    simp only [lexF]
    by_cases hz : f a b = 0
    ·rw [if_neg (by omega), if_neg (by omega)]; exact e2
    ·rw [if_pos (by omega), if_pos (by omega)]; exact e1
 ·induction l with
  | nil => intro m _ _; cases m <;> simp [lexF]
  | cons a l ih =>
   intro m hl hm
   cases m with
   | nil => simp [lexF]
   | cons b m =>
    simp only [lexF]
    split
    ·exact h.rng a b (hl a (List.mem_cons_self ..)) (hm b (List.mem_cons_self ..))
    ·exact ih m (fun x hx => hl x (List.mem_cons_of_mem _ hx)) (fun x hx => hm x (List.mem_cons_of_mem _ hx))
 ·induction l with
  | nil =>
   intro m n _ _ _ h1 h2
   cases n with
   | nil =>
    cases m with
    | nil => simp [lexF]
    | cons b m => simp [lexF] at h2
   | cons c n => simp [lexF]
  | cons a l ih =>
   intro m n hl hm hn
   cases m with
   | nil => intro h1; simp [lexF] at h1
   | cons b m =>
   cases n with
   | nil => intro _ h2; simp [lexF] at h2
   | cons c n =>
    have ha := hl a (List.mem_cons_self ..)
    have hb := hm b (List.mem_cons_self ..)
    have hc := hn c (List.mem_cons_self ..)
    have t := h.tr a b c ha hb hc
    have t2 := ih m n (fun x hx => hl x (List.mem_cons_of_mem _ hx)) (fun x hx => hm x (List.mem_cons_of_mem _ hx)) (fun x hx => hn x (List.mem_cons_of_mem _ hx))
    simp only [lexF]
    by_cases h1 : f a b = 0
    ·have e := h.l0 ha hb hc h1
     by_cases h3 : f b c = 0
     ·rw [if_neg (by omega), if_neg (by omega), if_neg (by omega)]; exact t2
     ·rw [if_neg (by omega), if_pos h3, if_pos (by omega)]
      intro _ k2
      exact ⟨by omega, fun _ => by omega⟩
    ·by_cases h3 : f b c = 0
     ·have e := h.r0 ha hb hc h3
      rw [if_pos h1, if_neg (by omega), if_pos (by omega)]
      intro k1 _
      exact ⟨by omega, fun _ => by omega⟩
     ·rw [if_pos h1, if_pos h3]
      intro k1 k2
      have := (t k1 k2).2 (.inl (by omega))
      rw [if_pos (by omega)]
      exact ⟨by omega, fun _ => this⟩
theorem vcmpS_lex : ∀ s t : Str, vcmpS s t = lexF (fun a b : UInt8 => sgn a.toNat b.toNat) s t
 | [], [] => rfl
 | [], _ :: _ => rfl
 | _ :: _, [] => rfl
 | a :: s, b :: t => by
  simp only [vcmpS, lexF, vcmpS_lex s t]
  by_cases h : a = b
  ·subst h; rw [sgn_self]; simp
  ·have : ¬ sgn a.toNat b.toNat = 0 := fun e => h (UInt8.toNat_inj.1 (by have := sgn_zero.1 e; omega))
   rw [if_neg h, if_pos this]
theorem Lin.txt : Lin vcmpS fun _ => True := by
 have h := (Lin.sgn.comp (fun a : UInt8 => (a.toNat : Int))).lex
 have e : vcmpS = lexF (fun a b : UInt8 => Sx.sgn a.toNat b.toNat) := funext fun s => funext fun t => vcmpS_lex s t
 rw [e]
 exact h.sub fun _ _ _ _ => trivial
theorem Lin.dig : Lin cmpD fun _ => True := by
 have h := (Lin.sgn.comp (fun a : Str => (a.length : Int))).or Lin.txt
 have e : cmpD = fun a b : Str => if Sx.sgn a.length b.length ≠ 0 then Sx.sgn a.length b.length else vcmpS a b := funext fun a => funext fun b => by
  unfold cmpD
  by_cases hl : a.length = b.length
  ·rw [if_pos hl, if_neg (by rw [hl, sgn_self]; simp)]
  ·rw [if_neg hl, if_pos (fun e => hl (by have := sgn_zero.1 e; omega))]
 rw [e]; exact h
theorem Lin.bigs : Lin cmpB fun _ => True := by
 have h := Lin.sel (α := Str) (P := fun _ => True) (κ := fun s => if isMin s then 0 else 1) (B := fun k a b => if k = 0 then cmpD b.tail a.tail else cmpD a b) Lin.sgn fun k => by
  by_cases hk : k = 0
  ·subst hk
   simp only [if_true]
   exact (Lin.dig.swap.comp List.tail)
  ·simp only [if_neg hk]
   exact Lin.dig
 have e : cmpB = fun a b : Str => if (if isMin a then (0 : Int) else 1) ≠ (if isMin b then 0 else 1) then Sx.sgn (if isMin a then 0 else 1) (if isMin b then 0 else 1) else (if (if isMin a then (0 : Int) else 1) = 0 then cmpD b.tail a.tail else cmpD a b) := funext fun a => funext fun b => by
  unfold cmpB
  cases ha : isMin a <;> cases hb : isMin b <;> simp [Sx.sgn]
 rw [e]; exact h
theorem cmpVs_lex : ∀ l m : List V, cmpVs l m = lexF cmpV l m
 | [], [] => rfl
 | [], _ :: _ => rfl
 | _ :: _, [] => rfl
 | v :: l, w :: m => by simp only [cmpVs, lexF, cmpVs_lex l m]
theorem Lin.vals : ∀ n : Nat, Lin cmpV fun v => vsize v ≤ n := by
 intro n
 induction n with
 | zero => exact ⟨fun a b ha => by obtain ⟨k, n, s, l⟩ := a; simp [vsize] at ha, fun a b ha => by obtain ⟨k, n, s, l⟩ := a; simp [vsize] at ha, fun a b c ha => by obtain ⟨k, n, s, l⟩ := a; simp [vsize] at ha⟩
 | succ n ih =>
  have hl : Lin (fun v w : V => cmpVs v.l w.l) fun v => vsize v ≤ n + 1 := by
   have h := (ih.lex).comp V.l
   have e : (fun v w : V => cmpVs v.l w.l) = fun v w : V => lexF cmpV v.l w.l := funext fun v => funext fun w => cmpVs_lex _ _
   rw [e]
   exact h.sub fun v hv x hx => by have := vsize_l hx; omega
  have hs : Lin (fun v w : V => vcmpS v.s w.s) fun v => vsize v ≤ n + 1 := (Lin.txt.comp V.s).sub fun _ _ => trivial
  have h := Lin.sel (α := V) (P := fun v => vsize v ≤ n + 1) (κ := V.k) (B := fun k v w => if k = 3 then cmpB v.s w.s else if k = 4 then vcmpS v.s w.s else if k = 5 then cmpVs v.l w.l else if k = 6 then (if vcmpS v.s w.s ≠ 0 then vcmpS v.s w.s else cmpVs v.l w.l) else Sx.sgn v.n w.n) Lin.sgn fun k => by
   by_cases h3 : k = 3
   ·simp only [if_pos h3]; exact (Lin.bigs.comp V.s).sub fun _ _ => trivial
   simp only [if_neg h3]
   by_cases h4 : k = 4
   ·simp only [if_pos h4]; exact hs
   simp only [if_neg h4]
   by_cases h5 : k = 5
   ·simp only [if_pos h5]; exact hl
   simp only [if_neg h5]
   by_cases h6 : k = 6
   ·simp only [if_pos h6]; exact hs.or hl
   simp only [if_neg h6]
   exact (Lin.sgn.comp V.n).sub fun _ _ => trivial
  have e : cmpV = fun v w : V => if v.k ≠ w.k then Sx.sgn v.k w.k else if v.k = 3 then cmpB v.s w.s else if v.k = 4 then vcmpS v.s w.s else if v.k = 5 then cmpVs v.l w.l else if v.k = 6 then (if vcmpS v.s w.s ≠ 0 then vcmpS v.s w.s else cmpVs v.l w.l) else Sx.sgn v.n w.n := funext fun v => funext fun w => cmpV_eq v w
  rw [e]; exact h
theorem Lin.val : Lin cmpV fun _ => True := by
 refine ⟨fun a b _ _ => ?_, fun a b _ _ => ?_, fun a b c _ _ _ => ?_⟩
 ·exact (Lin.vals (vsize a + vsize b)).anti a b (by omega) (by omega)
 ·exact (Lin.vals (vsize a + vsize b)).rng a b (by omega) (by omega)
 ·exact (Lin.vals (vsize a + vsize b + vsize c)).tr a b c (by omega) (by omega) (by omega)
theorem Lin.vs : Lin cmpVs fun _ => True := by
 have e : cmpVs = lexF cmpV := funext fun l => funext fun m => cmpVs_lex l m
 rw [e]
 exact Lin.val.lex.sub fun _ _ _ _ => trivial
theorem Lin.row : Lin cmpR fun _ => True := by
 have h := Lin.sel (α := List V) (P := fun _ => True) (κ := fun l => if mayR l then 0 else 1) (B := fun k a b => if k = 0 then cmpVs a b else 0) Lin.sgn fun k => by
  by_cases hk : k = 0
  ·simp only [if_pos hk]; exact Lin.vs
  ·simp only [if_neg hk]
   exact ⟨fun _ _ _ _ => rfl, fun _ _ _ _ => by simp, fun _ _ _ _ _ _ _ _ => by simp⟩
 have e : cmpR = fun a b : List V => if (if mayR a then (0 : Int) else 1) ≠ (if mayR b then 0 else 1) then Sx.sgn (if mayR a then 0 else 1) (if mayR b then 0 else 1) else (if (if mayR a then (0 : Int) else 1) = 0 then cmpVs a b else 0) := funext fun a => funext fun b => by
  unfold cmpR lastB
  cases ha : mayR a <;> cases hb : mayR b <;> simp [Sx.sgn]
 rw [e]; exact h
theorem cmpD_zero {a b : Str} (h : cmpD a b = 0) : a = b := by
 unfold cmpD at h
 by_cases hl : a.length = b.length
 ·rw [if_pos hl] at h; exact (vslt a b).2.1.1 h
 ·rw [if_neg hl] at h; exact absurd (sgn_zero.1 h) (by omega)
theorem isMin_cons {a : Str} (h : isMin a = true) : a = 45 :: a.tail := by
 cases a with
 | nil => simp [isMin] at h
 | cons c a => simp [isMin] at h; rw [h]; rfl
theorem cmpB_zero {a b : Str} (h : cmpB a b = 0) : a = b := by
 unfold cmpB at h
 cases ha : isMin a <;> cases hb : isMin b <;> rw [ha, hb] at h
 ·exact cmpD_zero (by simpa using h)
 ·simp at h
 ·simp at h
 ·have := cmpD_zero (by simpa using h)
  rw [isMin_cons ha, isMin_cons hb, this]
theorem cmpV_zero {v w : V} (hv : formV v = true) (hw : formV w = true) (h : cmpV v w = 0) : v = w := by
 have key : ∀ n, ∀ v w : V, vsize v ≤ n → formV v = true → formV w = true → cmpV v w = 0 → v = w := by
  intro n
  induction n with
  | zero => intro v w hn; obtain ⟨k, n, s, l⟩ := v; simp [vsize] at hn
  | succ n ih =>
   intro v w hn hv hw h
   have hrow : ∀ l m : List V, (∀ x ∈ l, vsize x ≤ n) → formVs l = true → formVs m = true → cmpVs l m = 0 → l = m := by
    intro l
    induction l with
    | nil => intro m _ _ _ h; cases m with
     | nil => rfl
     | cons w m => simp [cmpVs] at h
    | cons a l ihl =>
     intro m hn hl hm h
     cases m with
     | nil => simp [cmpVs] at h
     | cons b m =>
      simp only [cmpVs] at h
      simp only [formVs, Bool.and_eq_true] at hl hm
      split at h
      ·rename_i h1; exact absurd h h1
      ·rename_i h1
       have h1 : cmpV a b = 0 := by omega
       rw [ih a b (hn a (List.mem_cons_self ..)) hl.1 hm.1 h1, ihl m (fun x hx => hn x (List.mem_cons_of_mem _ hx)) hl.2 hm.2 h]
   have hvl : ∀ x ∈ v.l, vsize x ≤ n := fun x hx => by have := vsize_l hx; omega
   rw [formV_eq, Bool.and_eq_true] at hv hw
   rw [cmpV_eq] at h
   have ext : v.k = w.k → v.n = w.n → v.s = w.s → v.l = w.l → v = w := by
    intro e1 e2 e3 e4
    obtain ⟨k, n1, s, l⟩ := v
    obtain ⟨k', n1', s', l'⟩ := w
    have e1 : k = k' := e1
    have e2 : n1 = n1' := e2
    have e3 : s = s' := e3
    have e4 : l = l' := e4
    rw [e1, e2, e3, e4]
   by_cases hk : v.k = w.k
   ·rw [if_neg (by simp [hk])] at h
    rcases okN_kinds hv.1 with ⟨e, e1, e2⟩ | ⟨e, e1, e2⟩ | ⟨e, e1, e2⟩ | ⟨e, e1, e2⟩ | ⟨e, e1, e2⟩ | ⟨e, e1⟩ <;>
    rcases okN_kinds hw.1 with ⟨f, f1, f2⟩ | ⟨f, f1, f2⟩ | ⟨f, f1, f2⟩ | ⟨f, f1, f2⟩ | ⟨f, f1, f2⟩ | ⟨f, f1⟩ <;> try (exfalso; omega)
    ·rw [if_neg (by omega), if_neg (by omega), if_neg (by omega), if_neg (by omega)] at h
     exact ext hk (sgn_zero.1 h) (e1.trans f1.symm) ((List.length_eq_zero_iff.1 e2).trans (List.length_eq_zero_iff.1 f2).symm)
    ·rw [if_neg (by omega), if_neg (by omega), if_neg (by omega), if_neg (by omega)] at h
     exact ext hk (sgn_zero.1 h) (e1.trans f1.symm) ((List.length_eq_zero_iff.1 e2).trans (List.length_eq_zero_iff.1 f2).symm)
    ·rw [if_pos e] at h
     exact ext hk (e1.trans f1.symm) (cmpB_zero h) ((List.length_eq_zero_iff.1 e2).trans (List.length_eq_zero_iff.1 f2).symm)
    ·rw [if_neg (by omega), if_pos e] at h
     exact ext hk (e1.trans f1.symm) ((vslt v.s w.s).2.1.1 h) ((List.length_eq_zero_iff.1 e2).trans (List.length_eq_zero_iff.1 f2).symm)
    ·rw [if_neg (by omega), if_neg (by omega), if_pos e] at h
     exact ext hk (e1.trans f1.symm) (e2.trans f2.symm) (hrow v.l w.l hvl hv.2 hw.2 h)
    ·rw [if_neg (by omega), if_neg (by omega), if_neg (by omega), if_pos e] at h
     split at h
     ·rename_i h1; exact absurd h h1
     ·rename_i h1
      exact ext hk (e1.trans f1.symm) ((vslt v.s w.s).2.1.1 (by omega)) (hrow v.l w.l hvl hv.2 hw.2 h)
   ·rw [if_pos hk] at h; exact absurd (sgn_zero.1 h) hk
 exact key _ v w (Nat.le_refl _) hv hw h
theorem cmpVs_zero : ∀ {l m : List V}, mayR l = true → mayR m = true → cmpVs l m = 0 → l = m
 | [], [], _, _, _ => rfl
 | [], _ :: _, _, _, h => by simp [cmpVs] at h
 | _ :: _, [], _, _, h => by simp [cmpVs] at h
 | v :: l, w :: m, hl, hm, h => by
  simp only [cmpVs] at h
  simp only [mayR, List.all_cons, Bool.and_eq_true] at hl hm
  split at h
  ·rename_i h1; exact absurd h h1
  ·rename_i h1
   rw [cmpV_zero (mayV_form hl.1) (mayV_form hm.1) (by omega), cmpVs_zero (l := l) (m := m) hl.2 hm.2 h]
theorem cmpR_zero {l m : List V} (hl : mayR l = true) (hm : mayR m = true) : cmpR l m = 0 ↔ l = m := by
 refine ⟨fun h => ?_, fun h => by rw [h]; exact Lin.row.refl trivial⟩
 unfold cmpR at h
 rw [if_pos ⟨hl, hm⟩] at h
 exact cmpVs_zero hl hm h
end Sx
end

noncomputable section
set_option linter.unusedVariables false
set_option linter.unusedSimpArgs false
namespace Sx
open Go Go.Proofs
section
variable {α : Type} {κ : α → α → Int} {ι : α → Nat} {P : α → Prop}
/-- stands ahead; of two alike the one that was ahead -/
def Bf (κ : α → α → Int) (ι : α → Nat) (x y : α) : Prop := κ x y < 0 ∨ (κ x y = 0 ∧ ι x < ι y)
theorem Bf.le {x y : α} (h : Bf κ ι x y) : κ x y ≤ 0 := by rcases h with h | h <;> omega
theorem Bf.of {x y : α} (h : κ x y ≤ 0) (hi : ι x < ι y) : Bf κ ι x y := by
 rcases Int.lt_or_eq_of_le h with h | h
 ·exact .inl h
 ·exact .inr ⟨h, hi⟩
theorem pw_mid {R : α → α → Prop} {Y : List α} (h : Y.Pairwise R) {i : Nat} (hi : i < Y.length) : (∀ y ∈ Y.take i, R y Y[i]) ∧ (∀ y ∈ Y.drop (i + 1), R Y[i] y) := by
 have h' : (Y.take i ++ Y[i] :: Y.drop (i + 1)).Pairwise R := by rw [← List.drop_eq_getElem_cons hi, List.take_append_drop]; exact h
 rw [List.pairwise_append] at h'
 exact ⟨fun y hy => h'.2.2 y hy _ (List.mem_cons_self ..), fun y hy => (List.pairwise_cons.1 h'.2.1).1 y hy⟩
theorem pw_split {R : α → α → Prop} {Y : List α} (h : Y.Pairwise R) (i : Nat) : (Y.take i).Pairwise R ∧ (Y.drop i).Pairwise R ∧ ∀ x ∈ Y.take i, ∀ y ∈ Y.drop i, R x y := by
 have h' : (Y.take i ++ Y.drop i).Pairwise R := by rw [List.take_append_drop]; exact h
 exact List.pairwise_append.1 h'
theorem eq_mid {Y : List α} {i : Nat} (hi : i < Y.length) : Y = Y.take i ++ Y[i] :: Y.drop (i + 1) := by rw [← List.drop_eq_getElem_cons hi, List.take_append_drop]
theorem mem_take {Y : List α} {i : Nat} {x : α} (h : x ∈ Y.take i) : x ∈ Y := List.mem_of_mem_take h
theorem mem_drop {Y : List α} {i : Nat} {x : α} (h : x ∈ Y.drop i) : x ∈ Y := List.mem_of_mem_drop h
theorem snoc_of {Y : List α} (h : Y ≠ []) : ∃ Z z, Y = Z ++ [z] := ⟨Y.dropLast, Y.getLast h, (List.dropLast_concat_getLast h).symm⟩
/-- one, then many -/
theorem ins1 (hL : Lin κ P) {x : α} {Y1 Y2 : List α} (hY : (Y1 ++ Y2).Pairwise (Bf κ ι)) (hPx : P x) (hPY : ∀ y ∈ Y1 ++ Y2, P y) (h1 : ∀ y ∈ Y1, κ y x < 0) (h2 : ∀ y ∈ Y2, ¬ κ y x < 0) (hi : ∀ y ∈ Y1 ++ Y2, ι x < ι y) : (Y1 ++ x :: Y2).Pairwise (Bf κ ι) := by
 rw [List.pairwise_append] at hY ⊢
 refine ⟨hY.1, List.pairwise_cons.2 ⟨fun y hy => ?_, hY.2.1⟩, fun y hy z hz => ?_⟩
 ·have hm := List.mem_append_right Y1 hy
  have := hL.anti y x (hPY y hm) hPx
  have := h2 y hy
  exact Bf.of (by omega) (hi y hm)
 ·rcases List.mem_cons.1 hz with rfl | hz
  ·exact .inl (h1 y hy)
  ·exact hY.2.2 y hy z hz
/-- many, then one -/
theorem ins2 (hL : Lin κ P) {y : α} {X1 X2 : List α} (hX : (X1 ++ X2).Pairwise (Bf κ ι)) (hPy : P y) (hPX : ∀ x ∈ X1 ++ X2, P x) (h1 : ∀ x ∈ X1, ¬ κ y x < 0) (h2 : ∀ x ∈ X2, κ y x < 0) (hi : ∀ x ∈ X1 ++ X2, ι x < ι y) : (X1 ++ y :: X2).Pairwise (Bf κ ι) := by
 rw [List.pairwise_append] at hX ⊢
 refine ⟨hX.1, List.pairwise_cons.2 ⟨fun x hx => .inl (h2 x hx), hX.2.1⟩, fun x hx z hz => ?_⟩
 rcases List.mem_cons.1 hz with rfl | hz
 ·have hm := List.mem_append_left X2 hx
  have := hL.anti z x hPy (hPX x hm)
  have := h1 x hx
  exact Bf.of (by omega) (hi x hm)
 ·exact hX.2.2 x hx z hz
/-- what was sorted by blocks -/
inductive Ch (κ : α → α → Int) (ι : α → Nat) (bs : Nat) : List α → List α → Prop
 | last {Z L : List α} : L.length < bs → Z.Perm L → Z.Pairwise (Bf κ ι) → Ch κ ι bs Z L
 | cons {Z L Z' L' : List α} : L.length = bs → Z.Perm L → Z.Pairwise (Bf κ ι) → Ch κ ι bs Z' L' → Ch κ ι bs (Z ++ Z') (L ++ L')
theorem Ch.perm {bs : Nat} {Z L : List α} (h : Ch κ ι bs Z L) : Z.Perm L := by
 induction h with
 | last _ h _ => exact h
 | cons _ h _ _ ih => exact h.append ih
theorem Ch.big {bs : Nat} {Z L : List α} (h : Ch κ ι bs Z L) (hl : bs ≤ L.length) : ∃ Z1 Z2 L1 L2, Z = Z1 ++ Z2 ∧ L = L1 ++ L2 ∧ L1.length = bs ∧ Z1.Perm L1 ∧ Z1.Pairwise (Bf κ ι) ∧ Ch κ ι bs Z2 L2 := by
 cases h with
 | last h _ _ => omega
 | cons h1 h2 h3 h4 => exact ⟨_, _, _, _, rfl, rfl, h1, h2, h3, h4⟩
theorem Ch.small {bs : Nat} {Z L : List α} (h : Ch κ ι bs Z L) (hl : L.length < bs) : Z.Pairwise (Bf κ ι) := by
 cases h with
 | last _ _ h => exact h
 | cons h1 h2 h3 h4 => rw [List.length_append] at hl; omega
theorem Ch.all {bs : Nat} {Z L : List α} (h : Ch κ ι bs Z L) (hl : L.length ≤ bs) (h0 : 0 < bs) : Z.Pairwise (Bf κ ι) := by
 cases h with
 | last _ _ h => exact h
 | @cons Z1 L1 Z2 L2 h1 h2 h3 h4 =>
  rw [List.length_append] at hl
  have hp := h4.perm.length_eq
  have e : Z2 = [] := List.length_eq_zero_iff.1 (by rw [hp]; omega)
  rw [e, List.append_nil]; exact h3
end
theorem half_ok {a b : Nat} (h : a + b ≤ 4611686018427387904) : w .i64 (sShr .u64 (w .u64 (w .i64 ((a : Int) + (b : Int)))) 1) = (((a + b) / 2 : Nat) : Int) := by
 have e1 : w .u64 ((a : Int) + b) = (a : Int) + b := by
  exact w_u64 (by omega) (by omega)
 have e2 : sShr .u64 ((a : Int) + b) 1 = (((a + b) / 2 : Nat) : Int) := by
  unfold sShr
  have : (2 : Int) ^ (min (1 : Int).toNat IntKind.u64.bits) = 2 := by decide
  rw [this, Int.fdiv_eq_ediv_of_nonneg _ (by omega)]; omega
 rw [w_i64 (x := (a : Int) + b) (by omega) (by omega), e1, e2, w_i64 (by omega) (by omega)]
end Sx
end

noncomputable section
set_option linter.unusedVariables false
set_option linter.unusedSimpArgs false
namespace Sx
open Go Go.Proofs
section
variable {α β : Type} {κ : α → α → Int} {ι : α → Nat} {P : α → Prop}
/-- of each kind the first one, rising -/
structure Rep (κ : α → α → Int) (ι : α → Nat) (L A : List α) : Prop where
 asc : A.Pairwise fun a b => κ a b < 0
 sub : ∀ y ∈ A, y ∈ L
 all : ∀ x ∈ L, ∃ y ∈ A, κ y x = 0
 fst : ∀ y ∈ A, ∀ x ∈ L, κ y x = 0 → x = y ∨ ι y < ι x
theorem Rep.perm {L M A : List α} (h : Rep κ ι L A) (hp : L.Perm M) : Rep κ ι M A :=
 ⟨h.asc, fun y hy => hp.mem_iff.1 (h.sub y hy), fun x hx => h.all x (hp.mem_iff.2 hx), fun y hy x hx => h.fst y hy x (hp.mem_iff.2 hx)⟩
theorem asc_ext (hL : Lin κ P) : ∀ {A B : List α}, A.Pairwise (fun a b => κ a b < 0) → B.Pairwise (fun a b => κ a b < 0) → (∀ x ∈ A, P x) → (∀ x, x ∈ A ↔ x ∈ B) → A = B
 | [], [], _, _, _, _ => rfl
 | [], b :: B, _, _, _, h => absurd ((h b).2 (List.mem_cons_self ..)) (by simp)
 | a :: A, [], _, _, _, h => absurd ((h a).1 (List.mem_cons_self ..)) (by simp)
 | a :: A, b :: B, hA, hB, hP, h => by
  rw [List.pairwise_cons] at hA hB
  have hab : a = b := by
   rcases List.mem_cons.1 ((h a).1 (List.mem_cons_self ..)) with e | e
   ·exact e
   rcases List.mem_cons.1 ((h b).2 (List.mem_cons_self ..)) with e2 | e2
   ·exact e2.symm
   have h1 := hB.1 a e
   have h2 := hA.1 b e2
   have := hL.anti a b (hP a (List.mem_cons_self ..)) (hP b ((h b).2 (List.mem_cons_self ..)))
   omega
  subst hab
  have hr := hL.refl (hP a (List.mem_cons_self ..))
  rw [asc_ext hL hA.2 hB.2 (fun x hx => hP x (List.mem_cons_of_mem _ hx)) fun x => ⟨fun hx => ?_, fun hx => ?_⟩]
  ·rcases List.mem_cons.1 ((h x).1 (List.mem_cons_of_mem _ hx)) with e | e
   ·have := hA.1 x hx; rw [e] at this; omega
   ·exact e
  ·rcases List.mem_cons.1 ((h x).2 (List.mem_cons_of_mem _ hx)) with e | e
   ·have := hB.1 x hx; rw [e] at this; omega
   ·exact e
theorem Rep.uniq (hL : Lin κ P) {L A B : List α} (hP : ∀ x ∈ L, P x) (ha : Rep κ ι L A) (hb : Rep κ ι L B) : A = B := by
 have key : ∀ {A B : List α}, Rep κ ι L A → Rep κ ι L B → ∀ x ∈ A, x ∈ B := fun {A B} ha hb x hx => by
  have hxl := ha.sub x hx
  obtain ⟨z, hz, e⟩ := hb.all x hxl
  have hzl := hb.sub z hz
  have e2 := hL.anti x z (hP x hxl) (hP z hzl)
  rcases hb.fst z hz x hxl e with h | h
  ·rw [h]; exact hz
  rcases ha.fst x hx z hzl (by omega) with h2 | h2
  ·rw [← h2]; exact hz
  ·omega
 exact asc_ext hL ha.asc hb.asc (fun x hx => hP x (ha.sub x hx)) fun x => ⟨key ha hb x, key hb ha x⟩
end
end Sx
end

noncomputable section
set_option linter.unusedVariables false
set_option linter.unusedSimpArgs false
namespace Sx
open Go Go.Proofs
def Heap.new (H H2 : Heap) : Heap := fun x => if (H x).isSome then none else H2 x
theorem Heap.new_some {H H2 : Heap} {x : Nat} {e : Bool × GO} (h : H2 x = some e) (hn : H x = none) : Heap.new H H2 x = some e := by
 unfold Heap.new; rw [hn]; exact h
theorem Heap.new_inv {H H2 : Heap} {x : Nat} {e : Bool × GO} (h : Heap.new H H2 x = some e) : H x = none ∧ H2 x = some e := by
 unfold Heap.new at h
 cases hx : H x with
 | none => rw [hx] at h; exact ⟨rfl, h⟩
 | some y => rw [hx] at h; cases h
theorem Heap.new_le (H H2 : Heap) : (Heap.new H H2).le H2 := fun x e h => (Heap.new_inv h).2
/-- a row of values that may be written over, with all that is in it: its blocks are N's; k deep at most -/
def Sp (N : Nat → Prop) (H : Heap) : Nat → Sl → Prop
 | 0, t => t.len = 0
 | k + 1, t => t.len = 0 ∨ ∃ (b : Nat) (xs : List TV) (sp : List Value), N b ∧ t.p = some (b, 0) ∧ t.x = none ∧ H b = some (true, .row (xs.flatMap T_api_Value.c ++ sp)) ∧ (t.len ≤ xs.length ∧ xs.length ≤ 1000000) ∧ ∀ x ∈ xs, Sp N H k x.L
section
variable {N M : Nat → Prop} {H H2 : Heap}
theorem Sp.nil (k : Nat) {t : Sl} (h : t.len = 0) : Sp N H k t := by
 cases k with
 | zero => exact h
 | succ k => exact .inl h
theorem Sp.mono : ∀ {k : Nat} {t : Sl}, Sp N H k t → Sp N H (k + 1) t
 | 0, t, h => .inl h
 | k + 1, t, .inl h => .inl h
 | k + 1, t, .inr ⟨b, xs, sp, h1, h2, h3, h4, h5, h6⟩ => .inr ⟨b, xs, sp, h1, h2, h3, h4, h5, fun x hx => Sp.mono (h6 x hx)⟩
theorem Sp.up {k m : Nat} {t : Sl} (h : Sp N H k t) (hk : k ≤ m) : Sp N H m t := by
 induction hk with
 | refl => exact h
 | step _ ih => exact ih.mono
theorem Sp.to (h : ∀ b e, N b → H b = some e → M b ∧ H2 b = some e) : ∀ {k : Nat} {t : Sl}, Sp N H k t → Sp M H2 k t
 | 0, t, h0 => h0
 | k + 1, t, .inl h0 => .inl h0
 | k + 1, t, .inr ⟨b, xs, sp, h1, h2, h3, h4, h5, h6⟩ => .inr ⟨b, xs, sp, (h b _ h1 h4).1, h2, h3, (h b _ h1 h4).2, h5, fun x hx => Sp.to h (h6 x hx)⟩
theorem Sp.all : ∀ {xs : List TV}, (∀ x ∈ xs, ∃ k, Sp N H k x.L) → ∃ k, ∀ x ∈ xs, Sp N H k x.L
 | [], _ => ⟨0, fun x hx => by cases hx⟩
 | y :: xs, h => by
  obtain ⟨k, hk⟩ := h y (List.mem_cons_self ..)
  obtain ⟨m, hm⟩ := Sp.all (xs := xs) fun x hx => h x (List.mem_cons_of_mem _ hx)
  refine ⟨max k m, fun x hx => ?_⟩
  rcases List.mem_cons.1 hx with rfl | hx
  ·exact hk.up (Nat.le_max_left ..)
  ·exact (hm x hx).up (Nat.le_max_right ..)
/-- what a copy is -/
structure Made (H H2 : Heap) (l : List V) (t : Sl) : Prop where
 le : H.le H2
 row : VRow (Heap.new H H2) t l
 sp : ∃ k, Sp (fun b => H b = none) H2 k t
 cp : t.len ≤ t.cap
theorem Made.row2 {l : List V} {t : Sl} (h : Made H H2 l t) : VRow H2 t l := h.row.le (Heap.new_le _ _)
theorem Made.up {H3 : Heap} {l : List V} {t : Sl} (h : Made H H2 l t) (hle : H2.le H3) : Made H H3 l t := by
 refine ⟨h.le.trans hle, h.row.le fun x e hx => ?_, ?_, h.cp⟩
 ·obtain ⟨a, b⟩ := Heap.new_inv hx
  exact Heap.new_some (hle _ _ b) a
 ·obtain ⟨k, hk⟩ := h.sp
  exact ⟨k, hk.to fun b e h he => ⟨h, hle b e he⟩⟩
theorem Made.down {H0 : Heap} {l : List V} {t : Sl} (h : Made H H2 l t) (hle : H0.le H) : Made H0 H2 l t := by
 refine ⟨hle.trans h.le, h.row.le fun x e hx => ?_, ?_, h.cp⟩
 ·obtain ⟨a, b⟩ := Heap.new_inv hx
  exact Heap.new_some b (hle.none a)
 ·obtain ⟨k, hk⟩ := h.sp
  exact ⟨k, hk.to fun b e h he => ⟨hle.none h, he⟩⟩
theorem Made.nil {H : Heap} {t : Sl} (h : t.len = 0) : Made H H [] t := ⟨Heap.le.refl _, ⟨[], .inl rfl, by simpa using h, trivial⟩, ⟨0, h⟩, by omega⟩
theorem vsizes_len : ∀ l : List V, l.length ≤ vsizes l
 | [] => Nat.le_refl _
 | v :: l => by
  have := vsizes_len l
  have hv : vsize v = vsizes v.l + 1 := by cases v; rfl
  simp only [vsizes, List.length_cons]; omega
theorem flat4 : ∀ xs : List TV, (xs.flatMap T_api_Value.c).length = xs.length * 4
 | [] => rfl
 | x :: xs => by rw [List.flatMap_cons, List.length_append, flat4 xs, TV.c_len, List.length_cons]; omega
theorem set_L {t : Sl} {sp : List Value} : ∀ (xs : List TV) (i : Nat) (hi : i < xs.length), ((xs.flatMap T_api_Value.c) ++ sp).set (i * 4 + 3) (slv t) = (xs.set i { xs[i] with L := t }).flatMap T_api_Value.c ++ sp
 | [], i, hi => by simp at hi
 | x :: xs, 0, hi => by
  simp only [List.flatMap_cons, List.getElem_cons_zero, List.set_cons_zero]
  rfl
 | x :: xs, i + 1, hi => by
  have ih := set_L (t := t) (sp := sp) xs i (by simpa using hi)
  simp only [List.flatMap_cons, List.set_cons_succ, List.getElem_cons_succ, List.append_assoc]
  have e : (i + 1) * 4 + 3 = (T_api_Value.c x).length + (i * 4 + 3) := by rw [TV.c_len]; omega
  rw [← ih, e, List.set_append_right _ _ (Nat.le_add_right ..), Nat.add_sub_cancel_left]
/-- the copy's loop: what stands in the copy's block b over B -/
structure Ow (A H B : Heap) (b i : Nat) (l : List V) (xs ys : List TV) : Prop where
 le : H.le B
 ale : A.le B
 nb : B b = none
 len : ys.length = l.length
 xlen : xs.length = l.length
 old : VsAre A l xs
 rest : ∀ j, i ≤ j → ys[j]? = xs[j]?
 done : ∀ (j : Nat) (v : V) (x : TV), j < i → l[j]? = some v → ys[j]? = some x → VIs (Heap.new H B) v x ∧ ∃ k, Sp (fun c => H c = none) B k x.L
theorem Ow.step {A B B2 : Heap} {b i : Nat} {l : List V} {xs ys : List TV} {sp : List Value} {t : Sl} (h : Ow A H B b i l xs ys) (hi : i < l.length) (hi2 : i < ys.length)
 (hm : Made (B.put b (.row (ys.flatMap T_api_Value.c ++ sp))) B2 l[i].l t) :
 Ow A H (B2.del b) b (i + 1) l xs (ys.set i { ys[i] with L := t }) ∧ B2.put b (.row (((ys.set i { ys[i] with L := t }).flatMap T_api_Value.c) ++ sp)) = (B2.del b).put b (.row (((ys.set i { ys[i] with L := t }).flatMap T_api_Value.c) ++ sp)) := by
 have hb : B.le (B2.del b) := fun x e hx => by
  have hne : x ≠ b := fun e' => by rw [e', h.nb] at hx; cases hx
  rw [Heap.del_ne _ hne]
  exact hm.le _ _ (by rw [Heap.put_ne _ _ _ hne]; exact hx)
 have hnn : (Heap.new H B).le (Heap.new H (B2.del b)) := fun x e hx => by
  obtain ⟨a, c⟩ := Heap.new_inv hx
  exact Heap.new_some (hb _ _ c) a
 have hPN : ∀ c, (B.put b (.row (ys.flatMap T_api_Value.c ++ sp))) c = none → H c = none ∧ c ≠ b := fun c hc => by
  have hne : c ≠ b := fun e' => by rw [e', Heap.put_same] at hc; cases hc
  rw [Heap.put_ne _ _ _ hne] at hc
  exact ⟨h.le.none hc, hne⟩
 refine ⟨⟨h.le.trans hb, h.ale.trans hb, Heap.del_same .., by rw [List.length_set]; exact h.len, h.xlen, h.old, fun j hj => ?_, fun j v x hj hv hx => ?_⟩, ?_⟩
 ·rw [List.getElem?_set_ne (by omega)]; exact h.rest j (by omega)
 ·by_cases hji : j = i
  ·subst hji
   rw [List.getElem?_set_self hi2] at hx
   have hx := Option.some.inj hx
   rw [List.getElem?_eq_getElem hi] at hv
   have hv := Option.some.inj hv
   subst hx; subst hv
   have hxi := h.rest j (Nat.le_refl _)
   rw [List.getElem?_eq_getElem hi2] at hxi
   have hold := VIs_iff.1 (h.old.get j _ _ (List.getElem?_eq_getElem hi) hxi.symm)
   refine ⟨VIs_iff.2 ⟨hold.1, hold.2.1, hold.2.2.1, hm.row.le fun c e hc => ?_⟩, ?_⟩
   ·obtain ⟨a1, a2⟩ := Heap.new_inv hc
    obtain ⟨a3, a4⟩ := hPN c a1
    exact Heap.new_some (by rw [Heap.del_ne _ a4]; exact a2) a3
   ·obtain ⟨k, hk⟩ := hm.sp
    refine ⟨k, hk.to fun c e hc he => ⟨(hPN c hc).1, ?_⟩⟩
    rw [Heap.del_ne _ (hPN c hc).2]; exact he
  ·rw [List.getElem?_set_ne (by omega)] at hx
   obtain ⟨d1, k, d2⟩ := h.done j v x (by omega) hv hx
   exact ⟨d1.le hnn, k, d2.to fun c e h he => ⟨h, hb c e he⟩⟩
 ·funext x
  by_cases hx : x = b
  ·subst hx; rw [Heap.put_same, Heap.put_same]
  ·rw [Heap.put_ne _ _ _ hx, Heap.put_ne _ _ _ hx, Heap.del_ne _ hx]
theorem Ow.fin {A B : Heap} {b n cap : Nat} {l : List V} {xs ys : List TV} {sp : List Value} (h : Ow A H B b n l xs ys) (hn : n = l.length) (hb : H b = none) (hz : l.length ≤ 1000000) (hcap : n ≤ cap) :
 Made H (B.put b (.row (ys.flatMap T_api_Value.c ++ sp))) l (Sl.of (some (b, 0)) n cap) := by
 have hBP : B.le (B.put b (.row (ys.flatMap T_api_Value.c ++ sp))) := Heap.le_put h.nb
 have hnn : (Heap.new H B).le (Heap.new H (B.put b (.row (ys.flatMap T_api_Value.c ++ sp)))) := fun x e hx => by
  obtain ⟨a, c⟩ := Heap.new_inv hx
  exact Heap.new_some (hBP _ _ c) a
 refine ⟨h.le.trans hBP, ⟨ys, .inr ⟨rfl, _, rfl, rds_row (Heap.new_some (Heap.put_same ..) hb) fun j v hj => ?_⟩, ?_, VsAre.of h.len.symm fun i v x hv hx => ?_⟩, ?_, hcap⟩
 ·rw [Nat.zero_add, List.getElem?_append_left (List.getElem?_eq_some_iff.1 hj).1]; exact hj
 ·show n = _; rw [hn, h.len]
 ·exact (h.done i v x (by rw [hn]; exact (List.getElem?_eq_some_iff.1 hv).1) hv hx).1.le hnn
 ·obtain ⟨k, hk⟩ : ∃ k, ∀ x ∈ ys, Sp (fun c => H c = none) B k x.L := Sp.all fun x hx => by
   obtain ⟨j, hj, e⟩ := List.getElem_of_mem hx
   have hl : j < l.length := by rw [← h.len]; exact hj
   exact (h.done j l[j] x (by omega) (List.getElem?_eq_getElem hl) (by rw [List.getElem?_eq_getElem hj, e])).2
  refine ⟨k + 1, .inr ⟨b, ys, sp, hb, rfl, rfl, Heap.put_same .., ⟨by show n ≤ _; rw [hn, h.len]; exact Nat.le_refl _, by rw [h.len]; exact hz⟩, fun x hx => (hk x hx).to fun c e h he => ⟨h, hBP c e he⟩⟩⟩
/-- a list that grows: what is made in it stands beside its own block -/
structure Od (H B : Heap) (l : List V) (s : Sl) (ys : List TV) : Prop where
 own : OwnF H B 4 s (ys.flatMap T_api_Value.c)
 le : ys.length ≤ l.length
 done : ∀ (j : Nat) (v : V) (x : TV), l[j]? = some v → ys[j]? = some x → VIs (Heap.new H (B.off s)) v x ∧ ∃ k, Sp (fun c => H c = none) (B.off s) k x.L
theorem Od.nil {l : List V} : Od H H l Sl.nil [] := ⟨OwnF.nil H 4, Nat.zero_le _, fun j v x _ hx => by simp at hx⟩
theorem Od.step {B B2 B3 B4 : Heap} {g : GO} {b : Nat} {l : List V} {s r t : Sl} {ys : List TV} {x : TV} (h : Od H B l s ys) (hb : B b = none) (hi : ys.length < l.length) (hm : Made (B.put b g) B2 l[ys.length].l t)
 (hx : x.Kind = l[ys.length].k ∧ x.N = l[ys.length].n ∧ x.S = l[ys.length].s) (hL : x.L = t) (h3 : Heap.but b B2 B3) (h4 : OwnF (B3.off s) B4 4 r (ys.flatMap T_api_Value.c ++ T_api_Value.c x)) : Od H B4 l r (ys ++ [x]) := by
 have hB2 : B.le B2 := (Heap.le_put hb).trans hm.le
 have hHb : H b = none := h.own.le.none hb
 have hB3 : H.le B3 := Heap.le.of_but (h.own.le.trans hB2) h3 hHb
 have hoff : (B.off s).le (B3.off s) := fun c e hc => by
  have hc' := Heap.off_le _ _ _ _ hc
  have hne : c ≠ b := fun e' => by rw [e', hb] at hc'; cases hc'
  refine Heap.off_some (h3 _ _ hne (hB2 _ _ hc')) fun p hp e' => ?_
  have := Heap.off_fresh s B p hp
  rw [e', hc] at this; cases this
 have h34 : (B3.off s).le (B4.off r) := Heap.le_off h4.le h4.fresh
 have hch : ∀ c e, (B.put b g) c = none → B2 c = some e → H c = none ∧ (B4.off r) c = some e := fun c e hn he => by
  have hne : c ≠ b := fun e' => by rw [e', Heap.put_same] at hn; cases hn
  rw [Heap.put_ne _ _ _ hne] at hn
  refine ⟨h.own.le.none hn, h34 _ _ (Heap.off_some (h3 _ _ hne he) fun p hp e' => ?_)⟩
  obtain ⟨g', hg'⟩ := h.own.own.mine hp
  rw [e', hn] at hg'; cases hg'
 have hnn : (Heap.new H (B.off s)).le (Heap.new H (B4.off r)) := fun c e hc => by
  obtain ⟨a1, a2⟩ := Heap.new_inv hc
  exact Heap.new_some (h34 _ _ (hoff _ _ a2)) a1
 refine ⟨?_, by rw [List.length_append]; exact hi, fun j v y hv hy => ?_⟩
 ·have e : (ys ++ [x]).flatMap T_api_Value.c = ys.flatMap T_api_Value.c ++ T_api_Value.c x := by rw [List.flatMap_append, List.flatMap_singleton]
  rw [e]
  exact h4.down (Heap.le_off hB3 h.own.fresh)
 ·by_cases hj : j < ys.length
  ·rw [List.getElem?_append_left hj] at hy
   obtain ⟨d1, k, d2⟩ := h.done j v y hv hy
   exact ⟨d1.le hnn, k, d2.to fun c e h he => ⟨h, h34 _ _ (hoff _ _ he)⟩⟩
  ·have hjl := (List.getElem?_eq_some_iff.1 hy).1
   rw [List.length_append, List.length_singleton] at hjl
   have hje : j = ys.length := by omega
   subst hje
   rw [List.getElem?_append_right (Nat.le_refl _), Nat.sub_self] at hy
   simp only [List.getElem?_cons_zero, Option.some.injEq] at hy
   rw [List.getElem?_eq_getElem hi] at hv
   have hv := Option.some.inj hv
   subst hy; subst hv
   refine ⟨VIs_iff.2 ⟨hx.1, hx.2.1, hx.2.2, ?_⟩, ?_⟩
   ·rw [hL]
    refine hm.row.le fun c e hc => ?_
    obtain ⟨a1, a2⟩ := Heap.new_inv hc
    obtain ⟨a3, a4⟩ := hch c e a1 a2
    exact Heap.new_some a4 a3
   ·obtain ⟨k, hk⟩ := hm.sp
    rw [hL]
    exact ⟨k, hk.to fun c e h he => hch c e h he⟩
theorem Od.fin {B : Heap} {l : List V} {s : Sl} {ys : List TV} (h : Od H B l s ys) (hn : ys.length = l.length) (hz : l.length ≤ 1000000) : Made H B l s := by
 have hnn : (Heap.new H (B.off s)).le (Heap.new H B) := fun x e hx => by
  obtain ⟨a, c⟩ := Heap.new_inv hx
  exact Heap.new_some (Heap.off_le _ _ _ _ c) a
 have hf := flat4 ys
 obtain ⟨o1, o2, o3, o4⟩ := h.own.own
 have hlen : s.len = ys.length := by omega
 have hvs : VsAre (Heap.new H B) l ys := VsAre.of hn.symm fun i v x hv hx => (h.done i v x hv hx).1.le hnn
 refine ⟨h.own.le, ⟨ys, ?_, hlen, hvs⟩, ?_, o3⟩
 ·rcases o4 with ⟨p0, c0⟩ | ⟨b, sp, hp, hb, hc⟩
  ·left
   have : ys.length = 0 := by omega
   rw [List.length_eq_zero_iff.1 this]; rfl
  ·refine .inr ⟨o2, _, hp, rds_row (Heap.new_some hb (h.own.fresh _ hp)) fun j v hj => ?_⟩
   rw [Nat.zero_add, List.getElem?_append_left (List.getElem?_eq_some_iff.1 hj).1]; exact hj
 ·obtain ⟨k, hk⟩ : ∃ k, ∀ x ∈ ys, Sp (fun c => H c = none) B k x.L := Sp.all fun x hx => by
   obtain ⟨j, hj, e⟩ := List.getElem_of_mem hx
   have hl : j < l.length := by rw [← hn]; exact hj
   obtain ⟨_, k, hk⟩ := h.done j l[j] x (List.getElem?_eq_getElem hl) (by rw [List.getElem?_eq_getElem hj, e])
   exact ⟨k, hk.to fun c e h he => ⟨h, Heap.off_le _ _ _ _ he⟩⟩
  refine ⟨k + 1, ?_⟩
  rcases o4 with ⟨p0, c0⟩ | ⟨b, sp, hp, hb, hc⟩
  ·exact .inl (by omega)
  ·exact .inr ⟨b, ys, sp, h.own.fresh _ hp, hp, o2, hb, ⟨by omega, by omega⟩, hk⟩
/-- a list of rows that grows, each a copy -/
structure Og (H B : Heap) (ls : List (List V)) (s : Sl) (ys : List Sl) : Prop where
 own : OwnF H B 1 s (ys.map slv)
 le : ys.length ≤ ls.length
 done : ∀ (j : Nat) (l : List V) (y : Sl), ls[j]? = some l → ys[j]? = some y → Made H (B.off s) l y
theorem Og.nil {ls : List (List V)} : Og H H ls Sl.nil [] := ⟨OwnF.nil H 1, Nat.zero_le _, fun j l y _ hy => by simp at hy⟩
theorem Made.off {B : Heap} {l : List V} {s t : Sl} (h : Made B H2 l t) (hle : H.le B) (hf : Fresh H s) (hs : ∀ p, s.p = some p → ∃ g, B p.1 = some (true, g)) : Made H (H2.off s) l t := by
 have hne : ∀ c, B c = none → ∀ p, s.p = some p → p.1 ≠ c := fun c hc p hp e => by
  obtain ⟨g, hg⟩ := hs p hp
  rw [e, hc] at hg; cases hg
 refine ⟨Heap.le_off (hle.trans h.le) hf, h.row.le fun c e hc => ?_, ?_, h.cp⟩
 ·obtain ⟨a, b⟩ := Heap.new_inv hc
  exact Heap.new_some (Heap.off_some b (hne c a)) (hle.none a)
 ·obtain ⟨k, hk⟩ := h.sp
  exact ⟨k, hk.to fun c e hc he => ⟨hle.none hc, Heap.off_some he (hne c hc)⟩⟩
theorem Og.step {B B2 B4 : Heap} {ls : List (List V)} {s r t : Sl} {ys : List Sl} (h : Og H B ls s ys) (hi : ys.length < ls.length) (hm : Made B B2 ls[ys.length] t) (h4 : OwnF (B2.off s) B4 1 r (ys.map slv ++ [slv t])) : Og H B4 ls r (ys ++ [t]) := by
 have hoff : H.le (B2.off s) := Heap.le_off (h.own.le.trans hm.le) h.own.fresh
 have h34 : (B2.off s).le (B4.off r) := Heap.le_off h4.le h4.fresh
 have h12 : (B.off s).le (B2.off s) := Heap.le_off ((Heap.off_le s B).trans hm.le) (Heap.off_fresh s B)
 refine ⟨?_, by rw [List.length_append]; exact hi, fun j l y hl hy => ?_⟩
 ·have e : (ys ++ [t]).map slv = ys.map slv ++ [slv t] := by simp
  rw [e]; exact h4.down hoff
 ·by_cases hj : j < ys.length
  ·rw [List.getElem?_append_left hj] at hy
   exact (h.done j l y hl hy).up (h12.trans h34)
  ·have hjl := (List.getElem?_eq_some_iff.1 hy).1
   rw [List.length_append, List.length_singleton] at hjl
   have hje : j = ys.length := by omega
   subst hje
   rw [List.getElem?_append_right (Nat.le_refl _), Nat.sub_self] at hy
   simp only [List.getElem?_cons_zero, Option.some.injEq] at hy
   rw [List.getElem?_eq_getElem hi] at hl
   have hl := Option.some.inj hl
   subst hy; subst hl
   exact (hm.off h.own.le h.own.fresh fun p hp => h.own.own.mine hp).up h34
/-- rows in order, each once, in memory of their own -/
structure Srt (H H2 : Heap) (ls : List (List V)) (t : Sl) (A : List (Sl × (List V × Nat))) : Prop where
 own : OwnF H H2 1 t (A.map fun e => slv e.1)
 row : ∀ e ∈ A, Made H (H2.off t) e.2.1 e.1
 rep : Rep (fun a b => cmpR a.1 b.1) (fun a => a.2) ls.zipIdx (A.map fun e => e.2)
 few : A.length ≤ ls.length
theorem splice_c {y : TV} : ∀ (xs : List TV) (sp : List Value) (i : Nat), ∃ (xs1 : List TV) (sp1 : List Value), splice (xs.flatMap T_api_Value.c ++ sp) (i * 4) (T_api_Value.c y) = xs1.flatMap T_api_Value.c ++ sp1 ∧ xs1.length = xs.length ∧ ∀ x ∈ xs1, x ∈ xs ∨ x = y
 | [], sp, i => ⟨[], splice sp (i * 4) (T_api_Value.c y), rfl, rfl, fun x hx => by cases hx⟩
 | x :: xs, sp, 0 => ⟨y :: xs, sp, rfl, rfl, fun z hz => by
  rcases List.mem_cons.1 hz with rfl | hz
  ·exact .inr rfl
  ·exact .inl (List.mem_cons_of_mem _ hz)⟩
 | x :: xs, sp, i + 1 => by
  obtain ⟨xs1, sp1, h1, h2, h3⟩ := splice_c (y := y) xs sp i
  refine ⟨x :: xs1, sp1, ?_, by simp [h2], fun z hz => ?_⟩
  ·rw [List.flatMap_cons, List.flatMap_cons, List.append_assoc, List.append_assoc, ← h1]
   have e : (i + 1) * 4 = (T_api_Value.c x).length + i * 4 := by rw [TV.c_len]; omega
   unfold splice
   rw [e, List.take_length_add_append, Nat.add_assoc, List.drop_length_add_append]
   simp only [List.append_assoc]
  ·rcases List.mem_cons.1 hz with rfl | hz
   ·exact .inl (List.mem_cons_self ..)
   ·exact (h3 z hz).imp (List.mem_cons_of_mem _) id
/-- a value written over in a row keeps all rows such -/
theorem Sp.put {b i : Nat} {cs : List Value} {y : TV} (hb : H b = some (true, .row cs)) (hy : y.L.len = 0) : ∀ {k : Nat} {t : Sl}, Sp N H k t → Sp N (H.put b (.row (splice cs (i * 4) (T_api_Value.c y)))) k t
 | 0, t, h => h
 | k + 1, t, .inl h => .inl h
 | k + 1, t, .inr ⟨c, xs, sp, h1, h2, h3, h4, h5, h6⟩ => by
  by_cases hc : c = b
  ·subst hc
   rw [h4] at hb
   injection hb with hb; injection hb with _ hb; injection hb with hb
   subst hb
   obtain ⟨xs1, sp1, e1, e2, e3⟩ := splice_c (y := y) xs sp i
   refine .inr ⟨c, xs1, sp1, h1, h2, h3, by rw [Heap.put_same, e1], by rw [e2]; exact h5, fun x hx => ?_⟩
   rcases e3 x hx with hx | rfl
   ·exact Sp.put h4 hy (h6 x hx)
   ·exact Sp.nil k hy
  ·exact .inr ⟨c, xs, sp, h1, h2, h3, by rw [Heap.put_ne _ _ _ hc]; exact h4, h5, fun x hx => Sp.put hb hy (h6 x hx)⟩
end
end Sx
end

noncomputable section
set_option linter.unusedVariables false
set_option linter.unusedSimpArgs false
namespace Sx
open Go Go.Proofs
section
variable {C : Ctx} {H : Heap}
theorem clone_ok {t : Sl} {xs : List TV} {K : Sl → Heap → Prop} (hr : rdsl H t (xs.flatMap T_api_Value.c)) (hl : t.len = xs.length) (h0 : t.len ≠ 0) (hs : t.len ≤ 1000000)
 (k : ∀ b sp cap B, H.le B → B b = none → t.len ≤ cap → K (Sl.of (some (b, 0)) t.len cap) (B.put b (.row (xs.flatMap T_api_Value.c ++ sp)))) : c_slices_Clone_api_Value_api_Value C t K H := by
 apply ad_slices_Clone_api_Value_api_Value
 unfold sh_slices_Clone_api_Value_api_Value
 have hf := flat4 xs
 have hnil : Sl.isNil t = false := by
  rcases hr with h | ⟨hx, p, hp, _⟩
  ·rw [h] at hf; simp at hf; omega
  ·unfold Sl.isNil; rw [hp]; rfl
 refine ift_neg hnil ?_
 intro b2 n2
 have hle := Heap.le_put n2 (g := .row []) (m := true)
 refine ⟨xs.flatMap T_api_Value.c, rdsl_le hle hr, ?_, [], .inl rfl, ?_, ?_, ?_, ?_, fun hfit => ?_, fun hgrow b cap hb hcap => ?_⟩
 ·intro u hu
  obtain ⟨x, _, hx⟩ := List.mem_flatMap.1 hu
  simp only [T_api_Value.c, List.mem_cons, List.not_mem_nil, or_false] at hx
  rcases hx with rfl | rfl | rfl | rfl <;> rfl
 ·rfl
 ·rw [hf, hl]; rfl
 ·show (0 + t.len) * 56 ≤ _; omega
 ·show 0 + t.len ≤ _; omega
 ·exfalso
  have : 0 + t.len ≤ 0 := hfit
  omega
 ·have e : (0 : Nat) + t.len = t.len := Nat.zero_add _
  have hc2 : 0 + t.len ≤ cap := hcap
  have := k b (zeros (T_api_Value.c T_api_Value.zero) (cap - (0 + t.len))) cap _ hle hb (by omega)
  show K (Sl.of (some (b, 0)) (0 + t.len) cap) _
  rw [e] at this ⊢
  exact this
end
end Sx
end

noncomputable section
set_option linter.unusedVariables false
set_option linter.unusedSimpArgs false
set_option maxRecDepth 10000
namespace Sx
open Go
def hexD (k : Nat) : UInt8 := if k < 10 then UInt8.ofNat (48 + k) else UInt8.ofNat (87 + k)
def qC (c : UInt8) : Str :=
 if c = 34 ∨ c = 92 then [92, c] else if c = 10 then [92, 110] else if c = 9 then [92, 116]
 else if 32 ≤ c.toNat ∧ c.toNat ≤ 126 then [c] else [92, 120, hexD (c.toNat / 16), hexD (c.toNat % 16)]
def quoteS (s : Str) : Str := 34 :: (s.flatMap qC ++ [34])
mutual
def showV : V → Str
 | .mk k n s l => if k = 1 then (if n = 1 then trueS else falseS) else if k = 2 then Lib.itoa n else if k = 3 then s ++ [98] else if k = 4 then quoteS s
  else if k = 5 then 40 :: (showR true l ++ [41]) else s ++ (if l.length = 0 then [] else 40 :: (showR true l ++ [41]))
def showR : Bool → List V → Str
 | _, [] => []
 | f, v :: l => (if f then [] else [44, 32]) ++ (showV v ++ showR false l)
end
theorem showR_snoc : ∀ (l : List V) (f : Bool) (v : V), showR f (l ++ [v]) = showR f l ++ ((if f && l.isEmpty then [] else [44, 32]) ++ showV v)
 | [], f, v => by cases f <;> simp [showR]
 | w :: l, f, v => by
  rw [List.cons_append]
  simp only [showR, showR_snoc l false v, List.isEmpty_cons, Bool.and_false, Bool.false_and, Bool.false_eq_true, if_false, List.append_assoc]
theorem showR_append : ∀ (a b : List V) (f : Bool), showR f (a ++ b) = showR f a ++ showR (f && a.isEmpty) b
 | [], b, f => by simp [showR]
 | v :: a, b, f => by
  rw [List.cons_append]
  simp only [showR, showR_append a b false, List.isEmpty_cons, Bool.and_false, Bool.false_and, List.append_assoc]
theorem showR_pre (l : List V) (i : Nat) : (showR true (l.take i)).length ≤ (showR true l).length := by
 have := congrArg List.length (showR_append (l.take i) (l.drop i) true)
 rw [List.take_append_drop, List.length_append] at this
 omega
theorem showR_take {l : List V} {i : Nat} (h : i < l.length) : showR true (l.take (i + 1)) = showR true (l.take i) ++ ((if i = 0 then [] else [44, 32]) ++ showV l[i]) := by
 rw [List.take_add_one, List.getElem?_eq_getElem h, Option.toList_some, showR_snoc]
 congr 2
 have e : (l.take i).isEmpty = decide (i = 0) := by
  rw [Bool.eq_iff_iff, List.isEmpty_iff, decide_eq_true_iff]
  refine ⟨fun h2 => ?_, fun h2 => by rw [h2]; rfl⟩
  have := congrArg List.length h2
  rw [List.length_take, List.length_nil] at this; omega
 rw [Bool.true_and, e]
 by_cases hi : i = 0 <;> simp [hi]
theorem ofNat_toNat {n : Nat} (h : n < 256) : (UInt8.ofNat n).toNat = n := by rw [UInt8.toNat_ofNat']; omega
def valN (l : Str) : Nat := l.foldl (fun a c => 10 * a + (c.toNat - 48)) 0
theorem dd_val (u : Nat) : valN (Lib.decDigits u) = u := by
 induction u using Nat.strongRecOn with
 | _ u ih =>
  rw [Lib.decDigits]
  split
  ·rename_i h
   have := ofNat_toNat (n := 48 + u) (by omega)
   simp only [valN, List.foldl_cons, List.foldl_nil, this]; omega
  ·rename_i h
   have e := ih (u / 10) (by omega)
   have := ofNat_toNat (n := 48 + u % 10) (by omega)
   unfold valN at e ⊢
   rw [List.foldl_append, e]
   simp only [List.foldl_cons, List.foldl_nil, this]; omega
theorem dd_dig (u : Nat) : (∀ c ∈ Lib.decDigits u, digC c = true) ∧ Lib.decDigits u ≠ [] := by
 induction u using Nat.strongRecOn with
 | _ u ih =>
  rw [Lib.decDigits]
  split
  ·rename_i h
   refine ⟨fun c hc => ?_, by simp⟩
   rw [List.mem_singleton] at hc
   subst hc
   have := ofNat_toNat (n := 48 + u) (by omega)
   unfold digC
   rw [this]
   simp only [Bool.and_eq_true, decide_eq_true_eq]; omega
  ·rename_i h
   refine ⟨fun c hc => ?_, by simp⟩
   rw [List.mem_append, List.mem_singleton] at hc
   rcases hc with hc | rfl
   ·exact (ih (u / 10) (by omega)).1 c hc
   ·have := ofNat_toNat (n := 48 + u % 10) (by omega)
    unfold digC
    rw [this]
    simp only [Bool.and_eq_true, decide_eq_true_eq]; omega
theorem dd_inj {u v : Nat} (h : Lib.decDigits u = Lib.decDigits v) : u = v := by rw [← dd_val u, h, dd_val v]
theorem itoa_inj {m n : Int} (h : Lib.itoa m = Lib.itoa n) : m = n := by
 have ne : ∀ u v : Nat, (45 : UInt8) :: Lib.decDigits u ≠ Lib.decDigits v := fun u v e => by
  have := (dd_dig v).1 45 (by rw [← e]; exact List.mem_cons_self ..)
  exact absurd this (by decide)
 unfold Lib.itoa at h
 split at h <;> split at h
 ·injection h with _ h
  have := dd_inj h; omega
 ·exact absurd h (ne _ _)
 ·exact absurd h.symm (ne _ _)
 ·have := dd_inj h; omega
theorem itoa_mem {n : Int} {c : UInt8} (h : c ∈ Lib.itoa n) : digC c = true ∨ c = 45 := by
 unfold Lib.itoa at h
 split at h
 ·rcases List.mem_cons.1 h with h | h
  ·exact .inr h
  ·exact .inl ((dd_dig _).1 c h)
 ·exact .inl ((dd_dig _).1 c h)
theorem itoa_ne (n : Int) : Lib.itoa n ≠ [] := by
 unfold Lib.itoa
 split
 ·simp
 ·exact (dd_dig _).2
theorem itoa_last (n : Int) : (Lib.itoa n).getLast? ≠ some 98 := fun h => by
 have hm := List.mem_of_getLast? h
 rcases itoa_mem hm with h | h
 ·exact absurd h (by decide)
 ·exact absurd h (by decide)
def stopC (c : UInt8) : Bool := c == 40 || c == 41 || c == 44 || c == 59 || c == 34
def tok : V → Str
 | .mk k n s l => if k = 1 then (if n = 1 then trueS else falseS) else if k = 2 then Lib.itoa n else if k = 3 then s ++ [98] else if k = 5 then [] else s
def rst : V → Str
 | .mk k n s l => if k = 5 ∨ (k = 6 ∧ l.length ≠ 0) then 40 :: (showR true l ++ [41]) else []
def kindT (t : Str) : Int := if t = [] then 5 else if lowC (t.headD 0) = true then (if t = trueS ∨ t = falseS then 1 else 6) else if t.getLast? = some 98 then 3 else 2
theorem ok_cases {v : V} (h : formV v = true) : formVs v.l = true ∧ ((v.k = 1 ∧ (v.n = 0 ∨ v.n = 1) ∧ v.s = [] ∧ v.l = []) ∨ (v.k = 2 ∧ v.s = [] ∧ v.l = []) ∨ (v.k = 3 ∧ numS v.s = true ∧ v.n = 0 ∧ v.l = []) ∨ (v.k = 4 ∧ v.n = 0 ∧ v.l = []) ∨
 (v.k = 5 ∧ v.n = 0 ∧ v.s = []) ∨ (v.k = 6 ∧ v.n = 0 ∧ namesS v.s = true)) := by
 rw [formV_eq, Bool.and_eq_true] at h
 obtain ⟨h, h2⟩ := h
 refine ⟨h2, ?_⟩
 unfold okN at h
 split at h
 ·rename_i hk
  simp only [Bool.and_eq_true, Bool.or_eq_true, beq_iff_eq, List.isEmpty_iff, decide_eq_true_eq, List.length_eq_zero_iff] at h
  exact .inl ⟨hk, h.1.1, h.1.2, h.2⟩
 split at h
 ·rename_i hk
  simp only [Bool.and_eq_true, beq_iff_eq, List.isEmpty_iff, decide_eq_true_eq, List.length_eq_zero_iff] at h
  exact .inr (.inl ⟨hk, h.1, h.2⟩)
 split at h
 ·rename_i hk
  simp only [Bool.and_eq_true, beq_iff_eq, decide_eq_true_eq, List.length_eq_zero_iff] at h
  exact .inr (.inr (.inl ⟨hk, h.1.1, h.1.2, h.2⟩))
 split at h
 ·rename_i hk
  simp only [Bool.and_eq_true, beq_iff_eq, decide_eq_true_eq, List.length_eq_zero_iff] at h
  exact .inr (.inr (.inr (.inl ⟨hk, h.1, h.2⟩)))
 split at h
 ·rename_i hk
  simp only [Bool.and_eq_true, beq_iff_eq, List.isEmpty_iff] at h
  exact .inr (.inr (.inr (.inr (.inl ⟨hk, h.1.1, h.1.2⟩))))
 split at h
 ·rename_i hk
  simp only [Bool.and_eq_true, beq_iff_eq] at h
  exact .inr (.inr (.inr (.inr (.inr ⟨hk, h.1, h.2⟩))))
 ·cases h
theorem show_tok {v : V} (h : formV v = true) (h4 : v.k ≠ 4) : showV v = tok v ++ rst v := by
 have hc := (ok_cases h).2
 obtain ⟨k, n, s, l⟩ := v
 simp only [V.k, V.n, V.s, V.l] at hc h4
 simp only [showV, tok, rst]
 rcases hc with ⟨rfl, _, _, rfl⟩ | ⟨rfl, _, rfl⟩ | ⟨rfl, _, _, rfl⟩ | ⟨rfl, _⟩ | ⟨rfl, _⟩ | ⟨rfl, _⟩
 ·simp
 ·simp
 ·simp
 ·exact absurd rfl h4
 ·simp
 ·by_cases hl : l.length = 0 <;> simp [hl]
theorem nameC_stop {c : UInt8} (h : nameC c = true) : stopC c = false := by
 simp only [nameC, lowC, Bool.or_eq_true, Bool.and_eq_true, decide_eq_true_eq] at h
 unfold stopC
 simp only [Bool.or_eq_false_iff, beq_eq_false_iff_ne]
 refine ⟨⟨⟨⟨?_, ?_⟩, ?_⟩, ?_⟩, ?_⟩ <;> (rintro rfl; revert h; decide)
theorem digC_stop {c : UInt8} (h : digC c = true) : stopC c = false := nameC_stop (by
 simp only [digC, Bool.and_eq_true, decide_eq_true_eq] at h
 simp only [nameC, Bool.or_eq_true, Bool.and_eq_true, decide_eq_true_eq]
 exact .inl (.inr h))
theorem nameS_parts {s : Str} (h : nameS s = true) : s ≠ [] ∧ s.length ≤ 32 ∧ lowC (s.headD 0) = true ∧ ∀ c ∈ s, nameC c = true := by
 simp only [nameS, Bool.and_eq_true, Bool.not_eq_true', List.isEmpty_eq_false_iff, decide_eq_true_eq, List.all_eq_true] at h
 exact ⟨h.1.1.1, h.1.1.2, h.1.2, h.2⟩
theorem namesS_parts {s : Str} (h : namesS s = true) : s ≠ trueS ∧ s ≠ falseS ∧ s ≠ [] ∧ s.length ≤ 65 ∧ lowC (s.headD 0) = true ∧ ∀ c ∈ s, stopC c = false := by
 unfold namesS at h
 split at h
 ·cases h
 rename_i hne
 refine ⟨fun e => hne (.inl e), fun e => hne (.inr e), ?_⟩
 split at h
 ·rename_i a b hab
  rw [Bool.and_eq_true] at h
  obtain ⟨h1, h2, h3, h4⟩ := nameS_parts h.1
  obtain ⟨g1, g2, g3, g4⟩ := nameS_parts h.2
  have hs : s = a ++ 46 :: b := by
   by_cases hm : (46 : UInt8) ∈ s
   ·obtain ⟨x, y, e1, e2⟩ := cutD_mem s hm
    rw [e1, cutD_at x y e2] at hab
    injection hab with hab; injection hab with e3 e4
    rw [e1, e3, e4]
   ·rw [cutD_no s hm] at hab; cases hab
  rw [hs]
  refine ⟨by simp, by rw [List.length_append, List.length_cons]; omega, ?_, fun c hc => ?_⟩
  ·cases a with
   | nil => exact absurd rfl h1
   | cons x a => exact h3
  ·rw [List.mem_append, List.mem_cons] at hc
   rcases hc with hc | rfl | hc
   ·exact nameC_stop (h4 c hc)
   ·rfl
   ·exact nameC_stop (g4 c hc)
 ·obtain ⟨h1, h2, h3, h4⟩ := nameS_parts h
  exact ⟨h1, by omega, h3, fun c hc => nameC_stop (h4 c hc)⟩
theorem numS_parts {s : Str} (h : numS s = true) : s ≠ [] ∧ (∀ c ∈ s, digC c = true ∨ c = 45) ∧ s.length ≤ digits s + 1 := by
 simp only [numS, Bool.and_eq_true, Bool.not_eq_true', List.isEmpty_eq_false_iff, List.all_eq_true] at h
 obtain ⟨⟨h1, h2⟩, h3⟩ := h
 unfold digits
 unfold unmin at h1 h2 ⊢
 split at h1
 ·rename_i hh
  rw [if_pos hh] at h2 ⊢
  cases s with
  | nil => cases hh
  | cons c s =>
   simp only [List.head?_cons, Option.some.injEq] at hh
   subst hh
   refine ⟨by simp, fun d hd => ?_, by simp⟩
   rcases List.mem_cons.1 hd with rfl | hd
   ·exact .inr rfl
   ·exact .inl (h2 d hd)
 ·rename_i hh
  rw [if_neg hh] at h2 ⊢
  exact ⟨h1, fun d hd => .inl (h2 d hd), by omega⟩
theorem numC_stop {c : UInt8} (h : digC c = true ∨ c = 45) : stopC c = false ∧ lowC c = false := by
 rcases h with h | rfl
 ·refine ⟨digC_stop h, ?_⟩
  simp only [digC, Bool.and_eq_true, decide_eq_true_eq] at h
  simp only [lowC, Bool.and_eq_false_iff, decide_eq_false_iff_not]; omega
 ·exact ⟨rfl, rfl⟩
theorem headD_mem : ∀ {s : Str}, s ≠ [] → s.headD 0 ∈ s
 | [], h => absurd rfl h
 | c :: s, _ => List.mem_cons_self ..
theorem tok_free {v : V} (h : formV v = true) (h4 : v.k ≠ 4) : ∀ c ∈ tok v, stopC c = false := by
 have hc := (ok_cases h).2
 obtain ⟨k, n, s, l⟩ := v
 simp only [V.k, V.n, V.s, V.l] at hc h4
 intro c hm
 simp only [tok] at hm
 rcases hc with ⟨rfl, _, _, rfl⟩ | ⟨rfl, _, rfl⟩ | ⟨rfl, hn, _, rfl⟩ | ⟨rfl, _⟩ | ⟨rfl, _⟩ | ⟨rfl, _, hn⟩
 ·rw [if_pos rfl] at hm
  split at hm
  ·exact (by decide : ∀ c ∈ trueS, stopC c = false) c hm
  ·exact (by decide : ∀ c ∈ falseS, stopC c = false) c hm
 ·exact (numC_stop (itoa_mem (by simpa using hm))).1
 ·have hm : c ∈ s ∨ c = 98 := by simpa using hm
  rcases hm with hm | rfl
  ·exact (numC_stop ((numS_parts hn).2.1 c hm)).1
  ·rfl
 ·exact absurd rfl h4
 ·simp at hm
 ·exact (namesS_parts hn).2.2.2.2.2 c (by simpa using hm)
theorem kind_tok {v : V} (h : formV v = true) (h4 : v.k ≠ 4) : kindT (tok v) = v.k := by
 have hc := (ok_cases h).2
 obtain ⟨k, n, s, l⟩ := v
 simp only [V.k, V.n, V.s, V.l] at hc h4 ⊢
 simp only [tok]
 rcases hc with ⟨rfl, hn, rfl, rfl⟩ | ⟨rfl, _, rfl⟩ | ⟨rfl, hn, _, rfl⟩ | ⟨rfl, _⟩ | ⟨rfl, _⟩ | ⟨rfl, _, hn⟩
 ·rcases hn with rfl | rfl <;> decide
 ·have e : (if (2 : Int) = 1 then (if n = 1 then trueS else falseS) else if (2 : Int) = 2 then Lib.itoa n else if (2 : Int) = 3 then s ++ [98] else if (2 : Int) = 5 then [] else s) = Lib.itoa n := by simp
  rw [e]
  unfold kindT
  have hlow := (numC_stop (itoa_mem (headD_mem (itoa_ne n)))).2
  rw [if_neg (itoa_ne n), if_neg (by rw [hlow]; decide), if_neg (itoa_last n)]
 ·have e : (if (3 : Int) = 1 then (if n = 1 then trueS else falseS) else if (3 : Int) = 2 then Lib.itoa n else if (3 : Int) = 3 then s ++ [98] else if (3 : Int) = 5 then [] else s) = s ++ [98] := by simp
  rw [e]
  obtain ⟨q1, q2, _⟩ := numS_parts hn
  have hlow : lowC ((s ++ [98]).headD 0) = false := by
   cases s with
   | nil => exact absurd rfl q1
   | cons c s => exact (numC_stop (q2 c (List.mem_cons_self ..))).2
  unfold kindT
  rw [if_neg (by simp), if_neg (by rw [hlow]; decide), if_pos (by simp)]
 ·exact absurd rfl h4
 ·simp [kindT]
 ·have e : (if (6 : Int) = 1 then (if n = 1 then trueS else falseS) else if (6 : Int) = 2 then Lib.itoa n else if (6 : Int) = 3 then s ++ [98] else if (6 : Int) = 5 then [] else s) = s := by simp
  rw [e]
  obtain ⟨q1, q2, q3, _, q5, _⟩ := namesS_parts hn
  unfold kindT
  rw [if_neg q3, if_pos q5, if_neg (fun h => h.elim q1 q2)]
theorem tok_split : ∀ {a b x y : Str}, (∀ c ∈ a, stopC c = false) → (∀ c ∈ b, stopC c = false) → (x = [] ∨ ∃ c t, x = c :: t ∧ stopC c = true) → (y = [] ∨ ∃ c t, y = c :: t ∧ stopC c = true) → a ++ x = b ++ y → a = b ∧ x = y
 | [], [], x, y, _, _, _, _, e => ⟨rfl, e⟩
 | [], d :: b, x, y, _, hb, hx, _, e => by
  rcases hx with rfl | ⟨c, t, rfl, hc⟩
  ·simp at e
  ·injection e with e1 _
   rw [e1, hb d (List.mem_cons_self ..)] at hc; cases hc
 | d :: a, [], x, y, ha, _, _, hy, e => by
  rcases hy with rfl | ⟨c, t, rfl, hc⟩
  ·simp at e
  ·injection e with e1 _
   rw [← e1, ha d (List.mem_cons_self ..)] at hc; cases hc
 | c :: a, d :: b, x, y, ha, hb, hx, hy, e => by
  injection e with e1 e2
  obtain ⟨q1, q2⟩ := tok_split (fun c hc => ha c (List.mem_cons_of_mem _ hc)) (fun c hc => hb c (List.mem_cons_of_mem _ hc)) hx hy e2
  exact ⟨by rw [e1, q1], q2⟩
theorem hex_val : ∀ k : Fin 16, hexD k.val ≠ 34 ∧ ∀ j : Fin 16, hexD k.val = hexD j.val → k = j := by decide
theorem hexD_inj {i j : Nat} (hi : i < 16) (hj : j < 16) (h : hexD i = hexD j) : i = j := by
 have := (hex_val ⟨i, hi⟩).2 ⟨j, hj⟩ h
 exact congrArg Fin.val this
theorem qC_shape (c : UInt8) : ((c = 34 ∨ c = 92) ∧ qC c = [92, c]) ∨ (c = 10 ∧ qC c = [92, 110]) ∨ (c = 9 ∧ qC c = [92, 116]) ∨ (c ≠ 34 ∧ c ≠ 92 ∧ qC c = [c]) ∨ qC c = [92, 120, hexD (c.toNat / 16), hexD (c.toNat % 16)] := by
 unfold qC
 by_cases h1 : c = 34 ∨ c = 92
 ·rw [if_pos h1]; exact .inl ⟨h1, rfl⟩
 rw [if_neg h1]
 by_cases h2 : c = 10
 ·rw [if_pos h2]; exact .inr (.inl ⟨h2, rfl⟩)
 rw [if_neg h2]
 by_cases h3 : c = 9
 ·rw [if_pos h3]; exact .inr (.inr (.inl ⟨h3, rfl⟩))
 rw [if_neg h3]
 split
 ·exact .inr (.inr (.inr (.inl ⟨fun e => h1 (.inl e), fun e => h1 (.inr e), rfl⟩)))
 ·exact .inr (.inr (.inr (.inr rfl)))
theorem u8_eq {c d : UInt8} (h : c.toNat = d.toNat) : c = d := UInt8.toNat_inj.1 h
theorem qC_inj {c d : UInt8} {x y : Str} (h : qC c ++ x = qC d ++ y) : c = d ∧ x = y := by
 rcases qC_shape c with ⟨hc, e⟩ | ⟨hc, e⟩ | ⟨hc, e⟩ | ⟨hc, hc2, e⟩ | e <;> rcases qC_shape d with ⟨hd, f⟩ | ⟨hd, f⟩ | ⟨hd, f⟩ | ⟨hd, hd2, f⟩ | f <;> rw [e, f] at h <;> simp only [List.cons_append, List.nil_append, List.cons.injEq] at h
 case inr.inr.inr.inr.inr.inr.inr.inr =>
  obtain ⟨_, _, h1, h2, h3⟩ := h
  have hc := c.toNat_lt; have hd := d.toNat_lt
  have := hexD_inj (by omega) (by omega) h1
  have := hexD_inj (by omega) (by omega) h2
  exact ⟨u8_eq (by omega), h3⟩
 case inl.inl => exact ⟨h.2.1, h.2.2⟩
 case inr.inr.inr.inl.inr.inr.inr.inl => exact h
 case inr.inl.inr.inl => exact ⟨by rw [hc, hd], h.2.2⟩
 case inr.inr.inl.inr.inr.inl => exact ⟨by rw [hc, hd], h.2.2⟩
 all_goals exfalso
 all_goals first
  | (obtain ⟨_, h1, _⟩ := h; subst_vars; simp_all; done)
  | (obtain ⟨h1, _⟩ := h; subst_vars; simp_all; done)
  | (obtain ⟨_, h1, _⟩ := h; rcases hc with rfl | rfl <;> simp_all; done)
  | (obtain ⟨_, h1, _⟩ := h; rcases hd with rfl | rfl <;> simp_all; done)
theorem qC_head (c : UInt8) : ∃ d t, qC c = d :: t ∧ d ≠ 34 := by
 rcases qC_shape c with ⟨_, e⟩ | ⟨_, e⟩ | ⟨_, e⟩ | ⟨h, _, e⟩ | e
 ·exact ⟨_, _, e, by decide⟩
 ·exact ⟨_, _, e, by decide⟩
 ·exact ⟨_, _, e, by decide⟩
 ·exact ⟨_, _, e, h⟩
 ·exact ⟨_, _, e, by decide⟩
theorem qs_inj : ∀ {s t x y : Str}, s.flatMap qC ++ 34 :: x = t.flatMap qC ++ 34 :: y → s = t ∧ x = y
 | [], [], x, y, h => ⟨rfl, by injection h⟩
 | [], d :: t, x, y, h => by
  obtain ⟨e, u, h1, h2⟩ := qC_head d
  rw [List.flatMap_cons, h1] at h
  injection h with h _
  exact absurd h.symm h2
 | c :: s, [], x, y, h => by
  obtain ⟨e, u, h1, h2⟩ := qC_head c
  rw [List.flatMap_cons, h1] at h
  injection h with h _
  exact absurd h h2
 | c :: s, d :: t, x, y, h => by
  rw [List.flatMap_cons, List.flatMap_cons, List.append_assoc, List.append_assoc] at h
  obtain ⟨h1, h2⟩ := qC_inj h
  obtain ⟨h3, h4⟩ := qs_inj h2
  exact ⟨by rw [h1, h3], h4⟩
def EndS (r : Str) : Prop := r = [] ∨ ∃ c t, r = c :: t ∧ (c = 41 ∨ c = 44 ∨ c = 59)
theorem EndS.stop {r : Str} (h : EndS r) : r = [] ∨ ∃ c t, r = c :: t ∧ stopC c = true := h.imp id fun ⟨c, t, e, hc⟩ => ⟨c, t, e, by rcases hc with rfl | rfl | rfl <;> rfl⟩
theorem EndS.ne40 {r t : Str} (h : EndS r) : r ≠ 40 :: t := fun e => by
 rcases h with rfl | ⟨c, t', rfl, hc⟩
 ·cases e
 ·injection e with e _; subst e; revert hc; decide
theorem show_head {v : V} (h : formV v = true) : ∃ c t, showV v = c :: t ∧ c ≠ 41 ∧ (v.k ≠ 4 → c ≠ 34) := by
 by_cases h4 : v.k = 4
 ·obtain ⟨k, n, s, l⟩ := v
  simp only [V.k] at h4
  subst h4
  exact ⟨34, s.flatMap qC ++ [34], by simp [showV, quoteS], by decide, fun h => absurd rfl h⟩
 ·rw [show_tok h h4]
  have hf := tok_free h h4
  cases ht : tok v with
  | cons c t =>
   have := hf c (by rw [ht]; exact List.mem_cons_self ..)
   exact ⟨c, t ++ rst v, rfl, (fun e => by rw [e] at this; cases this), (fun _ e => by rw [e] at this; cases this)⟩
  | nil =>
   have hk := kind_tok h h4
   rw [ht] at hk
   have hk : v.k = 5 := hk.symm
   obtain ⟨k, n, s, l⟩ := v
   simp only [V.k] at hk
   subst hk
   exact ⟨40, showR true l ++ [41], by simp [rst], by decide, fun _ => by decide⟩
theorem rst_stop (v : V) (r : Str) (hr : EndS r) : rst v ++ r = [] ∨ ∃ c t, rst v ++ r = c :: t ∧ stopC c = true := by
 obtain ⟨k, n, s, l⟩ := v
 simp only [rst]
 split
 ·exact .inr ⟨40, _, rfl, rfl⟩
 ·exact hr.stop
theorem showR_inj : ∀ (l : List V), (∀ v ∈ l, ∀ (w : V) (r r' : Str), formV v = true → formV w = true → EndS r → EndS r' → showV v ++ r = showV w ++ r' → v = w ∧ r = r') →
 ∀ (f : Bool) (l' : List V) (r r' : Str), formVs l = true → formVs l' = true → showR f l ++ 41 :: r = showR f l' ++ 41 :: r' → l = l' ∧ r = r'
 | [], _, f, [], r, r', _, _, e => ⟨rfl, by simpa [showR] using e⟩
 | [], _, f, w :: l', r, r', _, h2, e => by
  exfalso
  simp only [formVs, Bool.and_eq_true] at h2
  obtain ⟨c, t, hw, hc, _⟩ := show_head h2.1
  simp only [showR, List.nil_append] at e
  cases f with
  | true =>
   rw [hw] at e
   simp only [if_true, List.nil_append, List.cons_append, List.cons.injEq] at e
   exact hc e.1.symm
  | false => simp at e
 | v :: l, _, f, [], r, r', h1, _, e => by
  exfalso
  simp only [formVs, Bool.and_eq_true] at h1
  obtain ⟨c, t, hw, hc, _⟩ := show_head h1.1
  simp only [showR, List.nil_append] at e
  cases f with
  | true =>
   rw [hw] at e
   simp only [if_true, List.nil_append, List.cons_append, List.cons.injEq] at e
   exact hc e.1
  | false => simp at e
 | v :: l, ih, f, w :: l', r, r', h1, h2, e => by
  simp only [formVs, Bool.and_eq_true] at h1 h2
  simp only [showR, List.append_assoc] at e
  have e := List.append_cancel_left e
  have hend : ∀ (l : List V) (r : Str), EndS (showR false l ++ 41 :: r) := fun l r => by
   cases l with
   | nil => exact .inr ⟨41, r, rfl, .inl rfl⟩
   | cons x l => exact .inr ⟨44, _, rfl, .inr (.inl rfl)⟩
  obtain ⟨q1, q2⟩ := ih v (List.mem_cons_self ..) w _ _ h1.1 h2.1 (hend l r) (hend l' r') e
  obtain ⟨q3, q4⟩ := showR_inj l (fun v hv => ih v (List.mem_cons_of_mem _ hv)) false l' r r' h1.2 h2.2 q2
  exact ⟨by rw [q1, q3], q4⟩
theorem show_inj (v : V) : ∀ (w : V) (r r' : Str), formV v = true → formV w = true → EndS r → EndS r' → showV v ++ r = showV w ++ r' → v = w ∧ r = r' := by
 refine V.rec_ (P := fun v => ∀ (w : V) (r r' : Str), formV v = true → formV w = true → EndS r → EndS r' → showV v ++ r = showV w ++ r' → v = w ∧ r = r') (fun v ih w r r' hv hw hr hr' e => ?_) v
 have hcv := ok_cases hv
 have hcw := ok_cases hw
 by_cases h4 : v.k = 4
 ·by_cases k4 : w.k = 4
  ·obtain ⟨k, n, s, l⟩ := v
   obtain ⟨k', n', s', l'⟩ := w
   simp only [V.k, V.n, V.s, V.l] at *
   subst h4; subst k4
   obtain ⟨_, rfl, rfl⟩ : (4 : Int) = 4 ∧ n = 0 ∧ l = [] := by rcases hcv.2 with ⟨h, _⟩ | ⟨h, _⟩ | ⟨h, _⟩ | h | ⟨h, _⟩ | ⟨h, _⟩ <;> first | exact h | exact absurd h (by decide)
   obtain ⟨_, rfl, rfl⟩ : (4 : Int) = 4 ∧ n' = 0 ∧ l' = [] := by rcases hcw.2 with ⟨h, _⟩ | ⟨h, _⟩ | ⟨h, _⟩ | h | ⟨h, _⟩ | ⟨h, _⟩ <;> first | exact h | exact absurd h (by decide)
   simp only [showV, quoteS] at e
   simp only [show ¬ ((4 : Int) = 1) by decide, show ¬ ((4 : Int) = 2) by decide, show ¬ ((4 : Int) = 3) by decide, if_false, if_true, List.cons_append, List.append_assoc, List.cons.injEq, true_and, List.nil_append] at e
   obtain ⟨q1, q2⟩ := qs_inj e
   exact ⟨by rw [q1], q2⟩
  ·exfalso
   obtain ⟨c, t, e1, _, e2⟩ := show_head hw
   obtain ⟨k, n, s, l⟩ := v
   simp only [V.k] at h4
   subst h4
   rw [e1] at e
   simp [showV, quoteS] at e
   exact e2 k4 e.1.symm
 ·by_cases k4 : w.k = 4
  ·exfalso
   obtain ⟨c, t, e1, _, e2⟩ := show_head hv
   obtain ⟨k, n, s, l⟩ := w
   simp only [V.k] at k4
   subst k4
   rw [e1] at e
   simp [showV, quoteS] at e
   exact e2 h4 e.1
  ·rw [show_tok hv h4, show_tok hw k4, List.append_assoc, List.append_assoc] at e
   obtain ⟨q1, q2⟩ := tok_split (tok_free hv h4) (tok_free hw k4) (rst_stop v r hr) (rst_stop w r' hr') e
   have hkk : v.k = w.k := by rw [← kind_tok hv h4, ← kind_tok hw k4, q1]
   obtain ⟨k, n, s, l⟩ := v
   obtain ⟨k', n', s', l'⟩ := w
   simp only [V.k, V.n, V.s, V.l] at *
   subst hkk
   simp only [tok] at q1
   simp only [rst] at q2
   have tails : ∀ (l l' : List V), formVs l = true → formVs l' = true → (∀ v ∈ l, ∀ (w : V) (r r' : Str), formV v = true → formV w = true → EndS r → EndS r' → showV v ++ r = showV w ++ r' → v = w ∧ r = r') →
    40 :: (showR true l ++ [41]) ++ r = 40 :: (showR true l' ++ [41]) ++ r' → l = l' ∧ r = r' := fun l l' f1 f2 ih e => by
    simp only [List.cons_append, List.append_assoc, List.cons.injEq, true_and, List.nil_append] at e
    exact showR_inj l ih true l' r r' f1 f2 e
   rcases hcv.2 with ⟨rfl, a1, a2, a3⟩ | ⟨rfl, a1, a2⟩ | ⟨rfl, a1, a2, a3⟩ | ⟨rfl, _⟩ | ⟨rfl, a1, a2⟩ | ⟨rfl, a1, a2⟩
   ·obtain ⟨b1, b2, b3⟩ : (n' = 0 ∨ n' = 1) ∧ s' = [] ∧ l' = [] := by rcases hcw.2 with ⟨_, h⟩ | ⟨h, _⟩ | ⟨h, _⟩ | ⟨h, _⟩ | ⟨h, _⟩ | ⟨h, _⟩ <;> first | exact h | exact absurd h (by decide)
    subst a2; subst a3; subst b2; subst b3
    simp at q2
    refine ⟨?_, q2⟩
    rcases a1 with rfl | rfl <;> rcases b1 with rfl | rfl <;> first | rfl | exact absurd q1 (by decide)
   ·obtain ⟨b1, b2⟩ : s' = [] ∧ l' = [] := by rcases hcw.2 with ⟨h, _⟩ | ⟨_, h⟩ | ⟨h, _⟩ | ⟨h, _⟩ | ⟨h, _⟩ | ⟨h, _⟩ <;> first | exact h | exact absurd h (by decide)
    subst a1; subst a2; subst b1; subst b2
    simp at q2 q1
    exact ⟨by rw [itoa_inj q1], q2⟩
   ·obtain ⟨_, b2, b3⟩ : numS s' = true ∧ n' = 0 ∧ l' = [] := by rcases hcw.2 with ⟨h, _⟩ | ⟨h, _⟩ | ⟨_, h⟩ | ⟨h, _⟩ | ⟨h, _⟩ | ⟨h, _⟩ <;> first | exact h | exact absurd h (by decide)
    subst a2; subst a3; subst b2; subst b3
    simp at q2 q1
    exact ⟨by rw [q1], q2⟩
   ·exact absurd rfl h4
   ·obtain ⟨b1, b2⟩ : n' = 0 ∧ s' = [] := by rcases hcw.2 with ⟨h, _⟩ | ⟨h, _⟩ | ⟨h, _⟩ | ⟨h, _⟩ | ⟨_, h⟩ | ⟨h, _⟩ <;> first | exact h | exact absurd h (by decide)
    subst a1; subst a2; subst b1; subst b2
    rw [if_pos (.inl rfl), if_pos (.inl rfl)] at q2
    obtain ⟨q3, q4⟩ := tails l l' hcv.1 hcw.1 ih q2
    exact ⟨by rw [q3], q4⟩
   ·obtain ⟨b1, _⟩ : n' = 0 ∧ namesS s' = true := by rcases hcw.2 with ⟨h, _⟩ | ⟨h, _⟩ | ⟨h, _⟩ | ⟨h, _⟩ | ⟨h, _⟩ | ⟨_, h⟩ <;> first | exact h | exact absurd h (by decide)
    subst a1; subst b1
    simp only [show ¬ ((6 : Int) = 1) by decide, show ¬ ((6 : Int) = 2) by decide, show ¬ ((6 : Int) = 3) by decide, show ¬ ((6 : Int) = 5) by decide, if_false] at q1
    simp only [show ¬ ((6 : Int) = 5) by decide, false_or, true_and] at q2
    subst q1
    by_cases c1 : l.length = 0 <;> by_cases c2 : l'.length = 0
    ·rw [if_neg (by simpa using c1), if_neg (by simpa using c2)] at q2
     rw [List.length_eq_zero_iff.1 c1, List.length_eq_zero_iff.1 c2]
     exact ⟨rfl, q2⟩
    ·rw [if_neg (by simpa using c1), if_pos c2, List.nil_append] at q2
     exact absurd q2 hr.ne40
    ·rw [if_pos c1, if_neg (by simpa using c2), List.nil_append] at q2
     exact absurd q2.symm hr'.ne40
    ·rw [if_pos c1, if_pos c2] at q2
     obtain ⟨q3, q4⟩ := tails l l' hcv.1 hcw.1 ih q2
     exact ⟨by rw [q3], q4⟩
end Sx
end

noncomputable section
set_option linter.unusedVariables false
set_option linter.unusedSimpArgs false
set_option maxRecDepth 10000
namespace Sx
open Go Go.Proofs
section
variable {C : Ctx} {H : Heap}
theorem copyCheck_ok {b : Nat} {p : Option (Nat × Nat)} {s : Sl} {K : Heap → Prop} (hb : H b = some (true, .trow tyB 0 [pv p, slv s])) (hp : p = none ∨ p = some (b, 0)) (k : K (H.put b (.trow tyB 0 [pv (some (b, 0)), slv s]))) : c_strings_Builder_copyCheck C (some (b, 0)) K H := by
 apply ad_strings_Builder_copyCheck
 unfold sh_strings_Builder_copyCheck
 refine ⟨_, rfl, p, by simp [rd, hb, GO.cells?], ?_⟩
 rcases hp with rfl | rfl
 ·exact ift_pos rfl ⟨(b, 0), rfl, ⟨true, _, 0, _, hb, by simp⟩, ⟨true, 0, _, hb, rfl, rfl⟩, _, rfl, _, 0, _, hb, Nat.le_refl _, by simp, k⟩
 ·refine ift_neg rfl ⟨_, rfl, some (b, 0), by simp [rd, hb, GO.cells?], (b, 0), rfl, rfl, ift_neg rfl ?_⟩
  have : H.put b (.trow tyB 0 [pv (some (b, 0)), slv s]) = H := Heap.put_id hb
  rw [this] at k; exact k
theorem rd_buf {H : Heap} {b : Nat} {p : Option (Nat × Nat)} {s : Sl} {t : TypeId} (hb : H b = some (true, .trow t 0 [pv p, slv s])) : rd H (b, 0 + 1) = some (slv s) := by simp [rd, hb, GO.cells?]
theorem WriteByte_ok {b : Nat} {bs : Str} {c : UInt8} {K : Value → Heap → Prop} (h : IsB tyB tyE H b bs) (hl : bs.length + 1 ≤ 140737488355328) (k : K .nilIface (H.put b (Bd (bs ++ [c])))) : c_strings_Builder_WriteByte C (some (b, 0)) (c.toNat : Int) K H := by
 apply c_strings_Builder_WriteByte.gh
 refine h.open_ fun p s H' ho => ?_
 refine ad_strings_Builder_WriteByte _ _ _ _ _ ?_
 unfold sh_strings_Builder_WriteByte
 refine copyCheck_ok ho.row ho.self ?_
 have ho2 := ho.setP (p2 := some (b, 0)) (.inr rfl)
 refine ⟨_, rfl, s, rd_buf ho2.row, ?_⟩
 refine ho2.apd (by obtain ⟨g, hg⟩ := h.some; exact ⟨_, hg⟩) (ys := [c]) (by simpa using hl) fun r H3 h3 hr => ?_
 exact ⟨_, rfl, _, 0, _, hr, Nat.zero_le _, by simp, _, Gh.hideB h3, k⟩
theorem WriteString_ok {b : Nat} {bs c : Str} {K : Int → Value → Heap → Prop} (h : IsB tyB tyE H b bs) (hl : bs.length + c.length ≤ 140737488355328) (k : K (c.length : Int) .nilIface (H.put b (Bd (bs ++ c)))) : c_strings_Builder_WriteString C (some (b, 0)) c K H := by
 apply c_strings_Builder_WriteString.gh
 refine h.open_ fun p s H' ho => ?_
 refine ad_strings_Builder_WriteString _ _ _ _ _ ?_
 unfold sh_strings_Builder_WriteString
 refine copyCheck_ok ho.row ho.self ?_
 have ho2 := ho.setP (p2 := some (b, 0)) (.inr rfl)
 refine ⟨_, rfl, s, rd_buf ho2.row, ?_⟩
 refine ho2.apd (by obtain ⟨g, hg⟩ := h.some; exact ⟨_, hg⟩) (ys := c) hl fun r H3 h3 hr => ?_
 exact ⟨_, rfl, _, 0, _, hr, Nat.zero_le _, by simp, _, Gh.hideB h3, k⟩
theorem String_ok {b : Nat} {bs : Str} {K : Str → Heap → Prop} (h : IsB tyB tyE H b bs) (hl : bs.length ≤ 9223372036854775807) (k : K bs (H.put b (Bd bs))) : c_strings_Builder_String C (some (b, 0)) K H := by
 apply c_strings_Builder_String.gh
 refine h.open_ fun p s H' ho => ?_
 refine ad_strings_Builder_String _ _ _ _ ?_
 unfold sh_strings_Builder_String
 obtain ⟨e1, e2, e3⟩ := ho.slen
 have hrd : rd (H'.hide s) (b, 0 + 1) = some (slv s) := by
  have : (H'.hide s) b = H' b := by
   unfold Heap.hide
   split
   ·rename_i q hq; rw [if_neg (fun e => ho.ne q hq e.symm)]
   ·rfl
  simp [rd, this, ho.row, GO.cells?]
 refine ⟨H'.hide s, Heap.hide_le _ _, _, rfl, s, hrd, ⟨e3, e2⟩, _, rfl, s, hrd, ?_⟩
 rcases ho.buf with ⟨rfl, rfl⟩ | ⟨g, kk, row, hg, rfl, hgr, hk, hr0, hrl, hcs⟩
 ·exact .inl ⟨rfl, Heap.hide_le _ _, _, Gh.hideB ho, k⟩
 ·by_cases h0 : bs = []
  ·subst h0
   exact .inl ⟨rfl, Heap.hide_le _ _, _, Gh.hideB ho, k⟩
  ·refine .inr ⟨g, kk, row, bs, rfl, hgr, rfl, h0, hl, hcs, fun x v hx => ?_, _, Gh.hideB (b := b) (T := tyB) (e := tyE) (bs := bs) (p := p) (s := ⟨some (g, 0), bs.length, row.length, none⟩) ?_, k⟩
   ·have hxg : x ≠ g := fun e => by subst e; simp [Heap.hide] at hx
    rw [Heap.put_ne _ _ _ hxg]; exact (Heap.hide_le _ _) _ _ hx
   ·refine ⟨ho.self, by rw [Heap.put_ne _ _ _ (Ne.symm hg)]; exact ho.row, .inr ⟨g, max kk bs.length, row, hg, rfl, Heap.put_same .., by omega, hr0, hrl, hcs⟩, ho.gnot, fun x v hx hv => ?_⟩
    have hxg : x ≠ g := fun e => by subst e; have := ho.gnot (x, 0) rfl; dsimp only at this; rw [this] at hv; cases hv
    rw [Heap.put_ne _ _ _ hxg]; exact ho.but x v hx hv
end
end Sx
end

noncomputable section
set_option linter.unusedVariables false
set_option linter.unusedSimpArgs false
set_option maxRecDepth 10000
namespace Sx
open Go Go.Proofs
section
variable {C : Ctx} {H : Heap}
theorem FormatBool_ok {b : Bool} {K : Str → Heap → Prop} (k : K (if b then trueS else falseS) H) : c_strconv_FormatBool C b K H := by
 apply ad_strconv_FormatBool
 unfold sh_strconv_FormatBool
 apply ad_internal_strconv_FormatBool
 unfold sh_internal_strconv_FormatBool
 cases b with
 | true => exact ift_pos rfl k
 | false => exact ift_neg rfl k
theorem hexS {k : Nat} (h : k < 16) : ([48, 49, 50, 51, 52, 53, 54, 55, 56, 57, 97, 98, 99, 100, 101, 102] : Str)[k]? = some (hexD k) := by
 have : ∀ k : Fin 16, ([48, 49, 50, 51, 52, 53, 54, 55, 56, 57, 97, 98, 99, 100, 101, 102] : Str)[k.val]? = some (hexD k.val) := by decide
 exact this ⟨k, h⟩
theorem shr4 : ∀ c : UInt8, sShr .u8 (c.toNat : Int) 4 = ((c.toNat / 16 : Nat) : Int) := by
 have : ∀ k : Fin 256, sShr .u8 (k.val : Int) 4 = ((k.val / 16 : Nat) : Int) := by decide +kernel
 exact fun c => this ⟨c.toNat, c.toNat_lt⟩
theorem and15 : ∀ c : UInt8, bAnd .u8 (c.toNat : Int) 15 = ((c.toNat % 16 : Nat) : Int) := by
 have : ∀ k : Fin 256, bAnd .u8 (k.val : Int) 15 = ((k.val % 16 : Nat) : Int) := by decide +kernel
 exact fun c => this ⟨c.toNat, c.toNat_lt⟩
/-- over A, of which b is not, the builder b holds bs -/
structure Wr (A B : Heap) (b : Nat) (bs : Str) : Prop where
 le : A.le B
 nb : A b = none
 bl : IsB tyB tyE B b bs
theorem Wr.up {A B D : Heap} {b : Nat} {bs : Str} (h : Wr A B b bs) (hle : B.le D) : Wr A D b bs := ⟨h.le.trans hle, h.nb, h.bl.le hle⟩
theorem Wr.byte {A B : Heap} {b : Nat} {bs : Str} {c : UInt8} {i : Int} {K : Value → Heap → Prop} (h : Wr A B b bs) (hi : i = (c.toNat : Int)) (hl : bs.length + 1 ≤ 140737488355328) (k : ∀ D, Wr A D b (bs ++ [c]) → K .nilIface D) : c_strings_Builder_WriteByte C (some (b, 0)) i K B := by
 subst hi
 exact WriteByte_ok h.bl hl (k _ ⟨h.le.put _ _ h.nb, h.nb, IsB.put⟩)
theorem Wr.str {A B : Heap} {b : Nat} {bs s : Str} {K : Int → Value → Heap → Prop} (h : Wr A B b bs) (hl : bs.length + s.length ≤ 140737488355328) (k : ∀ D, Wr A D b (bs ++ s) → K (s.length : Int) .nilIface D) : c_strings_Builder_WriteString C (some (b, 0)) s K B :=
 WriteString_ok h.bl hl (k _ ⟨h.le.put _ _ h.nb, h.nb, IsB.put⟩)
theorem qC_len (c : UInt8) : 1 ≤ (qC c).length ∧ (qC c).length ≤ 4 := by
 rcases qC_shape c with ⟨_, e⟩ | ⟨_, e⟩ | ⟨_, e⟩ | ⟨_, _, e⟩ | e <;> rw [e] <;> simp
theorem quote_ok {A B : Heap} {b : Nat} {bs s : Str} {K : Heap → Prop} (h : Wr A B b bs) (hl : bs.length + (quoteS s).length ≤ 140737488355328) (k : ∀ D, Wr A D b (bs ++ quoteS s) → K D) : c_value_quote C (some (b, 0)) s K B := by
 apply ad_value_quote
 unfold sh_value_quote
 have hql : (quoteS s).length = (s.flatMap qC).length + 2 := by simp [quoteS]
 have hpre : ∀ i, ((s.take i).flatMap qC).length ≤ (s.flatMap qC).length := fun i => by
  have := congrArg List.length (congrArg (List.flatMap qC) (List.take_append_drop i s))
  rw [List.flatMap_append, List.length_append] at this; omega
 have hsl : s.length ≤ (s.flatMap qC).length := by
  clear hl k hql hpre
  induction s with
  | nil => exact Nat.le_refl _
  | cons c s ih =>
   have := (qC_len c).1
   rw [List.flatMap_cons, List.length_append, List.length_cons]; omega
 refine h.byte (c := 34) rfl (by omega) fun B1 h1 => ?_
 refine ⟨fun x D => ∃ i : Nat, x = (i : Int) ∧ i ≤ s.length ∧ Wr A D b (bs ++ [34] ++ (s.take i).flatMap qC), fun x _ => s.length - x.toNat, ⟨0, rfl, Nat.zero_le _, by simpa using h1⟩, ?_⟩
 rintro _ D ⟨i, rfl, hi, hw⟩
 refine ift.of (fun hlt => ?_) (fun hlt => ?_)
 ·have hlt : i < s.length := by have := of_decide_eq_true hlt; omega
  have hstep : (s.take (i + 1)).flatMap qC = (s.take i).flatMap qC ++ qC s[i] := by
   rw [List.take_add_one, List.getElem?_eq_getElem hlt, Option.toList_some, List.flatMap_append, List.flatMap_singleton]
  have hnl := hpre (i + 1)
  rw [hstep, List.length_append] at hnl
  have hcur : (bs ++ [34] ++ (s.take i).flatMap qC).length = bs.length + 1 + ((s.take i).flatMap qC).length := by simp only [List.length_append, List.length_singleton]
  refine ⟨fun _ E => Wr A E b (bs ++ [34] ++ (s.take (i + 1)).flatMap qC), ?_, ?_⟩
  ·refine ⟨s[i], by omega, by rw [Int.toNat_natCast]; exact List.getElem?_eq_getElem hlt, ?_⟩
   rw [hstep, ← List.append_assoc]
   generalize s[i] = c at *
   generalize bs ++ [34] ++ (s.take i).flatMap qC = cur at *
   have e34 : ((c.toNat : Int) == 34) = decide (c = 34) := by
    rw [Bool.eq_iff_iff, beq_iff_eq, decide_eq_true_iff]
    exact ⟨fun h => u8_eq (by show c.toNat = 34; omega), fun h => by rw [h]; rfl⟩
   have e92 : ((c.toNat : Int) == 92) = decide (c = 92) := by
    rw [Bool.eq_iff_iff, beq_iff_eq, decide_eq_true_iff]
    exact ⟨fun h => u8_eq (by show c.toNat = 92; omega), fun h => by rw [h]; rfl⟩
   have e10 : ((c.toNat : Int) == 10) = decide (c = 10) := by
    rw [Bool.eq_iff_iff, beq_iff_eq, decide_eq_true_iff]
    exact ⟨fun h => u8_eq (by show c.toNat = 10; omega), fun h => by rw [h]; rfl⟩
   have e9 : ((c.toNat : Int) == 9) = decide (c = 9) := by
    rw [Bool.eq_iff_iff, beq_iff_eq, decide_eq_true_iff]
    exact ⟨fun h => u8_eq (by show c.toNat = 9; omega), fun h => by rw [h]; rfl⟩
   rw [e34, e92, e10, e9]
   have hq4 := (qC_len c).2
   refine ift.of (fun c1 => ?_) (fun c1 => ?_)
   ·simp only [Bool.or_eq_true, decide_eq_true_eq] at c1
    have e : qC c = [92, c] := by unfold qC; rw [if_pos c1]
    rw [e] at hnl ⊢
    simp only [List.length_cons, List.length_nil] at hnl
    refine hw.byte (c := 92) rfl (by omega) fun D1 h2 => h2.byte (c := c) rfl (by simp; omega) fun D2 h3 => ?_
    simpa using h3
   simp only [Bool.or_eq_false_iff, decide_eq_false_iff_not] at c1
   have c1' : ¬ (c = 34 ∨ c = 92) := fun h => h.elim c1.1 c1.2
   refine ift.of (fun c2 => ?_) (fun c2 => ?_)
   ·have c2 := of_decide_eq_true c2
    have e : qC c = [92, 110] := by unfold qC; rw [if_neg c1', if_pos c2]
    rw [e] at hnl ⊢
    simp only [List.length_cons, List.length_nil] at hnl
    exact hw.str (s := [92, 110]) (by simp; omega) fun D1 h2 => h2
   have c2 := of_decide_eq_false c2
   refine ift.of (fun c3 => ?_) (fun c3 => ?_)
   ·have c3 := of_decide_eq_true c3
    have e : qC c = [92, 116] := by unfold qC; rw [if_neg c1', if_neg c2, if_pos c3]
    rw [e] at hnl ⊢
    simp only [List.length_cons, List.length_nil] at hnl
    exact hw.str (s := [92, 116]) (by simp; omega) fun D1 h2 => h2
   have c3 := of_decide_eq_false c3
   refine ift.of (fun c4 => ?_) (fun c4 => ?_)
   ·simp only [Bool.and_eq_true, decide_eq_true_eq] at c4
    have e : qC c = [c] := by unfold qC; rw [if_neg c1', if_neg c2, if_neg c3, if_pos (by omega)]
    rw [e] at hnl ⊢
    simp only [List.length_cons, List.length_nil] at hnl
    exact hw.byte (c := c) rfl (by omega) fun D1 h2 => h2
   ·simp only [Bool.and_eq_false_iff, decide_eq_false_iff_not] at c4
    have e : qC c = [92, 120, hexD (c.toNat / 16), hexD (c.toNat % 16)] := by unfold qC; rw [if_neg c1', if_neg c2, if_neg c3, if_neg (by omega)]
    rw [e] at hnl ⊢
    simp only [List.length_cons, List.length_nil] at hnl
    have hct := c.toNat_lt
    refine hw.str (s := [92, 120]) (by simp; omega) fun D1 h2 => ?_
    rw [shr4, and15]
    refine ⟨hexD (c.toNat / 16), by omega, by rw [Int.toNat_natCast]; exact hexS (by omega), ?_⟩
    refine h2.byte (c := hexD (c.toNat / 16)) rfl (by simp; omega) fun D2 h3 => ?_
    refine ⟨hexD (c.toNat % 16), by omega, by rw [Int.toNat_natCast]; exact hexS (by omega), ?_⟩
    refine h3.byte (c := hexD (c.toNat % 16)) rfl (by simp; omega) fun D3 h4 => ?_
    simpa using h4
  ·rintro _ E hE
   rw [w_i64 (by omega) (by omega)]
   exact ⟨⟨i + 1, by omega, by omega, hE⟩, by first | omega | (dsimp only; omega)⟩
 ·have hie : i = s.length := by have := of_decide_eq_false hlt; omega
  rw [hie, List.take_length] at hw
  refine hw.byte (c := 34) rfl (by simp only [List.length_append, List.length_singleton]; omega) fun E hE => k E ?_
  simpa [quoteS] using hE
/-- the two closures, each in the other's cell -/
structure Clo (C : Ctx) (A : Heap) (b p q : Nat) : Prop where
 list : ∃ x, rd A (p, 0) = some x ∧ ∀ (t : Sl) (B : Heap) (Φ : Value → Heap → Prop), c_value_Show_1 C t (b, 0) (q, 0) (fun D => Φ (.tuple #[]) D) B → callU Tryz.prog C x [slv t] B Φ
 show_ : ∃ x, rd A (q, 0) = some x ∧ ∀ (v : TV) (B : Heap) (Φ : Value → Heap → Prop), c_value_Show_2 C v (b, 0) (p, 0) (fun D => Φ (.tuple #[]) D) B → callU Tryz.prog C x [.agg (T_api_Value.c v).toArray] B Φ
variable {A B : Heap} {b p q : Nat}
theorem Clo.le {A1 : Heap} (h : Clo C A b p q) (hle : A.le A1) : Clo C A1 b p q := by
 obtain ⟨⟨x, h1, h2⟩, y, h3, h4⟩ := h
 exact ⟨⟨x, rd_le hle h1, h2⟩, y, rd_le hle h3, h4⟩
theorem Wr.box {bs : Str} {b1 : Nat} {x : TV} (h : Wr A B b bs) (n1 : B b1 = none) :
 Wr (A.put b1 (.row (T_api_Value.c x))) (B.put b1 (.row (T_api_Value.c x))) b bs ∧ A.le (A.put b1 (.row (T_api_Value.c x))) ∧ (A.put b1 (.row (T_api_Value.c x))) b1 = some (true, .row (T_api_Value.c x)) := by
 have hne : b ≠ b1 := fun e => by
  obtain ⟨g, hg⟩ := h.bl.some
  rw [e, n1] at hg; cases hg
 refine ⟨⟨fun z e hz => ?_, by rw [Heap.put_ne _ _ _ hne]; exact h.nb, h.bl.le (Heap.le_put n1)⟩, Heap.le_put (h.le.none n1), Heap.put_same ..⟩
 by_cases hzb : z = b1
 ·subst hzb; rw [Heap.put_same] at hz ⊢; exact hz
 ·rw [Heap.put_ne _ _ _ hzb] at hz ⊢; exact h.le _ _ hz
theorem Wr.base {A1 D : Heap} {bs : Str} (h : Wr A1 D b bs) (hle : A.le A1) : Wr A D b bs := ⟨hle.trans h.le, hle.none h.nb, h.bl⟩
theorem showV_eq (v : V) : showV v = if v.k = 1 then (if v.n = 1 then trueS else falseS) else if v.k = 2 then Lib.itoa v.n else if v.k = 3 then v.s ++ [98] else if v.k = 4 then quoteS v.s
 else if v.k = 5 then 40 :: (showR true v.l ++ [41]) else v.s ++ (if v.l.length = 0 then [] else 40 :: (showR true v.l ++ [41])) := by cases v; rfl
theorem list_ok {l : List V} (ih : ∀ w ∈ l, ∀ {A B : Heap} {x : TV} {bs : Str} {K : Heap → Prop}, Clo C A b p q → VIs A w x → VB w → Wr A B b bs → bs.length + (showV w).length ≤ 140737488355328 → (∀ D, Wr A D b (bs ++ showV w) → K D) → c_value_Show_2 C x (b, 0) (p, 0) K B)
 {A B : Heap} {t : Sl} {bs : Str} {K : Heap → Prop} (hC : Clo C A b p q) (hv : VRow A t l) (hl0 : l.length ≤ 140737488355328) (hB : VBs l) (h : Wr A B b bs) (hl : bs.length + (showR true l).length + 2 ≤ 140737488355328)
 (k : ∀ D, Wr A D b (bs ++ (40 :: (showR true l ++ [41]))) → K D) : c_value_Show_1 C t (b, 0) (q, 0) K B := by
 apply ad_value_Show_1
 unfold sh_value_Show_1
 refine h.byte (c := 40) rfl (by omega) fun B1 h1 => ?_
 rw [hv.len]
 refine ⟨fun x D => ∃ i : Nat, x = (i : Int) ∧ i ≤ l.length ∧ Wr A D b (bs ++ [40] ++ showR true (l.take i)), fun x _ => l.length - x.toNat, ⟨0, rfl, Nat.zero_le _, by simpa [showR] using h1⟩, ?_⟩
 rintro _ D ⟨i, rfl, hi, hw⟩
 refine ift.of (fun hlt => ?_) (fun hlt => ?_)
 ·have hlt : i < l.length := by have := of_decide_eq_true hlt; omega
  have hm := List.getElem_mem hlt
  have hst := showR_take hlt
  have hpl := showR_pre l (i + 1)
  rw [hst] at hpl
  simp only [List.length_append] at hpl
  refine hv.ld hw.le rfl hlt fun x hx => ?_
  intro b14 n14
  refine ⟨_, Heap.put_same .., by simp [T_api_Value.c], ?_⟩
  rw [Heap.put_put]
  have hc : splice (T_api_Value.c T_api_Value.zero) (b14, 0).2 (T_api_Value.c x) = T_api_Value.c x := rfl
  rw [hc]
  obtain ⟨w1, w2, w3⟩ := hw.box (x := x) n14
  refine ⟨fun _ E => Wr (A.put b14 (.row (T_api_Value.c x))) E b (bs ++ [40] ++ showR true (l.take i) ++ (if i = 0 then [] else [44, 32])), ?_, ?_⟩
  ·refine ift.of (fun h0 => ?_) (fun h0 => ?_)
   ·have h0 : i ≠ 0 := by have := of_decide_eq_true h0; omega
    rw [if_neg h0] at hpl ⊢
    simp only [List.length_cons, List.length_nil] at hpl
    exact w1.str (s := [44, 32]) (by simp only [List.length_append, List.length_cons, List.length_nil]; omega) fun E hE => hE
   ·have h0 : i = 0 := by have := of_decide_eq_false h0; omega
    rw [if_pos h0, List.append_nil]; exact w1
  ·rintro _ E hE
   obtain ⟨y, y1, y2⟩ := (hC.le w2).show_
   refine ⟨y, rd_le hE.le y1, bxV (hE.le _ _ w3) (y2 _ _ _ (ih _ hm (hC.le w2) (hx.le w2) (hB.mem hm) hE ?_ fun F hF => ⟨rfl, ?_⟩))⟩
   ·simp only [List.length_append, List.length_cons, List.length_nil]; omega
   ·rw [w_i64 (by omega) (by omega)]
    refine ⟨⟨i + 1, by omega, by omega, ?_⟩, by first | omega | (dsimp only; omega)⟩
    rw [hst]
    have := hF.base w2
    simpa only [List.append_assoc] using this
 ·have hie : i = l.length := by have := of_decide_eq_false hlt; omega
  rw [hie, List.take_length] at hw
  refine hw.byte (c := 41) rfl (by simp only [List.length_append, List.length_cons, List.length_nil]; omega) fun E hE => k E ?_
  simpa only [List.append_assoc, List.cons_append, List.nil_append] using hE
theorem show2_ok (hF : FmtC C) (v : V) : ∀ {A B : Heap} {x : TV} {bs : Str} {K : Heap → Prop}, Clo C A b p q → VIs A v x → VB v → Wr A B b bs → bs.length + (showV v).length ≤ 140737488355328 → (∀ D, Wr A D b (bs ++ showV v) → K D) → c_value_Show_2 C x (b, 0) (p, 0) K B := by
 refine V.rec_ (P := fun v => ∀ {A B : Heap} {x : TV} {bs : Str} {K : Heap → Prop}, Clo C A b p q → VIs A v x → VB v → Wr A B b bs → bs.length + (showV v).length ≤ 140737488355328 → (∀ D, Wr A D b (bs ++ showV v) → K D) → c_value_Show_2 C x (b, 0) (p, 0) K B) (fun v ih => ?_) v
 intro A B x bs K hC hv hB h hl k
 apply ad_value_Show_2
 unfold sh_value_Show_2
 intro b1 n1
 obtain ⟨w1, w2, w3⟩ := h.box (x := x) n1
 have hv1 := VIs_iff.1 hv
 have hb1 := w1.le _ _ w3
 have k1 : ∀ D, Wr (A.put b1 (.row (T_api_Value.c x))) D b (bs ++ showV v) → K D := fun D hD => k D (hD.base w2)
 rw [showV_eq] at hl k1
 have hC1 := hC.le w2
 have hrow := hv1.2.2.2.le w2
 generalize A.put b1 (.row (T_api_Value.c x)) = A1 at *
 generalize B.put b1 (.row (T_api_Value.c x)) = B1 at *
 refine bxK hb1 ?_
 rw [hv1.1]
 refine ift.of (fun h1 => ?_) (fun h1 => ?_)
 ·have h1 : v.k = 1 := by simpa using h1
  rw [if_pos h1] at hl k1
  refine bxN hb1 (FormatBool_ok ?_)
  rw [hv1.2.1]
  have e : (if (v.n == 1) = true then trueS else falseS) = (if v.n = 1 then trueS else falseS) := by simp
  rw [e]
  exact w1.str hl k1
 have h1 : v.k ≠ 1 := by simpa using h1
 rw [if_neg h1] at hl k1
 refine ift.of (fun h2 => ?_) (fun h2 => ?_)
 ·have h2 : v.k = 2 := by simpa using h2
  rw [if_pos h2] at hl k1
  refine bxN hb1 ?_
  rw [hv1.2.1]
  exact hF.ok hB.n.1 hB.n.2 (w1.str hl k1)
 have h2 : v.k ≠ 2 := by simpa using h2
 rw [if_neg h2] at hl k1
 refine ift.of (fun h3 => ?_) (fun h3 => ?_)
 ·have h3 : v.k = 3 := by simpa using h3
  rw [if_pos h3] at hl k1
  simp only [List.length_append, List.length_cons, List.length_nil] at hl
  refine bxS hb1 ?_
  rw [hv1.2.2.1]
  refine w1.str (by omega) fun D hD => hD.byte (c := 98) rfl (by rw [List.length_append]; omega) fun E hE => k1 E ?_
  simpa only [List.append_assoc] using hE
 have h3 : v.k ≠ 3 := by simpa using h3
 rw [if_neg h3] at hl k1
 refine ift.of (fun h4 => ?_) (fun h4 => ?_)
 ·have h4 : v.k = 4 := by simpa using h4
  rw [if_pos h4] at hl k1
  refine bxS hb1 ?_
  rw [hv1.2.2.1]
  exact quote_ok w1 hl k1
 have h4 : v.k ≠ 4 := by simpa using h4
 rw [if_neg h4] at hl k1
 obtain ⟨y, y1, y2⟩ := hC1.list
 refine ift.of (fun h5 => ?_) (fun h5 => ?_)
 ·have h5 : v.k = 5 := by simpa using h5
  rw [if_pos h5] at hl k1
  simp only [List.length_append, List.length_cons, List.length_nil] at hl
  exact ⟨y, rd_le w1.le y1, bxL hb1 (y2 _ _ _ (list_ok ih hC1 hrow hB.l hB.ls w1 (by omega) fun D hD => ⟨rfl, k1 D hD⟩))⟩
 have h5 : v.k ≠ 5 := by simpa using h5
 rw [if_neg h5] at hl k1
 rw [List.length_append] at hl
 refine bxS hb1 ?_
 rw [hv1.2.2.1]
 refine w1.str (by omega) fun D hD => bxL (hD.le _ _ w3) ?_
 rw [hrow.len]
 refine ift.of (fun h6 => ?_) (fun h6 => ?_)
 ·have h6 : v.l.length ≠ 0 := by have := of_decide_eq_true h6; omega
  rw [if_neg h6] at hl k1
  simp only [List.length_append, List.length_cons, List.length_nil] at hl
  refine ⟨y, rd_le hD.le y1, bxL (hD.le _ _ w3) (y2 _ _ _ (list_ok ih hC1 hrow hB.l hB.ls hD (by rw [List.length_append]; omega) fun E hE => ⟨rfl, k1 E ?_⟩))⟩
  rw [← List.append_assoc]; exact hE
 ·have h6 : v.l.length = 0 := by have := of_decide_eq_false h6; omega
  rw [if_pos h6] at k1
  rw [List.append_nil] at k1
  exact k1 D hD
/-- the text of a value that may be -/
theorem Show_ok (hF : FmtC C) {v : V} {x : TV} {K : Str → Heap → Prop} (hv : VIs H v x) (hB : VB v) (hl : mayV v = true → (showV v).length ≤ 140737488355328) (k : ∀ H2, H.le H2 → K (if mayV v then showV v else []) H2) : c_value_Show C x K H := by
 apply ad_value_Show
 unfold sh_value_Show
 intro b1 n1
 have hle1 := Heap.le_put n1 (g := .row (T_api_Value.c x)) (m := true)
 have hb1 : (H.put b1 (.row (T_api_Value.c x))) b1 = some (true, .row (T_api_Value.c x)) := Heap.put_same ..
 have hv1 := hv.le hle1
 generalize H.put b1 (.row (T_api_Value.c x)) = H1 at *
 refine bxV hb1 (value_Check_ok hv1 hB ?_)
 rw [bne, mayV_dec]
 refine ift.of (fun h => ?_) (fun h => ?_)
 ·have h : mayV v = false := by simpa using h
  have := k H1 hle1
  rw [h] at this; exact this
 have h : mayV v = true := by simpa using h
 intro b8 n8 b10 n10 b12 n12
 have l8 := Heap.le_put n8 (g := .trow tyB 0 [pv none, slv Sl.nil]) (m := true)
 have ne1 : b8 ≠ b10 := fun e => by rw [e, Heap.put_same] at n10; cases n10
 have ne2 : b8 ≠ b12 := fun e => by rw [← e, Heap.put_ne _ _ _ ne1, Heap.put_same] at n12; cases n12
 have ne3 : b10 ≠ b12 := fun e => by rw [e, Heap.put_same] at n12; cases n12
 refine ⟨[.nilFunc], Heap.put_same .., Nat.zero_lt_one, ?_⟩
 refine ⟨[.nilFunc], ?_, Nat.zero_lt_one, ?_⟩
 ·show ((((H1.put b8 _).put b10 _).put b12 _).put b12 _) b10 = _
  rw [Heap.put_ne _ _ _ ne3, Heap.put_ne _ _ _ ne3, Heap.put_same]
 generalize hf24 : Value.func (Fn.func _) (List.toArray []) (List.toArray [pv (some (b8, 0)), pv (some (b10, 0))]) = F24
 generalize hf27 : Value.func (Fn.func _) (List.toArray []) (List.toArray [pv (some (b8, 0)), pv (some (b12, 0))]) = F27
 simp only [List.set_cons_zero]
 have n10' : H1 b10 = none := l8.none n10
 have n12' : H1 b12 = none := (l8.trans (Heap.le_put n10)).none n12
 generalize hD0 : ((((H1.put b8 (.trow tyB 0 [pv none, slv Sl.nil])).put b10 (.row [.nilFunc])).put b12 (.row [.nilFunc])).put b12 (.row [F24])).put b10 (.row [F27]) = D0
 have d8 : D0 b8 = some (true, .trow tyB 0 [pv none, slv Sl.nil]) := by
  rw [← hD0, Heap.put_ne _ _ _ ne1, Heap.put_ne _ _ _ ne2, Heap.put_ne _ _ _ ne2, Heap.put_ne _ _ _ ne1, Heap.put_same]
 have d10 : D0 b10 = some (true, .row [F27]) := by rw [← hD0, Heap.put_same]
 have d12 : D0 b12 = some (true, .row [F24]) := by rw [← hD0, Heap.put_ne _ _ _ (Ne.symm ne3), Heap.put_same]
 have dle : H1.le D0 := fun z e hz => by
  have z8 : z ≠ b8 := fun e' => by rw [e', n8] at hz; cases hz
  have z10 : z ≠ b10 := fun e' => by rw [e', n10'] at hz; cases hz
  have z12 : z ≠ b12 := fun e' => by rw [e', n12'] at hz; cases hz
  rw [← hD0, Heap.put_ne _ _ _ z10, Heap.put_ne _ _ _ z12, Heap.put_ne _ _ _ z12, Heap.put_ne _ _ _ z10, Heap.put_ne _ _ _ z8]; exact hz
 clear hD0
 let A : Heap := D0.del b8
 have hA8 : A b8 = none := Heap.del_same ..
 have hAle : A.le D0 := Heap.del_le D0 b8
 have hHA : H1.le A := fun z e hz => by
  have z8 : z ≠ b8 := fun e' => by rw [e', n8] at hz; cases hz
  show D0.del b8 z = _
  rw [Heap.del_ne _ z8]; exact dle _ _ hz
 have hw : Wr A D0 b8 [] := ⟨hAle, hA8, .inr ⟨rfl, d8⟩⟩
 have a10 : A b10 = some (true, .row [F27]) := by show D0.del b8 b10 = _; rw [Heap.del_ne _ (Ne.symm ne1)]; exact d10
 have a12 : A b12 = some (true, .row [F24]) := by show D0.del b8 b12 = _; rw [Heap.del_ne _ (Ne.symm ne2)]; exact d12
 have hC : Clo C A b8 b12 b10 := by
  refine ⟨⟨F24, by simp [rd, a12, GO.cells?], fun t B Φ hh => ?_⟩, F27, by simp [rd, a10, GO.cells?], fun w B Φ hh => ?_⟩
  ·exact ⟨_, [], _, hf24.symm, ok_value_Show_1, Spec.mono hh fun u B2 ⟨e, h2⟩ => by rw [e]; exact h2⟩
  ·exact ⟨_, [], _, hf27.symm, ok_value_Show_2, Spec.mono hh fun u B2 ⟨e, h2⟩ => by rw [e]; exact h2⟩
 obtain ⟨y, y1, y2⟩ := hC.show_
 refine ⟨y, rd_le hAle y1, bxV (dle _ _ hb1) (y2 _ _ _ (show2_ok hF v (bs := []) hC (hv1.le hHA) hB hw (by simpa using hl h) fun D hD => ⟨rfl, ?_⟩))⟩
 refine String_ok hD.bl (by rw [List.nil_append]; have := hl h; omega) ?_
 have := k (D.put b8 (Bd ([] ++ showV v))) ((hle1.trans hHA).trans (hD.le.put _ _ hA8))
 rw [h] at this
 exact this
end
theorem quoteS_len (s : Str) : (quoteS s).length ≤ 4 * s.length + 2 := by
 have : (s.flatMap qC).length ≤ 4 * s.length := by
  induction s with
  | nil => exact Nat.le_refl _
  | cons c s ih =>
   have := (qC_len c).2
   rw [List.flatMap_cons, List.length_append, List.length_cons]; omega
 simp only [quoteS, List.length_cons, List.length_append, List.length_nil]; omega
theorem showR_len : ∀ (l : List V) (f : Bool), (∀ v ∈ l, (showV v).length + 2 ≤ 17000 * vsize v) → (showR f l).length ≤ 17000 * vsizes l
 | [], f, _ => by simp [showR]
 | v :: l, f, h => by
  have h1 := h v (List.mem_cons_self ..)
  have h2 := showR_len l false fun w hw => h w (List.mem_cons_of_mem _ hw)
  simp only [showR, vsizes, List.length_append]
  have h3 : (if f = true then ([] : Str) else [44, 32]).length ≤ 2 := by cases f <;> simp
  omega
theorem showV_len (v : V) : VB v → formV v = true → fitsV v = true → (showV v).length + 2 ≤ 17000 * vsize v := by
 refine V.rec_ (P := fun v => VB v → formV v = true → fitsV v = true → (showV v).length + 2 ≤ 17000 * vsize v) (fun v ih => ?_) v
 intro hB hf hfit
 have hsz : vsize v = vsizes v.l + 1 := by cases v; rfl
 obtain ⟨hfs, hc⟩ := ok_cases hf
 rw [fitsV_eq, Bool.and_eq_true] at hfit
 have fm : ∀ {l : List V} {w : V}, w ∈ l → fitsVs l = true → fitsV w = true := by
  intro l
  induction l with
  | nil => intro w hw; cases hw
  | cons x l ihl =>
   intro w hw hl
   simp only [fitsVs, Bool.and_eq_true] at hl
   rcases List.mem_cons.1 hw with rfl | hw
   ·exact hl.1
   ·exact ihl hw hl.2
 have hR := showR_len v.l true fun w hw => ih w hw (hB.ls.mem hw) (formVs_mem hw hfs) (fm hw hfit.2)
 have hfN := hfit.1
 rw [showV_eq, hsz]
 unfold fitN at hfN
 rcases hc with ⟨h, _⟩ | ⟨h, _⟩ | ⟨h, hn, _⟩ | ⟨h, _⟩ | ⟨h, _⟩ | ⟨h, _, hn⟩
 ·rw [if_pos h]
  have : (if v.n = 1 then trueS else falseS).length ≤ 5 := by split <;> decide
  omega
 ·rw [if_neg (by omega), if_pos h]
  have := Lib.itoa_length_le v.n hB.n.1 hB.n.2
  omega
 ·rw [if_neg (by omega), if_neg (by omega), if_pos h]
  rw [if_pos h] at hfN
  have hd := of_decide_eq_true hfN
  have := (numS_parts hn).2.2
  rw [List.length_append, List.length_singleton]; omega
 ·rw [if_neg (by omega), if_neg (by omega), if_neg (by omega), if_pos h]
  rw [if_neg (by omega), if_pos h] at hfN
  have hd := of_decide_eq_true hfN
  have := quoteS_len v.s
  omega
 ·rw [if_neg (by omega), if_neg (by omega), if_neg (by omega), if_neg (by omega), if_pos h]
  simp only [List.length_cons, List.length_append, List.length_nil]; omega
 ·rw [if_neg (by omega), if_neg (by omega), if_neg (by omega), if_neg (by omega), if_neg (by omega)]
  have := (namesS_parts hn).2.2.2.1
  have h2 : (if v.l.length = 0 then ([] : Str) else 40 :: (showR true v.l ++ [41])).length ≤ (showR true v.l).length + 2 := by
   split
   ·exact Nat.zero_le _
   ·simp
  rw [List.length_append]; omega
end Sx
end

noncomputable section
set_option linter.unusedVariables false
set_option linter.unusedSimpArgs false
namespace Sx.SE
open Go Go.Proofs Sx
abbrev TE := T_zset_Entry
abbrev cE (x : TE) : List Value := T_zset_Entry.c x
abbrev argE (x : TE) : Value := .agg (T_zset_Entry.c x).toArray
abbrev LDX (H : Heap) (p : Nat × Nat) (K : TE → Prop) : Prop := ldT H T_zset_Entry.c p K
def enc {G : Type} (e : TE × G) : List Value := cE e.1
section
variable {G : Type}
def arr (H0 : Heap) (b : Nat) (sp : List Value) (L : List (TE × G)) : Heap := H0.put b (.row (L.flatMap enc ++ sp))
structure Sls (s : Sl) (b n : Nat) : Prop where
 p : s.p = some (b, 0)
 x : s.x = none
 len : s.len = n
 small : n ≤ 140737488355328
theorem enc_len (e : TE × G) : (enc e).length = 2 := rfl
theorem flat_len : ∀ A : List (TE × G), (A.flatMap enc).length = A.length * 2
 | [] => rfl
 | e :: A => by rw [List.flatMap_cons, List.length_append, enc_len, flat_len A, List.length_cons]; omega
theorem cell_at {A R : List (TE × G)} {x : TE × G} {sp : List Value} {j : Nat} (hj : j < 2) : ((A ++ x :: R).flatMap enc ++ sp)[A.length * 2 + j]? = (cE x.1)[j]? := by
 have hl := flat_len A
 have e : (cE x.1).length = 2 := rfl
 have h : (A ++ x :: R).flatMap enc ++ sp = A.flatMap enc ++ (cE x.1 ++ (R.flatMap enc ++ sp)) := by
  rw [List.flatMap_append, List.flatMap_cons]; simp only [enc, List.append_assoc]
 rw [h, List.getElem?_append_right (by omega), List.getElem?_append_left (by omega)]
 congr 1; omega
variable {H0 R : Heap} {b n : Nat} {sp : List Value} {s : Sl} {C : Ctx} {L A D : List (TE × G)} {x y : TE × G} {i : Int}
theorem ixp {K : Nat × Nat → Prop} {k : Nat} (hs : Sls s b n) (hi : i = (k : Int)) (hk : k < n) (h : K (b, 0)) : ixa s i K :=
 ⟨(b, 0), hs.p, hs.x, by omega, by rw [hs.len]; omega, h⟩
theorem ldx {K : TE → Prop} (hL : L = A ++ x :: D) (hi : i = (A.length : Int)) (k : K x.1) : LDX (arr H0 b sp L) ((b, 0).1, (b, 0).2 + i.toNat * 2) K := by
 subst hL; subst hi
 rw [Int.toNat_natCast]
 exact ⟨x.1, rds_row (Heap.put_same ..) fun j v hj => by
  have hjl : j < 2 := (List.getElem?_eq_some_iff.1 hj).1
  rw [Nat.zero_add, cell_at hjl]; exact hj, k⟩
theorem stx0 {K : Heap → Prop} (hL : L = A ++ x :: D) (hi : i = (A.length : Int)) (k : K (arr H0 b sp (A ++ y :: D))) : stT ((b, 0).1, (b, 0).2 + i.toNat * 2) (cE y.1) K (arr H0 b sp L) := by
 subst hL; subst hi
 rw [Int.toNat_natCast]
 have hl := flat_len A
 have e2 : (cE x.1).length = 2 := rfl
 have e3 : (cE y.1).length = 2 := rfl
 have h : ∀ z : TE × G, (A ++ z :: D).flatMap enc ++ sp = A.flatMap enc ++ (cE z.1 ++ (D.flatMap enc ++ sp)) := fun z => by
  rw [List.flatMap_append, List.flatMap_cons]; simp only [enc, List.append_assoc]
 refine ⟨_, Heap.put_same .., ?_, ?_⟩
 ·rw [h]; simp only [List.length_append, hl, e2]; show 0 + A.length * 2 + (cE y.1).length ≤ _; rw [e3]; omega
 ·have e : (arr H0 b sp (A ++ x :: D)).put b (.row (splice ((A ++ x :: D).flatMap enc ++ sp) (0 + A.length * 2) (cE y.1))) = arr H0 b sp (A ++ y :: D) := by
   unfold arr
   rw [Heap.put_put, h x, h y, Nat.zero_add]
   congr 2
   unfold splice
   rw [← hl, List.take_left, ← List.drop_drop, List.drop_left, e3, ← e2, List.drop_left, List.append_assoc]
  exact e.symm ▸ k
theorem stx {K : Heap → Prop} (hL : L = A ++ x :: D) (hi : i = (A.length : Int)) (k : K (arr H0 b sp (A ++ y :: D))) : stT ((b, 0).1, (b, 0).2 + i.toNat * 2) (cE y.1) K (arr H0 b sp L) := stx0 hL hi k
theorem nole (B : Heap) : Heap.le (fun _ => none) B := fun _ _ h => by cases h
/-- data[lo], data[hi] = data[hi], data[lo] -/
theorem swp1 {B : List (TE × G)} {lo hi : Int} {J : Unit → Heap → Prop} (hs : Sls s b n) (hn : A.length + 1 + B.length < n) (hL : L = A ++ x :: (B ++ y :: D)) (hlo : lo = (A.length : Int)) (hhi : hi = ((A.length + 1 + B.length : Nat) : Int)) (k : J () (arr H0 b sp (A ++ y :: (B ++ x :: D)))) :
 dr (arr H0 b sp L) fun Hs => ixa s hi fun p => ixa s lo fun q =>
  (LDX (arr H0 b sp L) (p.1, p.2 + hi.toNat * 2) fun u => Heap.le Hs (arr H0 b sp L) ∧ LDX (arr H0 b sp L) (q.1, q.2 + lo.toNat * 2) fun v => Heap.le Hs (arr H0 b sp L) ∧
   ixa s lo fun p27 => stT (p27.1, p27.2 + lo.toNat * 2) (cE u)  (fun H33 => Heap.le Hs H33 ∧ ixa s hi fun p34 => stT (p34.1, p34.2 + hi.toNat * 2) (cE v)  (fun H39 => J () H39) H33) (arr H0 b sp L)) ∧
  (LDX (arr H0 b sp L) (q.1, q.2 + lo.toNat * 2) fun v => Heap.le Hs (arr H0 b sp L) ∧ LDX (arr H0 b sp L) (p.1, p.2 + hi.toNat * 2) fun u => Heap.le Hs (arr H0 b sp L) ∧
   ixa s lo fun p27 => stT (p27.1, p27.2 + lo.toNat * 2) (cE u)  (fun H33 => Heap.le Hs H33 ∧ ixa s hi fun p34 => stT (p34.1, p34.2 + hi.toNat * 2) (cE v)  (fun H39 => J () H39) H33) (arr H0 b sp L)) := by
 have e : L = (A ++ x :: B) ++ y :: D := by rw [hL]; simp
 have e' : A ++ y :: (B ++ y :: D) = (A ++ y :: B) ++ y :: D := by simp
 have hh : hi = (((A ++ x :: B).length : Nat) : Int) := by rw [hhi]; simp; omega
 have hh' : hi = (((A ++ y :: B).length : Nat) : Int) := by rw [hhi]; simp; omega
 have k' : J () (arr H0 b sp ((A ++ y :: B) ++ x :: D)) := by simpa using k
 have fin : ixa s lo fun p27 => (fun (u v : TE) => stT (p27.1, p27.2 + lo.toNat * 2) (cE u)  (fun H33 => Heap.le (fun _ => none) H33 ∧ ixa s hi fun p34 => stT (p34.1, p34.2 + hi.toNat * 2) (cE v)  (fun H39 => J () H39) H33) (arr H0 b sp L)) y.1 x.1 :=
  ixp hs hlo (by omega) (stx hL hlo ⟨nole _, ixp hs hhi (by omega) (stx e' hh' k')⟩)
 exact ⟨fun _ => none, nole _, ixp hs hhi (by omega) (ixp hs hlo (by omega) ⟨ldx e hh ⟨nole _, ldx hL hlo ⟨nole _, fin⟩⟩, ldx hL hlo ⟨nole _, ldx e hh ⟨nole _, fin⟩⟩⟩)⟩
/-- data[hi], data[lo] = data[lo], data[hi] -/
theorem swp2 {B : List (TE × G)} {lo hi : Int} {J : Unit → Heap → Prop} (hs : Sls s b n) (hn : A.length + 1 + B.length < n) (hL : L = A ++ x :: (B ++ y :: D)) (hlo : lo = (A.length : Int)) (hhi : hi = ((A.length + 1 + B.length : Nat) : Int)) (k : J () (arr H0 b sp (A ++ y :: (B ++ x :: D)))) :
 dr (arr H0 b sp L) fun Hs => ixa s lo fun p => ixa s hi fun q =>
  (LDX (arr H0 b sp L) (p.1, p.2 + lo.toNat * 2) fun u => Heap.le Hs (arr H0 b sp L) ∧ LDX (arr H0 b sp L) (q.1, q.2 + hi.toNat * 2) fun v => Heap.le Hs (arr H0 b sp L) ∧
   ixa s hi fun p27 => stT (p27.1, p27.2 + hi.toNat * 2) (cE u)  (fun H33 => Heap.le Hs H33 ∧ ixa s lo fun p34 => stT (p34.1, p34.2 + lo.toNat * 2) (cE v)  (fun H39 => J () H39) H33) (arr H0 b sp L)) ∧
  (LDX (arr H0 b sp L) (q.1, q.2 + hi.toNat * 2) fun v => Heap.le Hs (arr H0 b sp L) ∧ LDX (arr H0 b sp L) (p.1, p.2 + lo.toNat * 2) fun u => Heap.le Hs (arr H0 b sp L) ∧
   ixa s hi fun p27 => stT (p27.1, p27.2 + hi.toNat * 2) (cE u)  (fun H33 => Heap.le Hs H33 ∧ ixa s lo fun p34 => stT (p34.1, p34.2 + lo.toNat * 2) (cE v)  (fun H39 => J () H39) H33) (arr H0 b sp L)) := by
 have e : L = (A ++ x :: B) ++ y :: D := by rw [hL]; simp
 have e' : (A ++ x :: B) ++ x :: D = A ++ x :: (B ++ x :: D) := by simp
 have hh : hi = (((A ++ x :: B).length : Nat) : Int) := by rw [hhi]; simp; omega
 have fin : ixa s hi fun p27 => (fun (u v : TE) => stT (p27.1, p27.2 + hi.toNat * 2) (cE u)  (fun H33 => Heap.le (fun _ => none) H33 ∧ ixa s lo fun p34 => stT (p34.1, p34.2 + lo.toNat * 2) (cE v)  (fun H39 => J () H39) H33) (arr H0 b sp L)) x.1 y.1 :=
  ixp hs hhi (by omega) (stx e hh ⟨nole _, ixp hs hlo (by omega) (stx e' hlo k)⟩)
 exact ⟨fun _ => none, nole _, ixp hs hlo (by omega) (ixp hs hhi (by omega) ⟨ldx hL hlo ⟨nole _, ldx e hh ⟨nole _, fin⟩⟩, ldx e hh ⟨nole _, ldx hL hlo ⟨nole _, fin⟩⟩⟩)⟩
/-- what compares -/
structure CmpF (C : Ctx) (R : Heap) (f : Value) (P : TE × G → Prop) (κ : TE × G → TE × G → Int) : Prop where
 ok : ∀ A : Heap, R.le A → ∀ x y, P x → P y → ∀ Φ : Value → Heap → Prop, Φ (.int .i64 (κ x y)) A → callU Tryz.prog C f [argE x.1, argE y.1] A Φ
/-- where it is sorted -/
structure Where (C : Ctx) (H0 R : Heap) (s : Sl) (b n : Nat) (f : Value) (P : TE × G → Prop) (κ : TE × G → TE × G → Int) : Prop where
 s : Sls s b n
 le : R.le H0
 rb : R b = none
 f : CmpF C R f P κ
 lin : Lin κ P
variable {f : Value} {P : TE × G → Prop} {κ : TE × G → TE × G → Int} {ι : TE × G → Nat}
theorem Where.arr (h : Where C H0 R s b n f P κ) (sp : List Value) (L : List (TE × G)) : R.le (arr H0 b sp L) := fun z e hz => by
 have : z ≠ b := fun e' => by rw [e', h.rb] at hz; cases hz
 unfold SE.arr
 rw [Heap.put_ne _ _ _ this]; exact h.le _ _ hz
theorem cmp0 {A2 D2 : List (TE × G)} {j : Int} {Ψ : Int → Heap → Prop} (h : Where C H0 R s b n f P κ) (hl : L.length = n) (h1 : L = A ++ x :: D) (hi : i = (A.length : Int)) (h2 : L = A2 ++ y :: D2) (hj : j = (A2.length : Int)) (hx : P x) (hy : P y) (k : Ψ (κ x y) (arr H0 b sp L)) :
 ixa s i fun p => LDX (arr H0 b sp L) (p.1, p.2 + i.toNat * 2) fun u => ixa s j fun q => LDX (arr H0 b sp L) (q.1, q.2 + j.toNat * 2) fun v =>
  callU Tryz.prog C f [argE u, argE v] (arr H0 b sp L) (fun v H => ∃ r : Int, v = .int .i64 r ∧ Heap.le (arr H0 b sp L) H ∧ Ψ r H) := by
 have l1 : A.length < n := by rw [← hl, h1]; simp
 have l2 : A2.length < n := by rw [← hl, h2]; simp
 exact ixp h.s hi l1 (ldx h1 hi (ixp h.s hj l2 (ldx h2 hj (h.f.ok _ (h.arr sp L) x y hx hy _ ⟨_, rfl, Heap.le.refl _, k⟩))))
theorem ins_ok {X : List (TE × G)} {a e : Int} {K : Heap → Prop} (h : Where C H0 R s b n f P κ) (ha : a = (A.length : Int)) (he : e = ((A.length + X.length : Nat) : Int)) (hn : A.length + X.length + D.length = n) (hP : ∀ x ∈ X, P x) (hι : X.Pairwise fun x y => ι x < ι y)
 (k : ∀ Z : List (TE × G), Z.Perm X → Z.Pairwise (Bf κ ι) → K (arr H0 b sp (A ++ Z ++ D))) : c_slices_insertionSortCmpFunc_zset_Entry C s a e f K (arr H0 b sp (A ++ X ++ D)) := by
 have hsm := h.s.small
 subst ha; subst he
 apply ad_slices_insertionSortCmpFunc_zset_Entry
 unfold sh_slices_insertionSortCmpFunc_zset_Entry
 rw [w_i64 (by omega) (by omega)]
 by_cases hX : X = []
 ·subst hX
  refine ⟨fun x B => x = (A.length : Int) + 1 ∧ B = arr H0 b sp (A ++ [] ++ D), fun _ _ => 0, ⟨rfl, rfl⟩, ?_⟩
  rintro x B ⟨rfl, rfl⟩
  exact ift_neg (decide_eq_false (by simp; omega)) (k [] (.refl _) .nil)
 obtain ⟨x0, X', rfl⟩ := List.exists_cons_of_ne_nil hX
 refine ⟨fun x B => ∃ Z Y0 Y : List (TE × G), x0 :: X' = Y0 ++ Y ∧ Z.Perm Y0 ∧ Z.Pairwise (Bf κ ι) ∧ 1 ≤ Z.length ∧ x = ((A.length + Z.length : Nat) : Int) ∧ B = arr H0 b sp (A ++ Z ++ Y ++ D), fun x _ => A.length + (x0 :: X').length - x.toNat,
  ⟨[x0], [x0], X', rfl, .refl _, List.pairwise_singleton _ _, by simp, by simp, by simp⟩, ?_⟩
 rintro x B ⟨Z, Y0, Y, hX, hp, hz, h1, rfl, rfl⟩
 have hpl := hp.length_eq
 have hxl : (x0 :: X').length = Y0.length + Y.length := by rw [hX, List.length_append]
 have hιY : Y0.Pairwise (fun x y => ι x < ι y) ∧ Y.Pairwise (fun x y => ι x < ι y) ∧ ∀ x ∈ Y0, ∀ y ∈ Y, ι x < ι y := by rw [hX] at hι; exact List.pairwise_append.1 hι
 refine ift.of (fun hc => ?_) (fun hc => ?_)
 ·have hc := of_decide_eq_true hc
  cases Y with
  | nil => simp only [List.length_nil] at hxl; omega
  | cons y Y' =>
  have hPZ : ∀ z ∈ Z, P z := fun z hz => hP z (by rw [hX]; exact List.mem_append_left _ (hp.mem_iff.1 hz))
  have hPy : P y := hP y (by rw [hX]; simp)
  have hιz : ∀ z ∈ Z, ι z < ι y := fun z hz => hιY.2.2 z (hp.mem_iff.1 hz) y (List.mem_cons_self ..)
  refine ⟨fun j B => ∃ Z1 Z2 : List (TE × G), Z = Z1 ++ Z2 ∧ (∀ z ∈ Z2, κ y z < 0) ∧ j = ((A.length + Z1.length : Nat) : Int) ∧ B = arr H0 b sp (A ++ Z1 ++ y :: (Z2 ++ Y' ++ D)), fun j _ => j.toNat,
   ⟨Z, [], by simp, fun z hz => (by cases hz), rfl, by simp⟩, ?_⟩
  rintro j B ⟨Z1, Z2, hZ, hy2, rfl, rfl⟩
  have hZl : Z.length = Z1.length + Z2.length := by rw [hZ, List.length_append]
  simp only [List.length_cons] at hxl hn
  refine ⟨fun c B => B = arr H0 b sp (A ++ Z1 ++ y :: (Z2 ++ Y' ++ D)) ∧ (c = true → ∃ Z1' z, Z1 = Z1' ++ [z] ∧ κ y z < 0) ∧ (c = false → Z1 = [] ∨ ∃ Z1' z, Z1 = Z1' ++ [z] ∧ ¬ κ y z < 0), ⟨_, Heap.le.refl _, ift.of (fun hj => ?_) (fun hj => ?_)⟩, ?_⟩
  ·have hj := of_decide_eq_true hj
   have hne : Z1 ≠ [] := fun e => by subst e; simp at hj
   obtain ⟨Z1', z, rfl⟩ := snoc_of hne
   have hzl1 : (Z1' ++ [z]).length = Z1'.length + 1 := by simp
   rw [hzl1] at hZl
   have ew : w .i64 (((A.length + (Z1' ++ [z]).length : Nat) : Int) - 1) = ((A.length + Z1'.length : Nat) : Int) := by
    rw [hzl1, w_i64 (by omega) (by omega)]; omega
   rw [ew]
   refine cmp0 h ?_ (A := A ++ (Z1' ++ [z])) (x := y) (D := Z2 ++ Y' ++ D) rfl (by simp) (A2 := A ++ Z1') (y := z) (D2 := y :: (Z2 ++ Y' ++ D)) (by simp) (by simp) hPy (hPZ z (by rw [hZ]; simp)) ⟨rfl, fun hd => ⟨_, _, rfl, of_decide_eq_true hd⟩, fun hd => .inr ⟨_, _, rfl, of_decide_eq_false hd⟩⟩
   simp only [List.length_append, List.length_cons, List.length_nil] at hZl ⊢
   omega
  ·have hj := of_decide_eq_false hj
   have hz1 : Z1 = [] := List.length_eq_zero_iff.1 (by omega)
   exact ⟨rfl, fun hd => (by cases hd), fun _ => .inl hz1⟩
  ·rintro c B ⟨rfl, ht, hff⟩
   refine ift.of (fun hc => ?_) (fun hc => ?_)
   ·obtain ⟨Z1', z, rfl, hlt⟩ := ht hc
    have hzl1 : (Z1' ++ [z]).length = Z1'.length + 1 := by simp
    rw [hzl1] at hZl
    have ew : w .i64 (((A.length + (Z1' ++ [z]).length : Nat) : Int) - 1) = ((A.length + Z1'.length : Nat) : Int) := by
     rw [hzl1, w_i64 (by omega) (by omega)]; omega
    rw [ew]
    refine ⟨fun _ B => B = arr H0 b sp ((A ++ Z1') ++ y :: ([] ++ z :: (Z2 ++ Y' ++ D))), ?_, ?_⟩
    ·show dr _ _
     refine swp2 (J := fun _ B => B = arr H0 b sp ((A ++ Z1') ++ y :: ([] ++ z :: (Z2 ++ Y' ++ D)))) h.s (A := A ++ Z1') (x := z) (B := []) (y := y) (D := Z2 ++ Y' ++ D) ?_ ?_ ?_ ?_ ?_
     ·simp only [List.length_append, List.length_nil]; omega
     ·simp
     ·simp
     ·simp; omega
     ·rfl
    rintro _ B rfl
    refine ⟨⟨Z1', z :: Z2, by rw [hZ]; simp, fun u hu => ?_, rfl, by simp⟩, ?_⟩
    ·rcases List.mem_cons.1 hu with rfl | hu
     ·exact hlt
     ·exact hy2 u hu
    ·simp only [List.length_append, List.length_singleton]; omega
   ·rw [w_i64 (by omega) (by omega)]
    have hz' : (Z1 ++ Z2).Pairwise (Bf κ ι) := hZ ▸ hz
    refine ⟨⟨Z1 ++ y :: Z2, Y0 ++ [y], Y', by rw [hX]; simp, ?_, ?_, by simp; omega, by simp; omega, by simp⟩, by simp only [List.length_cons]; omega⟩
    ·have : (Z1 ++ y :: Z2).Perm (y :: (Z1 ++ Z2)) := List.perm_middle
     refine this.trans ?_
     rw [← hZ]
     exact (List.Perm.cons y hp).trans (List.perm_append_comm (l₁ := [y]))
    ·refine ins2 h.lin hz' hPy (fun x hx => hPZ x (by rw [hZ]; exact hx)) ?_ hy2 (fun x hx => hιz x (by rw [hZ]; exact hx))
     rcases hff hc with rfl | ⟨Z1', z, rfl, hnl⟩
     ·intro x hx; cases hx
     ·intro x hx
      rcases List.mem_append.1 hx with hx | hx
      ·have hm1 : x ∈ Z := by rw [hZ]; simp [hx]
       have hm2 : z ∈ Z := by rw [hZ]; simp
       have hb : Bf κ ι x z := (List.pairwise_append.1 (List.pairwise_append.1 hz').1).2.2 x hx z (List.mem_singleton.2 rfl)
       have a1 := h.lin.anti y z hPy (hPZ z hm2)
       have a2 := h.lin.anti y x hPy (hPZ x hm1)
       have := (h.lin.tr x z y (hPZ x hm1) (hPZ z hm2) hPy hb.le (by omega)).1
       omega
      ·rw [List.mem_singleton.1 hx]; exact hnl
 ·have hc := of_decide_eq_false hc
  simp only [List.length_cons] at hxl hc
  have hY : Y = [] := List.length_eq_zero_iff.1 (by omega)
  subst hY
  rw [List.append_nil] at hX ⊢
  exact k Z (hX ▸ hp) hz
theorem swap_ok {X M Y : List (TE × G)} {a c m : Int} {K : Heap → Prop} (h : Sls s b n) (hn : A.length + X.length + M.length + Y.length + D.length = n) (hxy : X.length = Y.length) (ha : a = (A.length : Int)) (hc : c = ((A.length + X.length + M.length : Nat) : Int)) (hm : m = (X.length : Int))
 (k : K (arr H0 b sp (A ++ Y ++ M ++ X ++ D))) : c_slices_swapRangeCmpFunc_zset_Entry C s a c m f K (arr H0 b sp (A ++ X ++ M ++ Y ++ D)) := by
 have hsm := h.small
 subst ha; subst hc; subst hm
 apply ad_slices_swapRangeCmpFunc_zset_Entry
 unfold sh_slices_swapRangeCmpFunc_zset_Entry
 refine ⟨fun x B => ∃ i : Nat, x = (i : Int) ∧ i ≤ X.length ∧ B = arr H0 b sp (A ++ (Y.take i ++ X.drop i) ++ M ++ (X.take i ++ Y.drop i) ++ D), fun x _ => X.length - x.toNat, ⟨0, rfl, Nat.zero_le _, by simp⟩, ?_⟩
 rintro x B ⟨i, rfl, hi, rfl⟩
 refine ift.of (fun hlt => ?_) (fun hlt => ?_)
 ·have hlt : i < X.length := by have := of_decide_eq_true hlt; omega
  have hlt2 : i < Y.length := by omega
  have w1 : w .i64 (((A.length + X.length + M.length : Nat) : Int) + (i : Int)) = ((A.length + X.length + M.length + i : Nat) : Int) := by rw [w_i64 (by omega) (by omega)]; omega
  have w2 : w .i64 ((A.length : Int) + (i : Int)) = ((A.length + i : Nat) : Int) := by rw [w_i64 (by omega) (by omega)]; omega
  rw [w1, w2]
  have dx := List.drop_eq_getElem_cons hlt
  have dy := List.drop_eq_getElem_cons hlt2
  have tx : X.take (i + 1) = X.take i ++ [X[i]] := by rw [List.take_add_one, List.getElem?_eq_getElem hlt]; rfl
  have ty : Y.take (i + 1) = Y.take i ++ [Y[i]] := by rw [List.take_add_one, List.getElem?_eq_getElem hlt2]; rfl
  have l1 : (Y.take i).length = i := by rw [List.length_take]; omega
  have l2 : (X.take i).length = i := by rw [List.length_take]; omega
  have l3 : (X.drop (i + 1)).length = X.length - (i + 1) := List.length_drop ..
  have l4 : (Y.drop (i + 1)).length = Y.length - (i + 1) := List.length_drop ..
  refine ⟨fun _ B => B = arr H0 b sp ((A ++ Y.take i) ++ Y[i] :: ((X.drop (i + 1) ++ M ++ X.take i) ++ X[i] :: (Y.drop (i + 1) ++ D))), ?_, ?_⟩
  ·show dr _ _
   refine swp1 (J := fun _ B => B = arr H0 b sp ((A ++ Y.take i) ++ Y[i] :: ((X.drop (i + 1) ++ M ++ X.take i) ++ X[i] :: (Y.drop (i + 1) ++ D)))) h (A := A ++ Y.take i) (x := X[i]) (y := Y[i]) (B := X.drop (i + 1) ++ M ++ X.take i) (D := Y.drop (i + 1) ++ D) ?_ ?_ ?_ ?_ rfl
   ·simp only [List.length_append, l1, l2, l3]; omega
   ·rw [dx, dy]; simp only [List.append_assoc, List.cons_append]
   ·simp only [List.length_append, l1]
   ·simp only [List.length_append, l1, l2, l3]; omega
  rintro _ B rfl
  rw [w_i64 (by omega) (by omega)]
  refine ⟨⟨i + 1, by omega, by omega, ?_⟩, by first | omega | (dsimp only; omega)⟩
  rw [tx, ty]; simp only [List.append_assoc, List.cons_append, List.nil_append, List.singleton_append]
 ·have hie : i = X.length := by have := of_decide_eq_false hlt; omega
  subst hie
  rw [List.take_length, List.drop_length, hxy, List.take_length, List.drop_length, List.append_nil, List.append_nil]
  exact k
theorem rot_ok {X Y : List (TE × G)} {a m e : Int} {K : Heap → Prop} (h : Sls s b n) (hn : A.length + X.length + Y.length + D.length = n) (hX : X ≠ []) (hY : Y ≠ []) (ha : a = (A.length : Int)) (hm : m = ((A.length + X.length : Nat) : Int)) (he : e = ((A.length + X.length + Y.length : Nat) : Int))
 (k : K (arr H0 b sp (A ++ Y ++ X ++ D))) : c_slices_rotateCmpFunc_zset_Entry C s a m e f K (arr H0 b sp (A ++ X ++ Y ++ D)) := by
 have hsm := h.small
 have px : 0 < X.length := List.length_pos_iff.2 hX
 have py : 0 < Y.length := List.length_pos_iff.2 hY
 subst ha; subst hm; subst he
 apply ad_slices_rotateCmpFunc_zset_Entry
 unfold sh_slices_rotateCmpFunc_zset_Entry
 have w1 : w .i64 (((A.length + X.length : Nat) : Int) - (A.length : Int)) = ((X.length : Nat) : Int) := by rw [w_i64 (by omega) (by omega)]; omega
 have w2 : w .i64 (((A.length + X.length + Y.length : Nat) : Int) - ((A.length + X.length : Nat) : Int)) = ((Y.length : Nat) : Int) := by rw [w_i64 (by omega) (by omega)]; omega
 rw [w1, w2]
 refine ⟨fun x B => ∃ P U V S : List (TE × G), x = (((U.length : Nat) : Int), ((V.length : Nat) : Int)) ∧ B = arr H0 b sp (P ++ U ++ V ++ S) ∧ A ++ Y ++ X ++ D = P ++ V ++ U ++ S ∧ P.length + U.length = A.length + X.length ∧ P.length + U.length + V.length + S.length = n ∧ 0 < U.length ∧ 0 < V.length,
  fun x _ => x.1.toNat + x.2.toNat, ⟨A, X, Y, D, rfl, rfl, rfl, rfl, by omega, px, py⟩, ?_⟩
 rintro x B ⟨P, U, V, S, rfl, rfl, hT, hl, hl2, pu, pv⟩
 have w3 : w .i64 (((A.length + X.length : Nat) : Int) - ((U.length : Nat) : Int)) = ((P.length : Nat) : Int) := by rw [w_i64 (by omega) (by omega)]; omega
 dsimp only
 rw [w3]
 refine ift.of (fun hne => ?_) (fun heq => ?_)
 ·have hne : U.length ≠ V.length := fun e => by rw [e] at hne; simp at hne
  refine ift.of (fun hgt => ?_) (fun hgt => ?_)
  ·have hgt : V.length < U.length := by have := of_decide_eq_true hgt; omega
   -- U = U1 ++ U2
   have hU : U = U.take V.length ++ U.drop V.length := (List.take_append_drop ..).symm
   have l1 : (U.take V.length).length = V.length := by rw [List.length_take]; omega
   have l2 : (U.drop V.length).length = U.length - V.length := List.length_drop ..
   generalize U.take V.length = U1 at *
   generalize U.drop V.length = U2 at *
   subst hU
   simp only [List.length_append] at hl hl2 pu hne hgt
   have e0 : P ++ (U1 ++ U2) ++ V ++ S = P ++ U1 ++ U2 ++ V ++ S := by simp only [List.append_assoc]
   rw [e0]
   refine swap_ok h (A := P) (X := U1) (M := U2) (Y := V) (D := S) (by omega) (by omega) rfl (by omega) (by omega) ?_
   rw [w_i64 (by simp only [List.length_append]; omega) (by simp only [List.length_append]; omega)]
   refine ⟨⟨P ++ V, U2, U1, S, ?_, by simp only [List.append_assoc], by rw [hT]; simp only [List.append_assoc], by simp only [List.length_append]; omega, by simp only [List.length_append]; omega, by omega, by omega⟩, ?_⟩
   ·simp only [List.length_append, Prod.mk.injEq]; omega
   ·simp only [List.length_append]; omega
  ·have hgt : U.length < V.length := by have := of_decide_eq_false hgt; omega
   have hV : V = V.take (V.length - U.length) ++ V.drop (V.length - U.length) := (List.take_append_drop ..).symm
   have l1 : (V.take (V.length - U.length)).length = V.length - U.length := by rw [List.length_take]; omega
   have l2 : (V.drop (V.length - U.length)).length = U.length := by rw [List.length_drop]; omega
   have w4 : w .i64 (w .i64 (((A.length + X.length : Nat) : Int) + ((V.length : Nat) : Int)) - ((U.length : Nat) : Int)) = ((P.length + U.length + (V.length - U.length) : Nat) : Int) := by
    rw [w_i64 (x := ((A.length + X.length : Nat) : Int) + ((V.length : Nat) : Int)) (by omega) (by omega), w_i64 (by omega) (by omega)]; omega
   rw [w4]
   generalize V.take (V.length - U.length) = V1 at *
   generalize V.drop (V.length - U.length) = V2 at *
   have l3 : V.length = V1.length + V2.length := by omega
   have e0 : P ++ U ++ V ++ S = P ++ U ++ V1 ++ V2 ++ S := by rw [hV]; simp only [List.append_assoc]
   rw [e0]
   refine swap_ok h (A := P) (X := U) (M := V1) (Y := V2) (D := S) (by omega) (by omega) rfl (by omega) rfl ?_
   rw [w_i64 (by omega) (by omega)]
   refine ⟨⟨P, V2, V1, U ++ S, ?_, by simp only [List.append_assoc], by rw [hT, hV]; simp only [List.append_assoc], by omega, by simp only [List.length_append]; omega, by omega, by omega⟩, ?_⟩
   ·simp only [Prod.mk.injEq]; omega
   ·first | omega | (dsimp only; omega)
 ·have heq : U.length = V.length := by
   have : ((U.length : Nat) : Int) = ((V.length : Nat) : Int) := by simpa using heq
   omega
  have e0 : P ++ U ++ V ++ S = P ++ U ++ [] ++ V ++ S := by simp only [List.append_assoc, List.nil_append]
  rw [e0]
  refine swap_ok h (A := P) (X := U) (M := []) (Y := V) (D := S) (by simp only [List.length_nil]; omega) heq rfl (by simp only [List.length_nil]; omega) rfl ?_
  rw [hT] at k
  simpa only [List.append_assoc, List.nil_append] using k
theorem pr {a b c d : Int} (h1 : a = c) (h2 : b = d) : (a, b) = (c, d) := by rw [h1, h2]
theorem idx_ok {a f x c : Nat} (hc : c < f) (h1 : a + x ≤ 281474976710656) (h2 : f ≤ 281474976710656) : w .i64 (((a + f + (a + x) - 1 : Nat) : Int) - ((a + c : Nat) : Int)) = ((a + x + (f - 1 - c) : Nat) : Int) := by
 have e1 : a + f + (a + x) - 1 = a + x + (f - 1 - c) + (a + c) := by omega
 rw [e1, w_i64 (by omega) (by omega)]; omega
/-- what is found by halving -/
theorem sym_key (h : Where C H0 R s b n f P κ) : ∀ (N : Nat) {X Y A D : List (TE × G)} {a m e : Int} {K : Heap → Prop}, X.length + Y.length ≤ N → X ≠ [] → Y ≠ [] → a = (A.length : Int) → m = ((A.length + X.length : Nat) : Int) → e = ((A.length + X.length + Y.length : Nat) : Int) → A.length + X.length + Y.length + D.length = n →
 (∀ x ∈ X ++ Y, P x) → X.Pairwise (Bf κ ι) → Y.Pairwise (Bf κ ι) → (∀ x ∈ X, ∀ y ∈ Y, ι x < ι y) → (∀ Z : List (TE × G), Z.Perm (X ++ Y) → Z.Pairwise (Bf κ ι) → K (arr H0 b sp (A ++ Z ++ D))) → c_slices_symMergeCmpFunc_zset_Entry C s a m e f K (arr H0 b sp (A ++ X ++ Y ++ D)) := by
 have hsm := h.s.small
 intro N
 induction N with
 | zero => intro X Y A D a m e K hN hX; have := List.length_pos_iff.2 hX; omega
 | succ N ih =>
 intro X Y A D a m e K hN hX hY ha hm he hn hP sX sY hι k
 have px : 0 < X.length := List.length_pos_iff.2 hX
 have py : 0 < Y.length := List.length_pos_iff.2 hY
 have hPX : ∀ x ∈ X, P x := fun x hx => hP x (List.mem_append_left _ hx)
 have hPY : ∀ y ∈ Y, P y := fun y hy => hP y (List.mem_append_right _ hy)
 subst ha; subst hm; subst he
 apply ad_slices_symMergeCmpFunc_zset_Entry
 unfold sh_slices_symMergeCmpFunc_zset_Entry
 have w1 : w .i64 (((A.length + X.length : Nat) : Int) - (A.length : Int)) = ((X.length : Nat) : Int) := by rw [w_i64 (by omega) (by omega)]; omega
 have w2 : w .i64 (((A.length + X.length + Y.length : Nat) : Int) - ((A.length + X.length : Nat) : Int)) = ((Y.length : Nat) : Int) := by rw [w_i64 (by omega) (by omega)]; omega
 rw [w1, w2]
 refine ift.of (fun hone => ?_) (fun hone => ?_)
 ·
  have hx1 : X.length = 1 := by
   have : ((X.length : Nat) : Int) = 1 := by simpa using hone
   omega
  obtain ⟨x, rfl⟩ := List.length_eq_one_iff.1 hx1
  have hPx : P x := hPX x (List.mem_cons_self ..)
  refine ⟨fun y B => B = arr H0 b sp (A ++ [x] ++ Y ++ D) ∧ ∃ i j : Nat, y = (((A.length + 1 + i : Nat) : Int), ((A.length + 1 + j : Nat) : Int)) ∧ i ≤ j ∧ j ≤ Y.length ∧ (∀ y ∈ Y.take i, κ y x < 0) ∧ (∀ y ∈ Y.drop j, ¬ κ y x < 0), fun y _ => (y.2 - y.1).toNat,
   ⟨rfl, 0, Y.length, by simp, Nat.zero_le _, Nat.le_refl _, fun y hy => by simp at hy, fun y hy => by simp at hy⟩, ?_⟩
  rintro _ B ⟨rfl, i, j, rfl, hij, hj, hlo, hhi⟩
  dsimp only
  refine ift.of (fun hlt => ?_) (fun hlt => ?_)
  ·have hlt : i < j := by have := of_decide_eq_true hlt; omega
   rw [half_ok (by omega)]
   have hh : (A.length + 1 + i + (A.length + 1 + j)) / 2 = A.length + 1 + (i + j) / 2 := by omega
   rw [hh]
   have hc1 : i ≤ (i + j) / 2 := by omega
   have hc2 : (i + j) / 2 < j := by omega
   generalize (i + j) / 2 = c at *
   have hcl : c < Y.length := by omega
   have hPc := hPY _ (List.getElem_mem hcl)
   have hpm := pw_mid sY hcl
   have eY := eq_mid hcl
   have lt : (Y.take c).length = c := by rw [List.length_take]; omega
   refine ⟨_, Heap.le.refl _, ?_⟩
   refine cmp0 h (by simp only [List.length_append]; omega) (A := A ++ [x] ++ Y.take c) (x := Y[c]) (D := Y.drop (c + 1) ++ D) ?_ ?_ (A2 := A) (y := x) (D2 := Y ++ D) (by simp) rfl hPc hPx ?_
   ·conv => lhs; rw [eY]
    simp only [List.append_assoc, List.cons_append]
   ·simp only [List.length_append, List.length_singleton, lt]
   refine ift.of (fun hd => ?_) (fun hd => ?_)
   ·have hd := of_decide_eq_true hd
    rw [w_i64 (by omega) (by omega)]
    refine ⟨⟨rfl, c + 1, j, pr (by omega) (by omega), by omega, hj, fun y hy => ?_, hhi⟩, by first | omega | (dsimp only; omega)⟩
    rw [List.take_add_one, List.getElem?_eq_getElem hcl, Option.toList_some] at hy
    rcases List.mem_append.1 hy with hy | hy
    ·exact (h.lin.tr y Y[c] x (hPY y (mem_take hy)) hPc hPx (hpm.1 y hy).le (by omega)).2 (.inr hd)
    ·rw [List.mem_singleton.1 hy]; exact hd
   ·have hd := of_decide_eq_false hd
    refine ⟨⟨rfl, i, c, rfl, hc1, by omega, hlo, fun y hy => ?_⟩, by first | omega | (dsimp only; omega)⟩
    rw [List.drop_eq_getElem_cons hcl] at hy
    rcases List.mem_cons.1 hy with rfl | hy
    ·exact hd
    ·intro hyx
     have hb := (hpm.2 y hy).le
     exact hd ((h.lin.tr Y[c] y x hPc (hPY y (mem_drop hy)) hPx hb (by omega)).2 (.inr hyx))
  ·have hij : i = j := by have := of_decide_eq_false hlt; omega
   subst hij
   have w3 : w .i64 (((A.length + 1 + i : Nat) : Int) - 1) = ((A.length + i : Nat) : Int) := by rw [w_i64 (by omega) (by omega)]; omega
   have hY12 : Y = Y.take i ++ Y.drop i := (List.take_append_drop ..).symm
   have l1 : (Y.take i).length = i := by rw [List.length_take]; omega
   have l2 : (Y.drop i).length = Y.length - i := List.length_drop ..
   have fin : K (arr H0 b sp (A ++ (Y.take i ++ x :: Y.drop i) ++ D)) := by
    refine k _ ?_ (ins1 h.lin (by rw [← hY12]; exact sY) hPx (by rw [← hY12]; exact hPY) hlo hhi (by rw [← hY12]; exact fun y hy => hι x (List.mem_cons_self ..) y hy))
    have p1 : (Y.take i ++ x :: Y.drop i).Perm (x :: (Y.take i ++ Y.drop i)) := List.perm_middle
    rw [← hY12] at p1
    exact p1
   generalize Y.take i = Y1 at *
   generalize Y.drop i = Y2 at *
   subst hY12
   rw [w3]
   refine ⟨fun y B => ∃ U V : List (TE × G), Y1 = U ++ V ∧ y = ((A.length + U.length : Nat) : Int) ∧ B = arr H0 b sp (A ++ U ++ x :: (V ++ Y2 ++ D)), fun y _ => A.length + i - y.toNat, ⟨[], Y1, rfl, by simp, by simp only [List.append_assoc, List.cons_append, List.nil_append, List.append_nil, List.singleton_append]⟩, ?_⟩
   rintro y B ⟨U, V, rfl, rfl, rfl⟩
   simp only [List.length_append] at l1 hn hj
   refine ift.of (fun hlt => ?_) (fun hlt => ?_)
   ·have hlt := of_decide_eq_true hlt
    cases V with
    | nil => simp only [List.length_nil] at l1; omega
    | cons v V =>
    simp only [List.length_cons] at l1 hn
    have w4 : w .i64 (((A.length + U.length : Nat) : Int) + 1) = ((A.length + U.length + 1 : Nat) : Int) := by rw [w_i64 (by omega) (by omega)]; omega
    rw [w4]
    refine ⟨fun _ B => B = arr H0 b sp ((A ++ U) ++ v :: ([] ++ x :: (V ++ Y2 ++ D))), ?_, ?_⟩
    ·show dr _ _
     refine swp1 (J := fun _ B => B = arr H0 b sp ((A ++ U) ++ v :: ([] ++ x :: (V ++ Y2 ++ D)))) h.s (A := A ++ U) (x := x) (B := []) (y := v) (D := V ++ Y2 ++ D) ?_ ?_ ?_ ?_ rfl
     ·first | (simp only [List.length_append, List.length_nil]; done) | (simp only [List.length_append, List.length_nil]; omega)
     ·simp only [List.append_assoc, List.cons_append, List.nil_append]
     ·simp only [List.length_append]
     ·first | (simp only [List.length_append, List.length_nil]; done) | (simp only [List.length_append, List.length_nil]; omega)
    rintro _ B rfl
    refine ⟨⟨U ++ [v], V, by simp, by simp only [List.length_append, List.length_singleton]; omega, by simp only [List.append_assoc, List.cons_append, List.nil_append, List.singleton_append]⟩, by first | omega | (dsimp only; omega)⟩
   ·have hlt := of_decide_eq_false hlt
    have hV : V = [] := List.length_eq_zero_iff.1 (by omega)
    subst hV
    simpa only [List.append_assoc, List.cons_append, List.nil_append, List.append_nil] using fin
 refine ift.of (fun hone2 => ?_) (fun hone2 => ?_)
 ·
  have hy1 : Y.length = 1 := by
   have : ((Y.length : Nat) : Int) = 1 := by simpa using hone2
   omega
  obtain ⟨y, rfl⟩ := List.length_eq_one_iff.1 hy1
  have hPy : P y := hPY y (List.mem_cons_self ..)
  refine ⟨fun z B => B = arr H0 b sp (A ++ X ++ [y] ++ D) ∧ ∃ i j : Nat, z = (((A.length + i : Nat) : Int), ((A.length + j : Nat) : Int)) ∧ i ≤ j ∧ j ≤ X.length ∧ (∀ x ∈ X.take i, ¬ κ y x < 0) ∧ (∀ x ∈ X.drop j, κ y x < 0), fun z _ => (z.2 - z.1).toNat,
   ⟨rfl, 0, X.length, by simp, Nat.zero_le _, Nat.le_refl _, fun y hy => by simp at hy, fun y hy => by simp at hy⟩, ?_⟩
  rintro _ B ⟨rfl, i, j, rfl, hij, hj, hlo, hhi⟩
  dsimp only
  refine ift.of (fun hlt => ?_) (fun hlt => ?_)
  ·have hlt : i < j := by have := of_decide_eq_true hlt; omega
   rw [half_ok (by omega)]
   have hh : (A.length + i + (A.length + j)) / 2 = A.length + (i + j) / 2 := by omega
   rw [hh]
   have hc1 : i ≤ (i + j) / 2 := by omega
   have hc2 : (i + j) / 2 < j := by omega
   generalize (i + j) / 2 = c at *
   have hcl : c < X.length := by omega
   have hPc := hPX _ (List.getElem_mem hcl)
   have hpm := pw_mid sX hcl
   have eX := eq_mid hcl
   have lt : (X.take c).length = c := by rw [List.length_take]; omega
   refine ⟨_, Heap.le.refl _, ?_⟩
   refine cmp0 h (by simp only [List.length_append]; omega) (A := A ++ X) (x := y) (D := D) (by simp) (by simp) (A2 := A ++ X.take c) (y := X[c]) (D2 := X.drop (c + 1) ++ [y] ++ D) ?_ ?_ hPy hPc ?_
   ·conv => lhs; rw [eX]
    simp only [List.append_assoc, List.cons_append]
   ·simp only [List.length_append, lt]
   refine ift.of (fun hd => ?_) (fun hd => ?_)
   ·have hd : ¬ κ y X[c] < 0 := by simpa using hd
    rw [w_i64 (by omega) (by omega)]
    refine ⟨⟨rfl, c + 1, j, pr (by omega) (by omega), by omega, hj, fun x hx => ?_, hhi⟩, by first | omega | (dsimp only; omega)⟩
    rw [List.take_add_one, List.getElem?_eq_getElem hcl, Option.toList_some] at hx
    rcases List.mem_append.1 hx with hx | hx
    ·intro hyx
     exact hd ((h.lin.tr y x X[c] hPy (hPX x (mem_take hx)) hPc (by omega) (hpm.1 x hx).le).2 (.inl hyx))
    ·rw [List.mem_singleton.1 hx]; exact hd
   ·have hd : κ y X[c] < 0 := by simpa using hd
    refine ⟨⟨rfl, i, c, rfl, hc1, by omega, hlo, fun x hx => ?_⟩, by first | omega | (dsimp only; omega)⟩
    rw [List.drop_eq_getElem_cons hcl] at hx
    rcases List.mem_cons.1 hx with rfl | hx
    ·exact hd
    ·exact (h.lin.tr y X[c] x hPy hPc (hPX x (mem_drop hx)) (by omega) (hpm.2 x hx).le).2 (.inl hd)
  ·have hij : i = j := by have := of_decide_eq_false hlt; omega
   subst hij
   have hX12 : X = X.take i ++ X.drop i := (List.take_append_drop ..).symm
   have l1 : (X.take i).length = i := by rw [List.length_take]; omega
   have fin : K (arr H0 b sp (A ++ (X.take i ++ y :: X.drop i) ++ D)) := by
    refine k _ ?_ (ins2 h.lin (by rw [← hX12]; exact sX) hPy (by rw [← hX12]; exact hPX) hlo hhi (by rw [← hX12]; exact fun x hx => hι x hx y (List.mem_cons_self ..)))
    have p1 : (X.take i ++ y :: X.drop i).Perm (y :: (X.take i ++ X.drop i)) := List.perm_middle
    rw [← hX12] at p1
    exact p1.trans (List.perm_append_comm (l₁ := [y]))
   generalize X.take i = X1 at *
   generalize X.drop i = X2 at *
   subst hX12
   refine ⟨fun z B => ∃ U V : List (TE × G), X2 = U ++ V ∧ z = ((A.length + i + U.length : Nat) : Int) ∧ B = arr H0 b sp (A ++ X1 ++ U ++ y :: (V ++ D)), fun z _ => z.toNat, ⟨X2, [], by simp, by simp only [List.length_append]; omega, by simp only [List.append_assoc, List.cons_append, List.nil_append, List.append_nil, List.singleton_append]⟩, ?_⟩
   rintro z B ⟨U, V, rfl, rfl, rfl⟩
   simp only [List.length_append, List.length_singleton] at l1 hn hj
   refine ift.of (fun hlt => ?_) (fun hlt => ?_)
   ·have hlt := of_decide_eq_true hlt
    have hne : U ≠ [] := fun e => by subst e; simp at hlt
    obtain ⟨U', u, rfl⟩ := snoc_of hne
    simp only [List.length_append, List.length_singleton] at hn hlt ⊢
    have w4 : w .i64 (((A.length + i + (U'.length + 1) : Nat) : Int) - 1) = ((A.length + i + U'.length : Nat) : Int) := by rw [w_i64 (by omega) (by omega)]; omega
    rw [w4]
    refine ⟨fun _ B => B = arr H0 b sp ((A ++ X1 ++ U') ++ y :: ([] ++ u :: (V ++ D))), ?_, ?_⟩
    ·show dr _ _
     refine swp2 (J := fun _ B => B = arr H0 b sp ((A ++ X1 ++ U') ++ y :: ([] ++ u :: (V ++ D)))) h.s (A := A ++ X1 ++ U') (x := u) (B := []) (y := y) (D := V ++ D) ?_ ?_ ?_ ?_ rfl
     ·first | (simp only [List.length_append, List.length_nil]; done) | (simp only [List.length_append, List.length_nil]; omega)
     ·simp only [List.append_assoc, List.cons_append, List.nil_append]
     ·simp only [List.length_append]; omega
     ·first | (simp only [List.length_append, List.length_nil]; done) | (simp only [List.length_append, List.length_nil]; omega)
    rintro _ B rfl
    refine ⟨⟨U', u :: V, by simp, rfl, by simp only [List.append_assoc, List.cons_append, List.nil_append]⟩, by first | omega | (dsimp only; omega)⟩
   ·have hlt := of_decide_eq_false hlt
    have hU : U = [] := List.length_eq_zero_iff.1 (by omega)
    subst hU
    simpa only [List.append_assoc, List.cons_append, List.nil_append, List.append_nil] using fin
 -- many and many
 have hx2 : X.length ≠ 1 := fun e => by rw [e] at hone; simp at hone
 have hy2 : Y.length ≠ 1 := fun e => by rw [e] at hone2; simp at hone2
 clear hone hone2
 have hmid : w .i64 (sShr .u64 (w .u64 (w .i64 ((A.length : Int) + ((A.length + X.length + Y.length : Nat) : Int)))) 1) = ((A.length + (X.length + Y.length) / 2 : Nat) : Int) := by
  rw [half_ok (by omega)]; omega
 rw [hmid]
 have hf1 : 2 ≤ (X.length + Y.length) / 2 := by omega
 have hf2 : 2 * ((X.length + Y.length) / 2) ≤ X.length + Y.length := by omega
 have hf3 : X.length + Y.length ≤ 2 * ((X.length + Y.length) / 2) + 1 := by omega
 generalize (X.length + Y.length) / 2 = F at *
 have wn : w .i64 (((A.length + F : Nat) : Int) + ((A.length + X.length : Nat) : Int)) = ((A.length + F + (A.length + X.length) : Nat) : Int) := by rw [w_i64 (by omega) (by omega)]; omega
 have wp : w .i64 (((A.length + F + (A.length + X.length) : Nat) : Int) - 1) = ((A.length + F + (A.length + X.length) - 1 : Nat) : Int) := by rw [w_i64 (by omega) (by omega)]; omega
 rw [wn, wp]
 have ws : w .i64 (((A.length + F + (A.length + X.length) : Nat) : Int) - ((A.length + X.length + Y.length : Nat) : Int)) = ((A.length + F : Nat) : Int) - ((Y.length : Nat) : Int) := by rw [w_i64 (by omega) (by omega)]; omega
 rw [ws]
 -- from where to where
 refine ⟨fun x B => B = arr H0 b sp (A ++ X ++ Y ++ D) ∧ ∃ lo hi : Nat, x = (((A.length + lo : Nat) : Int), ((A.length + hi : Nat) : Int)) ∧ lo ≤ hi ∧ hi ≤ X.length ∧ hi ≤ F ∧ F ≤ lo + Y.length ∧ (lo = 0 ∨ F = lo + Y.length) ∧ (hi = X.length ∨ hi = F), ift.of (fun hgt => ?_) (fun hgt => ?_), ?_⟩
 ·have hgt := of_decide_eq_true hgt
  exact ⟨rfl, F - Y.length, F, pr (by omega) (by omega), by omega, by omega, by omega, by omega, .inr (by omega), .inr rfl⟩
 ·have hgt := of_decide_eq_false hgt
  exact ⟨rfl, 0, X.length, pr (by omega) (by omega), by omega, by omega, by omega, by omega, .inl rfl, .inl rfl⟩
 rintro _ B ⟨rfl, lo, hi, rfl, hlh, hhX, hhF, hFl, hlo, hhi⟩
 have idx : ∀ c : Nat, c < X.length → c < F → F < c + 1 + Y.length → F - 1 - c < Y.length := fun c _ _ _ => by omega
 refine ⟨fun x B => B = arr H0 b sp (A ++ X ++ Y ++ D) ∧ ∃ i j : Nat, x = (((A.length + i : Nat) : Int), ((A.length + j : Nat) : Int)) ∧ lo ≤ i ∧ i ≤ j ∧ j ≤ hi ∧
  (lo < i → ∃ x y, X[i - 1]? = some x ∧ Y[F - i]? = some y ∧ ¬ κ y x < 0) ∧ (j < hi → ∃ x y, X[j]? = some x ∧ Y[F - 1 - j]? = some y ∧ κ y x < 0), fun x _ => (x.2 - x.1).toNat,
  ⟨rfl, lo, hi, rfl, Nat.le_refl _, hlh, Nat.le_refl _, fun hh => absurd hh (Nat.lt_irrefl _), fun hh => absurd hh (Nat.lt_irrefl _)⟩, ?_⟩
 rintro _ B ⟨rfl, i, j, rfl, hli, hij, hjh, hA, hB⟩
 dsimp only
 refine ift.of (fun hlt => ?_) (fun hlt => ?_)
 ·have hlt : i < j := by have := of_decide_eq_true hlt; omega
  rw [half_ok (by omega)]
  have hh : (A.length + i + (A.length + j)) / 2 = A.length + (i + j) / 2 := by omega
  rw [hh]
  have hc1 : i ≤ (i + j) / 2 := by omega
  have hc2 : (i + j) / 2 < j := by omega
  generalize (i + j) / 2 = c at *
  have hcX : c < X.length := by omega
  have hcY : F - 1 - c < Y.length := by omega
  have wq : w .i64 (((A.length + F + (A.length + X.length) - 1 : Nat) : Int) - ((A.length + c : Nat) : Int)) = ((A.length + X.length + (F - 1 - c) : Nat) : Int) := by
   have hcF : c < F := by omega
   exact idx_ok hcF (by omega) (by omega)
  rw [wq]
  have eX := eq_mid hcX
  have eY := eq_mid hcY
  have ltX : (X.take c).length = c := by rw [List.length_take]; omega
  have ltY : (Y.take (F - 1 - c)).length = F - 1 - c := by rw [List.length_take]; omega
  refine ⟨_, Heap.le.refl _, ?_⟩
  refine cmp0 h (by simp only [List.length_append]; omega) (A := A ++ X ++ Y.take (F - 1 - c)) (x := Y[F - 1 - c]) (D := Y.drop (F - 1 - c + 1) ++ D) ?_ ?_ (A2 := A ++ X.take c) (y := X[c]) (D2 := X.drop (c + 1) ++ Y ++ D) ?_ ?_ (hPY _ (List.getElem_mem hcY)) (hPX _ (List.getElem_mem hcX)) ?_
  ·conv => lhs; rw [eY]
   simp only [List.append_assoc, List.cons_append]
  ·simp only [List.length_append, ltY]
  ·conv => lhs; rw [eX]
   simp only [List.append_assoc, List.cons_append]
  ·simp only [List.length_append, ltX]
  refine ift.of (fun hd => ?_) (fun hd => ?_)
  ·have hd : ¬ κ Y[F - 1 - c] X[c] < 0 := by simpa using hd
   rw [w_i64 (by omega) (by omega)]
   refine ⟨⟨rfl, c + 1, j, pr (by omega) (by omega), by omega, by omega, hjh, fun _ => ⟨X[c], Y[F - 1 - c], List.getElem?_eq_getElem hcX, ?_, hd⟩, hB⟩, by first | omega | (dsimp only; omega)⟩
   rw [show F - (c + 1) = F - 1 - c by omega]; exact List.getElem?_eq_getElem hcY
  ·have hd : κ Y[F - 1 - c] X[c] < 0 := by simpa using hd
   exact ⟨⟨rfl, i, c, rfl, hli, hc1, by omega, hA, fun _ => ⟨X[c], Y[F - 1 - c], List.getElem?_eq_getElem hcX, List.getElem?_eq_getElem hcY, hd⟩⟩, by first | omega | (dsimp only; omega)⟩
 ·have hij : i = j := by have := of_decide_eq_false hlt; omega
  subst hij
  have we : w .i64 (((A.length + F + (A.length + X.length) : Nat) : Int) - ((A.length + i : Nat) : Int)) = ((A.length + X.length + (F - i) : Nat) : Int) := by rw [w_i64 (by omega) (by omega)]; omega
  rw [we]
  have hFi : F - i ≤ Y.length := by omega
  have spX := pw_split sX i
  have spY := pw_split sY (F - i)
  have eX : X = X.take i ++ X.drop i := (List.take_append_drop ..).symm
  have eY : Y = Y.take (F - i) ++ Y.drop (F - i) := (List.take_append_drop ..).symm
  have l1 : (X.take i).length = i := by rw [List.length_take]; omega
  have l2 : (X.drop i).length = X.length - i := List.length_drop ..
  have l3 : (Y.take (F - i)).length = F - i := by rw [List.length_take]; omega
  have l4 : (Y.drop (F - i)).length = Y.length - (F - i) := List.length_drop ..
  -- what is ahead stands ahead
  have c1 : ∀ x ∈ X.take i, ∀ y ∈ Y.drop (F - i), Bf κ ι x y := by
   intro x hx y hy
   rcases Nat.lt_or_ge lo i with hlt | hge
   ·obtain ⟨x0, y0, hx0, hy0, hn0⟩ := hA hlt
    have hx0l : i - 1 < X.length := by omega
    obtain ⟨hy0l, hy0e⟩ := List.getElem?_eq_some_iff.1 hy0
    obtain ⟨_, hx0e⟩ := List.getElem?_eq_some_iff.1 hx0
    have m1 : x0 ∈ X := hx0e ▸ List.getElem_mem hx0l
    have m2 : y0 ∈ Y := hy0e ▸ List.getElem_mem hy0l
    have a1 : κ x x0 ≤ 0 := by
     have hx' : x ∈ X.take (i - 1 + 1) := by rw [show i - 1 + 1 = i by omega]; exact hx
     rw [List.take_add_one, hx0, Option.toList_some] at hx'
     rcases List.mem_append.1 hx' with hx' | hx'
     ·have := ((pw_mid sX hx0l).1 x hx').le; rw [hx0e] at this; exact this
     ·rw [List.mem_singleton.1 hx', h.lin.refl (hPX x0 m1)]; omega
    have a2 : κ y0 y ≤ 0 := by
     rw [List.drop_eq_getElem_cons hy0l, hy0e] at hy
     rcases List.mem_cons.1 hy with rfl | hy
     ·rw [h.lin.refl (hPY y m2)]; omega
     ·have := ((pw_mid sY hy0l).2 y hy).le; rw [hy0e] at this; exact this
    have a3 := h.lin.anti y0 x0 (hPY y0 m2) (hPX x0 m1)
    have a4 := (h.lin.tr x x0 y0 (hPX x (mem_take hx)) (hPX x0 m1) (hPY y0 m2) a1 (by omega)).1
    have a5 := (h.lin.tr x y0 y (hPX x (mem_take hx)) (hPY y0 m2) (hPY y (mem_drop hy)) a4 a2).1
    exact Bf.of a5 (hι x (mem_take hx) y (mem_drop hy))
   ·rcases hlo with h0 | h0
    ·have : i = 0 := by omega
     rw [this] at hx; simp at hx
    ·have : (Y.drop (F - i)).length = 0 := by omega
     rw [List.length_eq_zero_iff.1 this] at hy; cases hy
  have c2 : ∀ y ∈ Y.take (F - i), ∀ x ∈ X.drop i, Bf κ ι y x := by
   intro y hy x hx
   rcases Nat.lt_or_ge i hi with hlt | hge
   ·obtain ⟨x0, y0, hx0, hy0, hn0⟩ := hB hlt
    obtain ⟨hy0l, hy0e⟩ := List.getElem?_eq_some_iff.1 hy0
    obtain ⟨hx0l, hx0e⟩ := List.getElem?_eq_some_iff.1 hx0
    have m1 : x0 ∈ X := hx0e ▸ List.getElem_mem hx0l
    have m2 : y0 ∈ Y := hy0e ▸ List.getElem_mem hy0l
    have a1 : κ y y0 ≤ 0 := by
     have hy' : y ∈ Y.take (F - 1 - i + 1) := by rw [show F - 1 - i + 1 = F - i by omega]; exact hy
     rw [List.take_add_one, hy0, Option.toList_some] at hy'
     rcases List.mem_append.1 hy' with hy' | hy'
     ·have := ((pw_mid sY hy0l).1 y hy').le; rw [hy0e] at this; exact this
     ·rw [List.mem_singleton.1 hy', h.lin.refl (hPY y0 m2)]; omega
    have a2 : κ x0 x ≤ 0 := by
     rw [List.drop_eq_getElem_cons hx0l, hx0e] at hx
     rcases List.mem_cons.1 hx with rfl | hx
     ·rw [h.lin.refl (hPX x m1)]; omega
     ·have := ((pw_mid sX hx0l).2 x hx).le; rw [hx0e] at this; exact this
    have a4 := (h.lin.tr y y0 x0 (hPY y (mem_take hy)) (hPY y0 m2) (hPX x0 m1) a1 (by omega)).2 (.inr hn0)
    exact .inl ((h.lin.tr y x0 x (hPY y (mem_take hy)) (hPX x0 m1) (hPX x (mem_drop hx)) (by omega) a2).2 (.inl a4))
   ·rcases hhi with h0 | h0
    ·have : (X.drop i).length = 0 := by omega
     rw [List.length_eq_zero_iff.1 this] at hx; cases hx
    ·have : F - i = 0 := by omega
     rw [this] at hy; simp at hy
  have hP1 : ∀ x ∈ X.take i ++ Y.take (F - i), P x := fun x hx => by
   rcases List.mem_append.1 hx with hx | hx
   ·exact hPX x (mem_take hx)
   ·exact hPY x (mem_take hx)
  have hP2 : ∀ x ∈ X.drop i ++ Y.drop (F - i), P x := fun x hx => by
   rcases List.mem_append.1 hx with hx | hx
   ·exact hPX x (mem_drop hx)
   ·exact hPY x (mem_drop hx)
  have ι1 : ∀ x ∈ X.take i, ∀ y ∈ Y.take (F - i), ι x < ι y := fun x hx y hy => hι x (mem_take hx) y (mem_take hy)
  have ι2 : ∀ x ∈ X.drop i, ∀ y ∈ Y.drop (F - i), ι x < ι y := fun x hx y hy => hι x (mem_drop hx) y (mem_drop hy)
  have k2 : ∀ Z1 Z2 : List (TE × G), Z1.Perm (X.take i ++ Y.take (F - i)) → Z1.Pairwise (Bf κ ι) → Z2.Perm (X.drop i ++ Y.drop (F - i)) → Z2.Pairwise (Bf κ ι) → K (arr H0 b sp (A ++ (Z1 ++ Z2) ++ D)) := by
   intro Z1 Z2 p1 s1 p2 s2
   refine k _ ?_ (List.pairwise_append.2 ⟨s1, s2, fun u hu v hv => ?_⟩)
   ·have p3 := p1.append p2
    refine p3.trans ?_
    conv => rhs; rw [eX, eY]
    simp only [List.append_assoc]
    refine List.Perm.append_left _ ?_
    rw [← List.append_assoc, ← List.append_assoc]
    exact List.Perm.append_right _ List.perm_append_comm
   ·rcases List.mem_append.1 (p1.mem_iff.1 hu) with hu | hu
    ·rcases List.mem_append.1 (p2.mem_iff.1 hv) with hv | hv
     ·exact spX.2.2 u hu v hv
     ·exact c1 u hu v hv
    ·rcases List.mem_append.1 (p2.mem_iff.1 hv) with hv | hv
     ·exact c2 u hu v hv
     ·exact spY.2.2 u hu v hv
  generalize X.take i = X1 at *
  generalize X.drop i = X2 at *
  generalize Y.take (F - i) = Y1 at *
  generalize Y.drop (F - i) = Y2 at *
  have hlX : X.length = X1.length + X2.length := by rw [eX, List.length_append]
  have hlY : Y.length = Y1.length + Y2.length := by rw [eY, List.length_append]
  refine ⟨fun _ B => B = arr H0 b sp (A ++ X1 ++ Y1 ++ X2 ++ Y2 ++ D), ift.of (fun hr => ?_) (fun hr => ?_), ?_⟩
  ·simp only [Bool.and_eq_true, decide_eq_true_eq] at hr
   have e0 : A ++ X ++ Y ++ D = (A ++ X1) ++ X2 ++ Y1 ++ (Y2 ++ D) := by rw [eX, eY]; simp only [List.append_assoc]
   rw [e0]
   refine rot_ok h.s (A := A ++ X1) (X := X2) (Y := Y1) (D := Y2 ++ D) (by simp only [List.length_append]; omega) (fun e => by rw [e] at hlX; simp only [List.length_nil] at hlX; omega) (fun e => by rw [e] at l3; simp only [List.length_nil] at l3; omega) (by simp only [List.length_append]; omega) (by simp only [List.length_append]; omega) (by simp only [List.length_append]; omega) ?_
   simp only [List.append_assoc]
  ·simp only [Bool.and_eq_false_iff, decide_eq_false_iff_not] at hr
   rw [eX, eY]
   rcases hr with hr | hr
   ·have : X2 = [] := List.length_eq_zero_iff.1 (by omega)
    subst this
    simp only [List.append_assoc, List.nil_append, List.append_nil]
   ·have : Y1 = [] := List.length_eq_zero_iff.1 (by omega)
    subst this
    simp only [List.append_assoc, List.nil_append, List.append_nil]
  rintro _ B rfl
  refine ⟨fun _ B => ∃ Z1 : List (TE × G), Z1.Perm (X1 ++ Y1) ∧ Z1.Pairwise (Bf κ ι) ∧ B = arr H0 b sp (A ++ Z1 ++ X2 ++ Y2 ++ D), ift.of (fun hr => ?_) (fun hr => ?_), ?_⟩
  ·simp only [Bool.and_eq_true, decide_eq_true_eq] at hr
   have e0 : A ++ X1 ++ Y1 ++ X2 ++ Y2 ++ D = A ++ X1 ++ Y1 ++ (X2 ++ Y2 ++ D) := by simp only [List.append_assoc]
   rw [e0]
   refine ih (X := X1) (Y := Y1) (A := A) (D := X2 ++ Y2 ++ D) (by omega) (fun e => by rw [e] at l1; simp only [List.length_nil] at l1; omega) (fun e => by rw [e] at l3; simp only [List.length_nil] at l3; omega) rfl (by omega) (by omega) (by simp only [List.length_append]; omega) hP1 spX.1 spY.1 ι1 fun Z p1 s1 => ⟨Z, p1, s1, by simp only [List.append_assoc]⟩
  ·simp only [Bool.and_eq_false_iff, decide_eq_false_iff_not] at hr
   refine ⟨X1 ++ Y1, .refl _, ?_, by simp only [List.append_assoc]⟩
   rcases hr with hr | hr
   ·have : X1 = [] := List.length_eq_zero_iff.1 (by omega)
    subst this
    exact spY.1
   ·have : Y1 = [] := List.length_eq_zero_iff.1 (by omega)
    subst this
    rw [List.append_nil]; exact spX.1
  rintro _ B ⟨Z1, p1, s1, rfl⟩
  have hz1 := p1.length_eq
  rw [List.length_append] at hz1
  refine ift.of (fun hr => ?_) (fun hr => ?_)
  ·simp only [Bool.and_eq_true, decide_eq_true_eq] at hr
   have e0 : A ++ Z1 ++ X2 ++ Y2 ++ D = (A ++ Z1) ++ X2 ++ Y2 ++ D := by simp only [List.append_assoc]
   rw [e0]
   refine ih (X := X2) (Y := Y2) (A := A ++ Z1) (D := D) (by omega) (fun e => by rw [e] at hlX; simp only [List.length_nil] at hlX; omega) (fun e => by rw [e] at l4; simp only [List.length_nil] at l4; omega) (by simp only [List.length_append]; omega) (by simp only [List.length_append]; omega) (by simp only [List.length_append]; omega) (by simp only [List.length_append]; omega) hP2 spX.2.1 spY.2.1 ι2 fun Z p2 s2 => ?_
   have := k2 Z1 Z p1 s1 p2 s2
   simpa only [List.append_assoc] using this
  ·simp only [Bool.and_eq_false_iff, decide_eq_false_iff_not] at hr
   have s2 : (X2 ++ Y2).Pairwise (Bf κ ι) := by
    rcases hr with hr | hr
    ·have : X2 = [] := List.length_eq_zero_iff.1 (by omega)
     subst this
     exact spY.2.1
    ·have : Y2 = [] := List.length_eq_zero_iff.1 (by omega)
     subst this
     rw [List.append_nil]; exact spX.2.1
   have := k2 Z1 (X2 ++ Y2) p1 s1 (.refl _) s2
   simpa only [List.append_assoc] using this
theorem sym_ok (h : Where C H0 R s b n f P κ) {X Y A D : List (TE × G)} {a m e : Int} {K : Heap → Prop} (hX : X ≠ []) (hY : Y ≠ []) (ha : a = (A.length : Int)) (hm : m = ((A.length + X.length : Nat) : Int)) (he : e = ((A.length + X.length + Y.length : Nat) : Int)) (hn : A.length + X.length + Y.length + D.length = n)
 (hP : ∀ x ∈ X ++ Y, P x) (sX : X.Pairwise (Bf κ ι)) (sY : Y.Pairwise (Bf κ ι)) (hι : ∀ x ∈ X, ∀ y ∈ Y, ι x < ι y)
 (k : ∀ Z : List (TE × G), Z.Perm (X ++ Y) → Z.Pairwise (Bf κ ι) → K (arr H0 b sp (A ++ Z ++ D))) : c_slices_symMergeCmpFunc_zset_Entry C s a m e f K (arr H0 b sp (A ++ X ++ Y ++ D)) :=
 sym_key h _ (Nat.le_refl _) hX hY ha hm he hn hP sX sY hι k
theorem stb_ok (h : Where C H0 R s b n f P κ) {L0 : List (TE × G)} {K : Heap → Prop} (hn : L0.length = n) (hP : ∀ x ∈ L0, P x) (hι : L0.Pairwise fun x y => ι x < ι y)
 (k : ∀ Z : List (TE × G), Z.Perm L0 → Z.Pairwise (Bf κ ι) → K (arr H0 b sp Z)) : c_slices_stableCmpFunc_zset_Entry C s (n : Int) f K (arr H0 b sp L0) := by
 have hsm := h.s.small
 apply ad_slices_stableCmpFunc_zset_Entry
 unfold sh_slices_stableCmpFunc_zset_Entry
 refine ⟨fun x B => ∃ D0 R0 D : List (TE × G), L0 = D0 ++ R0 ∧ D.length = D0.length ∧ x = (((D.length : Nat) : Int), ((D.length + 20 : Nat) : Int)) ∧ B = arr H0 b sp (D ++ R0) ∧ ∀ Z', Ch κ ι 20 Z' R0 → Ch κ ι 20 (D ++ Z') L0, fun x _ => n - x.1.toNat,
  ⟨[], L0, [], rfl, rfl, rfl, rfl, fun Z' hz => hz⟩, ?_⟩
 rintro _ B ⟨D0, R0, D, hL, hD, rfl, rfl, hc⟩
 have hl : D.length + R0.length = n := by rw [← hn, hL, List.length_append, hD]
 have hP0 : ∀ x ∈ R0, P x := fun x hx => hP x (by rw [hL]; exact List.mem_append_right _ hx)
 have hι0 : R0.Pairwise fun x y => ι x < ι y := by rw [hL] at hι; exact (List.pairwise_append.1 hι).2.1
 dsimp only
 refine ift.of (fun hle => ?_) (fun hle => ?_)
 ·have hle := of_decide_eq_true hle
  have hR : R0 = R0.take 20 ++ R0.drop 20 := (List.take_append_drop ..).symm
  have l1 : (R0.take 20).length = 20 := by rw [List.length_take]; omega
  have hι1 := (pw_split hι0 20).1
  have hP1 : ∀ x ∈ R0.take 20, P x := fun x hx => hP0 x (mem_take hx)
  generalize R0.take 20 = X at *
  generalize R0.drop 20 = R1 at *
  subst hR
  rw [List.length_append] at hl
  rw [w_i64 (by omega) (by omega)]
  have e0 : D ++ (X ++ R1) = D ++ X ++ R1 := by simp only [List.append_assoc]
  rw [e0]
  refine ins_ok h (A := D) (X := X) (D := R1) rfl (by omega) (by omega) hP1 hι1 fun Z p1 s1 => ?_
  have hz := p1.length_eq
  refine ⟨⟨D0 ++ X, R1, D ++ Z, by rw [hL]; simp only [List.append_assoc], by simp only [List.length_append]; omega, ?_, rfl, fun Z' hz' => ?_⟩, ?_⟩
  ·exact pr (by simp only [List.length_append]; omega) (by simp only [List.length_append]; omega)
  ·rw [List.append_assoc]
   exact hc _ (.cons l1 p1 s1 hz')
  ·first | omega | (dsimp only; omega)
 ·have hle := of_decide_eq_false hle
  have e0 : D ++ R0 = D ++ R0 ++ [] := by simp only [List.append_nil]
  rw [e0]
  refine ins_ok h (A := D) (X := R0) (D := []) rfl (by omega) (by simp only [List.length_nil]; omega) hP0 hι0 fun Z p1 s1 => ?_
  rw [List.append_nil]
  have hch := hc Z (.last (by omega) p1 s1)
  clear hc e0 hle hι0 hP0 hl hD hL
  generalize D ++ Z = Z at hch
  refine ⟨fun x B => ∃ (bs : Nat) (Z : List (TE × G)), x = (bs : Int) ∧ 1 ≤ bs ∧ bs ≤ 281474976710656 ∧ B = arr H0 b sp Z ∧ Ch κ ι bs Z L0, fun x _ => n - x.toNat, ⟨20, Z, rfl, by omega, by omega, rfl, hch⟩, ?_⟩
  rintro _ B ⟨bs, Z, rfl, hb1, hb2, rfl, hch⟩
  refine ift.of (fun hlt => ?_) (fun hlt => ?_)
  ·have hlt : bs < n := by have := of_decide_eq_true hlt; omega
   have w2 : w .i64 (2 * (bs : Int)) = ((2 * bs : Nat) : Int) := by rw [w_i64 (by omega) (by omega)]; omega
   rw [w2]
   refine ⟨fun x B => ∃ D R D0 R0 : List (TE × G), L0 = D0 ++ R0 ∧ D.length = D0.length ∧ x = (((D.length : Nat) : Int), ((D.length + 2 * bs : Nat) : Int)) ∧ B = arr H0 b sp (D ++ R) ∧ Ch κ ι bs R R0 ∧ ∀ Z', Ch κ ι (2 * bs) Z' R0 → Ch κ ι (2 * bs) (D ++ Z') L0, fun x _ => n - x.1.toNat,
    ⟨[], Z, [], L0, rfl, rfl, pr rfl (by simp), rfl, hch, fun Z' hz => hz⟩, ?_⟩
   rintro _ B ⟨D, R, D0, R0, hL, hD, rfl, rfl, hR, hc⟩
   have hl : D.length + R0.length = n := by rw [← hn, hL, List.length_append, hD]
   have hP0 : ∀ x ∈ R0, P x := fun x hx => hP x (by rw [hL]; exact List.mem_append_right _ hx)
   have hι0 : R0.Pairwise fun x y => ι x < ι y := by rw [hL] at hι; exact (List.pairwise_append.1 hι).2.1
   have hrl := hR.perm.length_eq
   dsimp only
   have wa : w .i64 ((D.length : Int) + (bs : Int)) = ((D.length + bs : Nat) : Int) := by rw [w_i64 (by omega) (by omega)]; omega
   rw [wa]
   refine ift.of (fun hle => ?_) (fun hle => ?_)
   ·have hle := of_decide_eq_true hle
    obtain ⟨X, R1, X0, R2, rfl, rfl, lx, px, sx, hR2⟩ := hR.big (by omega)
    rw [List.length_append] at hl
    obtain ⟨Y, R1, Y0, R2, rfl, rfl, ly, py, sy, hR3⟩ := hR2.big (by omega)
    rw [List.length_append] at hl
    have hxl := px.length_eq
    have hyl := py.length_eq
    have hr3 := hR3.perm.length_eq
    have wb : w .i64 (((D.length + 2 * bs : Nat) : Int) + ((2 * bs : Nat) : Int)) = ((D.length + 2 * bs + 2 * bs : Nat) : Int) := by rw [w_i64 (by omega) (by omega)]; omega
    rw [wb]
    have e0 : D ++ (X ++ (Y ++ R1)) = D ++ X ++ Y ++ R1 := by simp only [List.append_assoc]
    rw [e0]
    have hιx := List.pairwise_append.1 hι0
    refine sym_ok h (A := D) (X := X) (Y := Y) (D := R1) (fun e => by rw [e] at hxl; simp only [List.length_nil] at hxl; omega) (fun e => by rw [e] at hyl; simp only [List.length_nil] at hyl; omega) rfl (by omega) (by omega) (by omega) (fun x hx => ?_) sx sy (fun x hx y hy => hιx.2.2 x (px.mem_iff.1 hx) y (List.mem_append_left _ (py.mem_iff.1 hy))) fun Z1 p1 s1 => ?_
    ·rcases List.mem_append.1 hx with hx | hx
     ·exact hP0 x (List.mem_append_left _ (px.mem_iff.1 hx))
     ·exact hP0 x (List.mem_append_right _ (List.mem_append_left _ (py.mem_iff.1 hx)))
    ·have hz := p1.length_eq
     rw [List.length_append] at hz
     refine ⟨⟨D ++ Z1, R1, D0 ++ X0 ++ Y0, R2, by rw [hL]; simp only [List.append_assoc], by simp only [List.length_append]; omega, ?_, rfl, hR3, fun Z' hz' => ?_⟩, ?_⟩
     ·exact pr (by simp only [List.length_append]; omega) (by simp only [List.length_append]; omega)
     ·rw [List.append_assoc]
      refine hc _ ?_
      rw [← List.append_assoc]
      exact .cons (by rw [List.length_append]; omega) (p1.trans (px.append py)) s1 hz'
     ·first | omega | (dsimp only; omega)
   ·have hle := of_decide_eq_false hle
    refine ⟨fun _ B => ∃ Z : List (TE × G), B = arr H0 b sp Z ∧ Ch κ ι (2 * bs) Z L0, ift.of (fun hlt2 => ?_) (fun hlt2 => ?_), ?_⟩
    ·have hlt2 := of_decide_eq_true hlt2
     obtain ⟨X, Y, X0, Y0, rfl, rfl, lx, px, sx, hR2⟩ := hR.big (by omega)
     rw [List.length_append] at hl
     have hxl := px.length_eq
     have hyl := hR2.perm.length_eq
     have sy := hR2.small (by omega)
     have hιx := List.pairwise_append.1 hι0
     have e0 : D ++ (X ++ Y) = D ++ X ++ Y ++ [] := by simp only [List.append_assoc, List.append_nil]
     rw [e0]
     refine sym_ok h (A := D) (X := X) (Y := Y) (D := []) (fun e => by rw [e] at hxl; simp only [List.length_nil] at hxl; omega) (fun e => by rw [e] at hyl; simp only [List.length_nil] at hyl; omega) rfl (by omega) (by omega) (by simp only [List.length_nil]; omega) (fun x hx => ?_) sx sy (fun x hx y hy => hιx.2.2 x (px.mem_iff.1 hx) y (hR2.perm.mem_iff.1 hy)) fun Z1 p1 s1 => ?_
     ·rcases List.mem_append.1 hx with hx | hx
      ·exact hP0 x (List.mem_append_left _ (px.mem_iff.1 hx))
      ·exact hP0 x (List.mem_append_right _ (hR2.perm.mem_iff.1 hx))
     ·refine ⟨D ++ Z1, by rw [List.append_nil], hc _ (.last (by rw [List.length_append]; omega) (p1.trans (px.append hR2.perm)) s1)⟩
    ·have hlt2 := of_decide_eq_false hlt2
     exact ⟨D ++ R, rfl, hc _ (.last (by omega) hR.perm (hR.all (by omega) (by omega)))⟩
    ·rintro _ B ⟨Z, rfl, hz⟩
     rw [w_i64 (by omega) (by omega)]
     exact ⟨⟨2 * bs, Z, by omega, by omega, by omega, rfl, hz⟩, by omega⟩
  ·have hlt : n ≤ bs := by have := of_decide_eq_false hlt; omega
   exact k Z hch.perm (hch.all (by omega) (by omega))
theorem sort_ok (h : Where C H0 R s b n f P κ) {L0 : List (TE × G)} {K : Heap → Prop} (hn : L0.length = n) (hP : ∀ x ∈ L0, P x) (hι : L0.Pairwise fun x y => ι x < ι y)
 (k : ∀ Z : List (TE × G), Z.Perm L0 → Z.Pairwise (Bf κ ι) → K (arr H0 b sp Z)) : c_slices_SortStableFunc_zset_Entry_zset_Entry C s f K (arr H0 b sp L0) := by
 apply ad_slices_SortStableFunc_zset_Entry_zset_Entry
 unfold sh_slices_SortStableFunc_zset_Entry_zset_Entry
 rw [h.s.len]
 exact stb_ok h hn hP hι k
end
end Sx.SE
end

noncomputable section
set_option linter.unusedVariables false
set_option linter.unusedSimpArgs false
namespace Sx
open Go Go.Proofs
section
variable {C : Ctx} {H : Heap}
theorem Own_ok {A : Heap} {l : List V} {t : Sl} {H : Heap} {K : Sl → Heap → Prop} (hv : VRow A t l) (hle : A.le H) (hz : vsizes l ≤ 1000000) (k : ∀ t2 H2, Made H H2 l t2 → K t2 H2) : c_ref02_Own C t K H := by
 have main : ∀ v : V, ∀ (A : Heap) (t : Sl) (H : Heap) (K : Sl → Heap → Prop), VRow A t v.l → A.le H → vsizes v.l ≤ 1000000 → (∀ t2 H2, Made H H2 v.l t2 → K t2 H2) → c_ref02_Own C t K H := by
  refine fun v => V.rec_ (P := fun v => ∀ (A : Heap) (t : Sl) (H : Heap) (K : Sl → Heap → Prop), VRow A t v.l → A.le H → vsizes v.l ≤ 1000000 → (∀ t2 H2, Made H H2 v.l t2 → K t2 H2) → c_ref02_Own C t K H) (fun v ih => ?_) v
  intro A t H K hv hle hz k
  apply ad_ref02_Own
  unfold sh_ref02_Own
  have hl := hv.len
  have hll := vsizes_len v.l
  refine ⟨fun x D => ∃ (s : Sl) (ys : List TV), x = (s, (ys.length : Int)) ∧ Od H D v.l s ys, fun x _ => v.l.length - x.2.toNat,
   ⟨Sl.nil, [], rfl, Od.nil⟩, ?_⟩
  rintro _ D ⟨s, ys, rfl, ho⟩
  rw [hl]
  refine ift.of (fun h => ?_) (fun h => ?_)
  ·have hlt : ys.length < v.l.length := by have := of_decide_eq_true h; dsimp only at this; omega
   have hleD := hle.trans ho.own.le
   refine hv.ld hleD rfl hlt fun x hx => ?_
   have hmem := List.getElem_mem hlt
   have hsz := vsize_mem hmem
   have hszl : vsize v.l[ys.length] = vsizes v.l[ys.length].l + 1 := by cases v.l[ys.length]; rfl
   have hxi := VIs_iff.1 hx
   intro b12 n12
   refine ⟨_, Heap.put_same .., by simp [T_api_Value.c], ?_⟩
   rw [Heap.put_put]
   have hc : splice (T_api_Value.c T_api_Value.zero) (b12, 0).2 (T_api_Value.c x) = T_api_Value.c x := rfl
   rw [hc]
   show ldL (D.put b12 (.row (T_api_Value.c x))) _ _
   refine ⟨x.L, by rw [rd_same]; rfl, ?_⟩
   refine ih _ hmem A _ _ _ hxi.2.2.2 (hleD.trans (Heap.le_put n12)) (by omega) fun t2 H2 hm => ?_
   refine ⟨_, hm.le _ _ (Heap.put_same ..), by show 0 + 3 < 4; omega, ?_⟩
   show ldT (H2.put b12 (.row ((T_api_Value.c x).set (0 + 3) (slv t2)))) T_api_Value.c (b12, 0) _
   have hc2 : (T_api_Value.c x).set (0 + 3) (slv t2) = T_api_Value.c { x with L := t2 } := rfl
   rw [hc2]
   refine ⟨{ x with L := t2 }, rds_row (Heap.put_same ..) fun j v hj => by simpa using hj, ?_⟩
   have hown : Own (H2.put b12 (.row (T_api_Value.c { x with L := t2 }))) 4 s (ys.flatMap T_api_Value.c) := by
    obtain ⟨q1, q2, q3, q4⟩ := ho.own.own
    refine ⟨q1, q2, q3, q4.imp id fun ⟨b, sp, p1, p2, p3⟩ => ⟨b, sp, p1, ?_, p3⟩⟩
    have hne : b ≠ b12 := fun e => by rw [e, n12] at p2; cases p2
    rw [Heap.put_ne _ _ _ hne]
    exact hm.le _ _ (by rw [Heap.put_ne _ _ _ hne]; exact p2)
   have hf := flat4 ys
   have hsl : s.len = ys.length := by have := ho.own.own.1; omega
   refine apd_ownF (zc := T_api_Value.c T_api_Value.zero) hown.off rfl (by dsimp only; omega) (by dsimp only; omega) fun r H3 h4 hr => ?_
   rw [w_i64 (by omega) (by omega)]
   have hs := ho.step n12 hlt hm (x := { x with L := t2 }) ⟨hxi.1, hxi.2.1, hxi.2.2.1⟩ rfl (fun z e hz he => by rw [Heap.put_ne _ _ _ hz]; exact he) h4
   refine ⟨⟨r, ys ++ [{ x with L := t2 }], ?_, hs⟩, by first | omega | (dsimp only; omega)⟩
   rw [List.length_append, List.length_singleton]; rfl
  ·have hn : ys.length = v.l.length := by
    have := of_decide_eq_false h; dsimp only at this
    have := ho.le
    omega
   exact k _ _ (ho.fin hn (by omega))
 exact main (.mk 0 0 [] l) A t H K hv hle hz k
end
end Sx
end

noncomputable section
set_option linter.unusedVariables false
set_option linter.unusedSimpArgs false
namespace Sx
open Go Go.Proofs
theorem vsizes_take {l : List V} {i : Nat} (h : i < l.length) : vsizes (l.take (i + 1)) = vsizes (l.take i) + vsize l[i] := by
 have e : ∀ a b : List V, vsizes (a ++ b) = vsizes a + vsizes b := by
  intro a
  induction a with
  | nil => intro b; simp [vsizes]
  | cons v a ih => intro b; simp only [List.cons_append, vsizes, ih]; omega
 rw [List.take_add_one, List.getElem?_eq_getElem h, Option.toList_some, e]; simp [vsizes]
section
variable {C : Ctx} {H : Heap}
theorem div50 {n : Nat} (h : n ≤ 140737488355328) : w .i64 (1 + w .i64 (Int.tdiv (n : Int) 50)) = ((1 + n / 50 : Nat) : Int) := by
 have e : Int.tdiv (n : Int) 50 = ((n / 50 : Nat) : Int) := by
  rw [Int.tdiv_eq_ediv_of_nonneg (by omega)]; omega
 rw [e, w_i64 (x := ((n / 50 : Nat) : Int)) (by omega) (by omega), w_i64 (by omega) (by omega)]; omega
theorem weight_ok {v : V} {x : TV} {H : Heap} {m : Nat} {K : Int → Heap → Prop} (hv : VIs H v x) (hB : VB v) (h0 : 1 ≤ m) (hm : m ≤ 1000000) (k : ∀ r : Nat, 1 ≤ r → r ≤ 8796093022208 + m → (r < m → vsize v ≤ r) → K r H) : c_law24_weight C x m K H := by
 refine V.rec_ (P := fun v => ∀ {x H} {m : Nat} {K : Int → Heap → Prop}, VIs H v x → VB v → 1 ≤ m → m ≤ 1000000 → (∀ r : Nat, 1 ≤ r → r ≤ 8796093022208 + m → (r < m → vsize v ≤ r) → K r H) → c_law24_weight C x m K H) (fun v ih => ?_) v hv hB h0 hm k
 clear hv hB h0 hm k m
 intro x H m K hv hB h0 hm k
 apply c_law24_weight.gh
 apply ad_law24_weight
 unfold sh_law24_weight
 intro b1 n1
 have hr := hv.row
 have hl := hr.len
 have hbl := hB.l
 have hbs := hB.s
 have hsz : vsize v = vsizes v.l + 1 := by obtain ⟨k, n, s, l⟩ := v; rfl
 have hb1 : (H.put b1 (.row (T_api_Value.c x))) b1 = some (true, .row (T_api_Value.c x)) := Heap.put_same ..
 have hle1 := Heap.le_put n1 (g := .row (T_api_Value.c x)) (m := true)
 generalize H.put b1 (.row (T_api_Value.c x)) = H1 at *
 refine bxS hb1 ?_
 rw [hv.txt, div50 hbs]
 have hd : v.s.length / 50 ≤ 2814749767107 := by omega
 refine ⟨fun y A => A = H1 ∧ ∃ i n : Nat, y = ((n : Int), (i : Int)) ∧ i ≤ v.l.length ∧ 1 ≤ n ∧ n ≤ 8796093022208 + m ∧ (n < m → 1 + vsizes (v.l.take i) ≤ n), fun y _ => v.l.length - y.2.toNat,
  ⟨rfl, 0, _, rfl, Nat.zero_le _, by omega, by omega, fun _ => by simp [vsizes]⟩, ?_⟩
 rintro _ A ⟨rfl, i, n, rfl, hi, hn1, hn2, hn3⟩
 refine bxL hb1 ?_
 rw [hl]
 refine ift.of (fun h => ?_) (fun h => ?_)
 ·simp only [Bool.and_eq_true, decide_eq_true_eq] at h
  have hlt : i < v.l.length := by omega
  have hnm : n < m := by omega
  have hmem := List.getElem_mem hlt
  refine bxL hb1 ?_
  refine hr.ld hle1 rfl hlt fun y hy => ?_
  rw [w_i64 (x := (m : Int) - n) (by omega) (by omega), show (m : Int) - n = ((m - n : Nat) : Int) by omega]
  refine ih _ hmem (hy.le hle1) (hB.ls.mem hmem) (by omega) (by omega) fun r r1 r2 r3 => ?_
  rw [w_i64 (by omega) (by omega), w_i64 (by omega) (by omega)]
  refine ⟨⟨rfl, i + 1, n + r, by simp, by omega, by omega, by omega, fun hh => ?_⟩, by first | omega | (dsimp only; omega)⟩
  rw [vsizes_take hlt]
  have := r3 (by omega)
  have := hn3 hnm
  omega
 ·refine ⟨H, Gh.le hle1, k n hn1 hn2 fun hh => ?_⟩
  have hie : i = v.l.length := by
   have hnm := hh
   simp only [Bool.and_eq_false_iff, decide_eq_false_iff_not] at h
   omega
  have := hn3 hh
  rw [hie, List.take_length] at this
  omega
end
end Sx
end

noncomputable section
set_option linter.unusedVariables false
set_option linter.unusedSimpArgs false
set_option maxRecDepth 10000
namespace Sx
open Go Go.Proofs
/-- an entry: a row, and a number -/
abbrev En := List V × Int
def EnIs (A : Heap) (v : En) (x : T_zset_Entry) : Prop := VRow A x.Row v.1 ∧ VBs v.1 ∧ v.1.length ≤ 140737488355328 ∧ x.N = v.2 ∧ -9223372036854775808 ≤ v.2 ∧ v.2 < 9223372036854775808
abbrev EnL (A : Heap) := SlIs (EnIs A) T_zset_Entry.c A
theorem EnIs.le {A B : Heap} (hle : A.le B) {v : En} {x : T_zset_Entry} (h : EnIs A v x) : EnIs B v x := ⟨h.1.le hle, h.2⟩
/-- beyond what may be -/
def outE (n : Int) : Bool := decide (n < -2147483647) || decide (n > 2147483647)
section
variable {C : Ctx} {H A : Heap}
theorem out_ok {n : Int} {K : Bool → Heap → Prop} (k : K (outE n) H) : c_zset_out C n K H := by
 apply ad_zset_out; exact k
theorem as_ok {n : Int} {K : Int → Heap → Prop} (k : K n H) : c_zset_as C n K H := by
 apply ad_zset_as; exact k
theorem turn_ok {n : Int} {K : Int → Heap → Prop} (k : K (w .i64 (0 - n)) H) : c_zset_turn C n K H := by
 apply ad_zset_turn; exact k
theorem sums1_ok {v : V} {x : TV} {K : Bool → Heap → Prop} (hv : VIs H v x) (hB : VB v) (k : K (!(mayV v)) H) : c_zset_sums_1 C x K H := by
 apply c_zset_sums_1.gh
 apply ad_zset_sums_1
 unfold sh_zset_sums_1
 intro b1 n1
 have hle := Heap.le_put n1 (g := .row (T_api_Value.c x)) (m := true)
 have h1 : (H.put b1 (.row (T_api_Value.c x))) b1 = some (true, .row (T_api_Value.c x)) := Heap.put_same ..
 generalize H.put b1 (.row (T_api_Value.c x)) = H2 at *
 refine bxV h1 (value_Check_ok (hv.le hle) hB ⟨H, Gh.le hle, ?_⟩)
 have : ((checkV v : Int) != 0) = !(mayV v) := by unfold mayV; rfl
 rw [this]; exact k
end
end Sx
end

noncomputable section
set_option linter.unusedVariables false
set_option linter.unusedSimpArgs false
set_option maxRecDepth 10000
namespace Sx
open Go Go.Proofs
theorem VLs {A : Heap} {t : Sl} {l : List V} (h : VRow A t l) (hb : l.length ≤ 140737488355328) : SlIs (VIs A) T_api_Value.c A t l := by
 obtain ⟨xs, h1, h2, h3⟩ := h
 exact ⟨xs, h1, h2, h3.len, hb, fun i v x hv hx => h3.get i v x hv hx⟩
def fnv (b : Bool) : Value := .func (.func (if b then 56 else 52)) (List.toArray []) (List.toArray [])
def doE (b : Bool) (n : Int) : Int := if b then w .i64 (0 - n) else n
section
variable {C : Ctx} {H A : Heap}
theorem fnv_ok {b : Bool} {n : Int} {Φ : Value → Heap → Prop} (k : Φ (.int .i64 (doE b n)) H) : callU Tryz.prog C (fnv b) [.int .i64 n] H Φ := by
 cases b with
 | true => exact ⟨56, [], [], rfl, ok_zset_turn, Spec.mono (turn_ok (C := C) (n := n) (K := fun r H2 => Φ (.int .i64 r) H2) k) fun v H2 ⟨r, hv, hr⟩ => by rw [hv]; exact hr⟩
 | false => exact ⟨52, [], [], rfl, ok_zset_as, Spec.mono (as_ok (C := C) (n := n) (K := fun r H2 => Φ (.int .i64 r) H2) k) fun v H2 ⟨r, hv, hr⟩ => by rw [hv]; exact hr⟩
theorem mayC_ok {l : List V} {s : Sl} {K : Bool → Heap → Prop} (hs : VRow H s l) (hB : VBs l) (hl : l.length ≤ 140737488355328) (k : K (!(mayR l)) H) : c_slices_ContainsFunc_api_Value_api_Value C s (.func (.func 68) (List.toArray []) (List.toArray []) : Value) K H := by
 apply ad_slices_ContainsFunc_api_Value_api_Value
 unfold sh_slices_ContainsFunc_api_Value_api_Value
 apply ad_slices_IndexFunc_api_Value_api_Value
 unfold sh_slices_IndexFunc_api_Value_api_Value
 have hS := VLs hs hl
 refine ⟨fun x D => D = H ∧ ∃ i : Nat, x = (i : Int) ∧ i ≤ l.length ∧ (l.take i).all mayV = true, fun x _ => l.length - x.toNat, ⟨rfl, 0, rfl, Nat.zero_le _, by simp⟩, ?_⟩
 rintro _ D ⟨rfl, i, rfl, hi, hq⟩
 rw [hS.len]
 refine ift.of (fun h => ?_) (fun h => ?_)
 ·have hlt : i < l.length := by have := of_decide_eq_true h; omega
  refine hS.ld (Heap.le.refl _) (fun _ => rfl) (by omega) rfl hlt fun x hx => cu ok_zset_sums_1 (sums1_ok hx (hB.mem (List.getElem_mem hlt)) ?_)
  refine ift.of (fun h2 => ?_) (fun h2 => ?_)
  ·have h3 : mayV l[i] = false := by simpa using h2
   rw [mayR_no (List.getElem_mem hlt) h3] at k
   show K (decide ((i : Int) ≥ 0)) D
   rw [decide_eq_true (by omega)]; exact k
  ·have h3 : mayV l[i] = true := by simpa using h2
   rw [w_i64 (by omega) (by omega)]
   refine ⟨⟨rfl, i + 1, by omega, by omega, ?_⟩, by first | omega | (dsimp only; omega)⟩
   rw [List.take_add_one, List.getElem?_eq_getElem hlt, List.all_append, hq]
   simp [h3]
 ·have hie : i = l.length := by have := of_decide_eq_false h; omega
  rw [hie, List.take_length] at hq
  have : mayR l = true := by unfold mayR; exact hq
  rw [this] at k
  exact k
end
/-- where all entries so far stand -/
structure SI (A : Heap) (b1 b3 b5 b7 yl : Nat) (S : List (En × Bool)) (E H : Heap) (k : Nat) : Prop where
 leE : E.le H
 off : E b1 = none ∧ E b3 = none ∧ E b5 = none ∧ E b7 = none ∧ E yl = none
 ne : b1 ≠ b3 ∧ b5 ≠ b7 ∧ b5 ≠ b1 ∧ b5 ≠ b3 ∧ b7 ≠ b1 ∧ b7 ≠ b3
 c1 : H b1 = some (true, .row [slv Sl.nil])
 c3 : H b3 = some (true, .row [.int .i64 0])
 c7 : H b7 = some (true, .row [.int .i64 (if (S.take k).any (fun x => outE x.1.2) then 80 else 0)])
 may : ∀ x ∈ S.take k, mayR x.1.1 = true
 ls : ∃ (s : Sl) (L : List (T_zset_Entry × En)), H b5 = some (true, .row [slv s]) ∧ Own H 2 s (L.flatMap fun x => T_zset_Entry.c x.1) ∧ Fresh E s ∧ (∀ p, s.p = some p → p.1 ≠ b1 ∧ p.1 ≠ b3 ∧ p.1 ≠ b5 ∧ p.1 ≠ b7 ∧ p.1 ≠ yl) ∧
  L.map (·.2) = (S.take k).map (fun x => (x.1.1, doE x.2 x.1.2)) ∧ ∀ x ∈ L, (VRow A x.1.Row x.2.1 ∧ VBs x.2.1 ∧ x.2.1.length ≤ 140737488355328) ∧ x.1.N = x.2.2
/-- a row may not be -/
structure SErr (b1 b3 : Nat) (S : List (En × Bool)) (E H : Heap) : Prop where
 leE : E.le H
 c1 : H b1 = some (true, .row [slv Sl.nil])
 c3 : H b3 = some (true, .row [.int .i64 4])
 bad : S.any (fun x => !(mayR x.1.1)) = true
def SY (A : Heap) (b1 b3 b5 b7 yl : Nat) (r : Loop) (S : List (En × Bool)) (us : List Value) (K : Bool → Heap → Prop) (H : Heap) : Prop :=
 ∃ (E : Heap) (k : Nat) (hk : k < S.length) (x : T_zset_Entry), A.le E ∧ SI A b1 b3 b5 b7 yl S E H k ∧ H yl = some (true, Rf.lrec r .ready none) ∧ us = [.agg (T_zset_Entry.c x).toArray, fnv S[k].2] ∧ EnIs A S[k].1 x ∧
  (∀ H', SI A b1 b3 b5 b7 yl S E H' (k + 1) → H' yl = some (true, Rf.lrec r .ready none) → K true H') ∧ (∀ H', SErr b1 b3 S E H' → H' yl = some (true, Rf.lrec r .done (some .ret)) → K false H')
theorem le_put_off {E H : Heap} {b : Nat} {g : GO} (h : E.le H) (hb : E b = none) : E.le (H.put b g) := fun x e hx => by
 have : x ≠ b := fun e' => by subst e'; rw [hb] at hx; cases hx
 rw [Heap.put_ne _ _ _ this]; exact h _ _ hx
theorem Own.put_off {H : Heap} {z : Nat} {s : Sl} {cs : List Value} {b : Nat} {g : GO} (h : Own H z s cs) (hb : ∀ p, s.p = some p → p.1 ≠ b) : Own (H.put b g) z s cs := by
 obtain ⟨h1, h2, h3, h4⟩ := h
 refine ⟨h1, h2, h3, ?_⟩
 rcases h4 with h4 | ⟨c, sp, q1, q2, q3⟩
 ·exact .inl h4
 ·exact .inr ⟨c, sp, q1, by rw [Heap.put_ne _ _ _ (hb _ q1)]; exact q2, q3⟩
theorem stI {H : Heap} {b : Nat} {c v : Value} {K : Heap → Prop} (h : H b = some (true, .row [c])) (k : K (H.put b (.row [v]))) : st (b, 0) v K H := by
 refine ⟨_, h, by simp, ?_⟩
 exact k
end Sx
end

noncomputable section
set_option linter.unusedVariables false
set_option linter.unusedSimpArgs false
set_option maxRecDepth 10000
namespace Sx
open Go Go.Proofs
def rdS (C : Ctx) (b1 b3 b5 b7 : Nat) : Nat → Loop → List Value → (Bool → Heap → Prop) → Heap → Prop :=
 fun yl15 r16 us K19 H20 => ∃ (u12 : T_zset_Entry) (u13 : Value), us = [.agg (T_zset_Entry.c u12).toArray, u13] ∧
 nw (T_zset_Entry.c T_zset_Entry.zero) (fun b38 H39 =>
 stT (b38, 0) (T_zset_Entry.c u12) (fun H40 =>
 H40 yl15 = some (true, Rf.lrec r16 .ready none) ∧
 ldL (Heap.put H40 yl15 (Rf.lrec r16 .busy none)) ((b38, 0).1, (b38, 0).2 + 0) fun x43 =>
 c_slices_ContainsFunc_api_Value_api_Value C x43 (.func (.func 68) (List.toArray []) (List.toArray []) : Value) (fun r45 H46 =>
 ift r45
 (st (b1, 0) (slv Sl.nil) (fun H48 =>
 st (b3, 0) (.int .i64 4) (fun H49 =>
 H49 yl15 = some (true, Rf.lrec r16 .busy none) ∧ K19 false (Heap.put H49 yl15 (Rf.lrec r16 .done (some .ret)))) H48) H46)
 (jn (α := Unit) (fun x51 H52 =>
 dr H52 fun Hs60 =>
 ldL Hs60 (b5, 0) fun x62 =>
 ldL Hs60 ((b38, 0).1, (b38, 0).2 + 0) fun x64 =>
 ldI Hs60 .i64 ((b38, 0).1, (b38, 0).2 + 1) fun x66 =>
 callU Tryz.prog C u13 [.int .i64 x66] H52 (fun v H70 => ∃ (r69 : Int), v = .int .i64 r69 ∧
 Heap.le Hs60 H70 ∧
 nw ((T_zset_Entry.c (⟨x64, r69⟩ : T_zset_Entry)) ++ []) (fun b72 H73 =>
 Heap.le Hs60 H73 ∧
 apS (T_zset_Entry.c T_zset_Entry.zero) 32 x62 (Sl.of (some (b72, 0)) 1 1) (fun r75 H76 =>
 Heap.le Hs60 H76 ∧
 st (b5, 0) (slv r75) (fun H77 =>
 H77 yl15 = some (true, Rf.lrec r16 .busy none) ∧ K19 true (Heap.put H77 yl15 (Rf.lrec r16 .ready none))) H76) H73) H70))
 (fun J50 => ldI H46 .i64 ((b38, 0).1, (b38, 0).2 + 1) fun x54 =>
 c_zset_out C x54 (fun r56 H57 =>
 ift r56
 (st (b7, 0) (.int .i64 80) (fun H59 =>
 J50 () H59) H57)
 (J50 () H57)) H46))) (Heap.put H40 yl15 (Rf.lrec r16 .busy none))) H39) H20
section
variable {A E H : Heap} {b1 b3 b5 b7 yl : Nat} {S : List (En × Bool)} {k : Nat}
theorem SI.here (h : SI A b1 b3 b5 b7 yl S E H k) : H b1 ≠ none ∧ H b3 ≠ none ∧ H b5 ≠ none ∧ H b7 ≠ none := by
 obtain ⟨s, L, g5, _⟩ := h.ls
 exact ⟨by rw [h.c1]; simp, by rw [h.c3]; simp, by rw [g5]; simp, by rw [h.c7]; simp⟩
theorem SI.grow {b : Nat} {g : GO} (h : SI A b1 b3 b5 b7 yl S E H k) (n : H b = none) (hy : yl ≠ b) : SI A b1 b3 b5 b7 yl S (E.put b g) (H.put b g) k := by
 obtain ⟨k1, k3, k5, k7⟩ := h.here
 have q : ∀ c, H c ≠ none → c ≠ b := fun c hc e => hc (by rw [e]; exact n)
 obtain ⟨o1, o3, o5, o7, oy⟩ := h.off
 obtain ⟨s, L, g5, gO, gF, gN, gM, gV⟩ := h.ls
 have sb : ∀ p, s.p = some p → p.1 ≠ b := fun p hp => by
  obtain ⟨g', hg⟩ := gO.mine hp
  exact q _ (by rw [hg]; simp)
 refine ⟨fun x e hx => ?_, ⟨?_, ?_, ?_, ?_, ?_⟩, h.ne, ?_, ?_, ?_, h.may, s, L, ?_, gO.put_off sb, fun p hp => ?_, gN, gM, gV⟩
 ·by_cases hb : x = b
  ·subst hb; rw [Heap.put_same] at hx ⊢; exact hx
  ·rw [Heap.put_ne _ _ _ hb] at hx ⊢; exact h.leE _ _ hx
 ·rw [Heap.put_ne _ _ _ (q _ k1)]; exact o1
 ·rw [Heap.put_ne _ _ _ (q _ k3)]; exact o3
 ·rw [Heap.put_ne _ _ _ (q _ k5)]; exact o5
 ·rw [Heap.put_ne _ _ _ (q _ k7)]; exact o7
 ·rw [Heap.put_ne _ _ _ hy]; exact oy
 ·rw [Heap.put_ne _ _ _ (q _ k1)]; exact h.c1
 ·rw [Heap.put_ne _ _ _ (q _ k3)]; exact h.c3
 ·rw [Heap.put_ne _ _ _ (q _ k7)]; exact h.c7
 ·rw [Heap.put_ne _ _ _ (q _ k5)]; exact g5
 ·rw [Heap.put_ne _ _ _ (sb p hp)]; exact gF p hp
theorem SI.weak {E' : Heap} (h : SI A b1 b3 b5 b7 yl S E H k) (hle : E'.le E) : SI A b1 b3 b5 b7 yl S E' H k := by
 obtain ⟨o1, o3, o5, o7, oy⟩ := h.off
 obtain ⟨s, L, g5, gO, gF, gN, gM, gV⟩ := h.ls
 exact ⟨hle.trans h.leE, ⟨hle.none o1, hle.none o3, hle.none o5, hle.none o7, hle.none oy⟩, h.ne, h.c1, h.c3, h.c7, h.may, s, L, g5, gO, gF.le hle, gN, gM, gV⟩
theorem SI.puty {g : GO} (h : SI A b1 b3 b5 b7 yl S E H k) (hy : yl ≠ b1 ∧ yl ≠ b3 ∧ yl ≠ b5 ∧ yl ≠ b7) : SI A b1 b3 b5 b7 yl S E (H.put yl g) k := by
 obtain ⟨y1, y3, y5, y7⟩ := hy
 obtain ⟨s, L, g5, gO, gF, gN, gM, gV⟩ := h.ls
 refine ⟨le_put_off h.leE h.off.2.2.2.2, h.off, h.ne, ?_, ?_, ?_, h.may, s, L, ?_, gO.put_off fun p hp => (gN p hp).2.2.2.2, gF, gN, gM, gV⟩
 ·rw [Heap.put_ne _ _ _ y1.symm]; exact h.c1
 ·rw [Heap.put_ne _ _ _ y3.symm]; exact h.c3
 ·rw [Heap.put_ne _ _ _ y7.symm]; exact h.c7
 ·rw [Heap.put_ne _ _ _ y5.symm]; exact g5
end
theorem S_round {C : Ctx} {A H2 : Heap} {b1 b3 b5 b7 yl : Nat} {r : Loop} {S : List (En × Bool)} {us : List Value} {K : Bool → Heap → Prop} (hS : S.length ≤ 1000000) (hyb : yl ≠ b1 ∧ yl ≠ b3 ∧ yl ≠ b5 ∧ yl ≠ b7) (h : SY A b1 b3 b5 b7 yl r S us K H2) :
 H2 yl = some (true, Rf.lrec r .ready none) ∧ us.length = 2 ∧ rdS C b1 b3 b5 b7 yl r us K H2 := by
 obtain ⟨E, k, hk, x, hAE, hI, hry, hus, hx, hK, hKe⟩ := h
 refine ⟨hry, by rw [hus]; rfl, x, fnv S[k].2, hus, ?_⟩
 obtain ⟨y1, y3, y5, y7⟩ := hyb
 intro b38 n38
 refine nwT rfl ?_
 have ny : yl ≠ b38 := fun e => by rw [e, n38] at hry; cases hry
 have I40 := hI.grow (g := .row (T_zset_Entry.c x)) n38 ny
 have l40 := Heap.le_put n38 (g := .row (T_zset_Entry.c x)) (m := true)
 have hb : (H2.put b38 (.row (T_zset_Entry.c x))) b38 = some (true, .row (T_zset_Entry.c x)) := Heap.put_same ..
 have hbE : (E.put b38 (.row (T_zset_Entry.c x))) b38 = some (true, .row (T_zset_Entry.c x)) := Heap.put_same ..
 have hEE : E.le (E.put b38 (.row (T_zset_Entry.c x))) := Heap.le_put (hI.leE.none n38)
 have hE38 := hI.leE.none n38
 generalize H2.put b38 (.row (T_zset_Entry.c x)) = H40 at *
 generalize E.put b38 (.row (T_zset_Entry.c x)) = E2 at *
 have hy40 := l40 _ _ hry
 refine ⟨hy40, ?_⟩
 have I41 := I40.puty (g := Rf.lrec r .busy none) ⟨y1, y3, y5, y7⟩
 have hy41 : (H40.put yl (Rf.lrec r .busy none)) yl = some (true, Rf.lrec r .busy none) := Heap.put_same ..
 generalize H40.put yl (Rf.lrec r .busy none) = H41 at *
 have hAE2 := hAE.trans hEE
 have hA41 := hAE2.trans I41.leE
 have hb41 := I41.leE _ _ hbE
 refine fL hb41 rfl (mayC_ok (hx.1.le hA41) hx.2.1 hx.2.2.1 ?_)
 obtain ⟨n13, n57, n51, n53, n71, n73⟩ := I41.ne
 obtain ⟨o1, o3, o5, o7, oy⟩ := hI.off
 refine ift.of (fun h => ?_) (fun h => ?_)
 ·have hbad : mayR S[k].1.1 = false := by simpa using h
  refine stI I41.c1 (stI (c := .int .i64 0) (by rw [Heap.put_ne _ _ _ n13.symm]; exact I41.c3) ⟨?_, hKe _ ⟨?_, ?_, ?_, ?_⟩ (Heap.put_same ..)⟩)
  ·rw [Heap.put_ne _ _ _ y3, Heap.put_ne _ _ _ y1]; exact hy41
  ·exact le_put_off (le_put_off (le_put_off (hEE.trans I41.leE) o1) o3) oy
  ·rw [Heap.put_ne _ _ _ y1.symm, Heap.put_ne _ _ _ n13, Heap.put_same]
  ·rw [Heap.put_ne _ _ _ y3.symm, Heap.put_same]
  ·exact List.any_eq_true.2 ⟨S[k], List.getElem_mem hk, by rw [hbad]; rfl⟩
 have hmay : mayR S[k].1.1 = true := by simpa using h
 have hN : x.N = S[k].1.2 := hx.2.2.2.1
 have htk : S.take (k + 1) = S.take k ++ [S[k]] := by rw [List.take_add_one, List.getElem?_eq_getElem hk]; rfl
 refine ⟨fun _ Hx => Hx b7 = some (true, .row [.int .i64 (if (S.take (k + 1)).any (fun x => outE x.1.2) then 80 else 0)]) ∧ ∀ b, b ≠ b7 → Hx b = H41 b, ?_, ?_⟩
 ·refine fI hb41 rfl (out_ok ?_)
  refine ift.of (fun h => ?_) (fun h => ?_)
  ·refine stI I41.c7 ⟨?_, fun b hb => Heap.put_ne _ _ _ hb⟩
   have h : outE S[k].1.2 = true := by rw [← hN]; exact h
   rw [Heap.put_same, htk, List.any_append, if_pos (by simp [h])]
  ·have h : outE S[k].1.2 = false := by rw [← hN]; exact h
   refine ⟨?_, fun b _ => rfl⟩
   have e : ([S[k]].any fun x => outE x.1.2) = false := by simp [h]
   rw [htk, List.any_append, e, Bool.or_false]; exact I41.c7
 rintro _ Hx ⟨x7, xo⟩
 obtain ⟨s, L, g5, gO, gF, gN, gM, gV⟩ := I41.ls
 have gOx : Own Hx 2 s (L.flatMap fun x => T_zset_Entry.c x.1) := by
  obtain ⟨z1, z2, z3, z4⟩ := gO
  refine ⟨z1, z2, z3, ?_⟩
  rcases z4 with z4 | ⟨c, sp, w1, w2, w3⟩
  ·exact .inl z4
  ·exact .inr ⟨c, sp, w1, by rw [xo _ (gN _ w1).2.2.2.1]; exact w2, w3⟩
 have leEx : E2.le Hx := fun b e hb => by
  have : b ≠ b7 := fun e' => by subst e'; rw [I41.off.2.2.2.1] at hb; cases hb
  rw [xo b this]; exact I41.leE _ _ hb
 have leOff : E2.le (Hx.off s) := Heap.le_off leEx gF
 have at_ : ∀ (b : Nat) (e : Bool × GO), Hx b = some e → (∀ p, s.p = some p → p.1 ≠ b) → (Hx.off s) b = some e := fun b e hb hn => Heap.off_some hb hn
 have x5 := at_ b5 _ (by rw [xo b5 n57]; exact g5) fun p hp => (gN p hp).2.2.1
 have xb := leOff _ _ hbE
 have hlL : L.length = k := by
  have := congrArg List.length gM
  simp only [List.length_map, List.length_take] at this; omega
 have hsl : s.len = L.length := by
  have h1 := gOx.1
  have h2 : (L.flatMap fun x => T_zset_Entry.c x.1).length = L.length * 2 := by
   clear gO gOx gM gV h1 hlL
   induction L with
   | nil => rfl
   | cons y L ih => rw [List.flatMap_cons, List.length_append, ih, List.length_cons, show (T_zset_Entry.c y.1).length = 2 from rfl]; omega
  omega
 refine ⟨Hx.off s, Heap.off_le s Hx, fL (j := 0) x5 rfl (fL xb rfl (fI xb rfl (fnv_ok ⟨_, rfl, Heap.off_le s Hx, ?_⟩)))⟩
 intro b72 n72
 have l73 := Heap.le_put n72 (g := .row (T_zset_Entry.c (⟨x.Row, doE S[k].2 x.N⟩ : T_zset_Entry) ++ [])) (m := true)
 have h72 : (Hx.put b72 (.row (T_zset_Entry.c (⟨x.Row, doE S[k].2 x.N⟩ : T_zset_Entry) ++ []))) b72 = some (true, .row (T_zset_Entry.c (⟨x.Row, doE S[k].2 x.N⟩ : T_zset_Entry) ++ [])) := Heap.put_same ..
 generalize Hx.put b72 (.row (T_zset_Entry.c (⟨x.Row, doE S[k].2 x.N⟩ : T_zset_Entry) ++ [])) = H73 at *
 have l7 := (Heap.off_le s Hx).trans l73
 refine ⟨l7, ?_⟩
 have gO73 := gOx.le l73
 have l7o : (Hx.off s).le (H73.off s) := Heap.le_off l7 (Heap.off_fresh s Hx)
 refine apS_ownF (ys := T_zset_Entry.c (⟨x.Row, doE S[k].2 x.N⟩ : T_zset_Entry)) gO73.off (.inr ⟨rfl, _, rfl, rds_row h72 fun j v hj => by simpa using hj⟩) rfl (by intro u hu; simp [T_zset_Entry.c] at hu; rcases hu with rfl | rfl <;> rfl) (by show (s.len + 1) * 32 ≤ _; omega) (by show s.len + 1 ≤ _; omega) fun r' H76 hO hlen => ?_
 have l76 := l7o.trans hO.le
 refine ⟨l76, stI (l76 _ _ x5) ⟨?_, hK _ ?_ (Heap.put_same ..)⟩⟩
 ·have : (Hx.off s) yl = some (true, Rf.lrec r .busy none) := at_ yl _ (by rw [xo yl y7]; exact hy41) fun p hp => (gN p hp).2.2.2.2
  rw [Heap.put_ne _ _ _ y5]; exact l76 _ _ this
 have rN : ∀ b e, (Hx.off s) b = some e → ∀ p, r'.p = some p → p.1 ≠ b := fun b e hb p hp e' => by
  have := hO.fresh p hp
  rw [e', l7o _ _ hb] at this; cases this
 have x1 := at_ b1 _ (by rw [xo b1 n71.symm]; exact I41.c1) fun p hp => (gN p hp).1
 have x3 := at_ b3 _ (by rw [xo b3 n73.symm]; exact I41.c3) fun p hp => (gN p hp).2.1
 have x7' := at_ b7 _ x7 fun p hp => (gN p hp).2.2.2.1
 have xy := at_ yl _ (by rw [xo yl y7]; exact hy41) fun p hp => (gN p hp).2.2.2.2
 refine ⟨le_put_off (le_put_off ((hEE.trans leOff).trans l76) o5) oy, ⟨o1, o3, o5, o7, oy⟩, ⟨n13, n57, n51, n53, n71, n73⟩, ?_, ?_, ?_, ?_, r', L ++ [((⟨x.Row, doE S[k].2 x.N⟩ : T_zset_Entry), (S[k].1.1, doE S[k].2 S[k].1.2))], ?_, ?_, ?_, ?_, ?_, ?_⟩
 ·rw [Heap.put_ne _ _ _ y1.symm, Heap.put_ne _ _ _ n51.symm]; exact l76 _ _ x1
 ·rw [Heap.put_ne _ _ _ y3.symm, Heap.put_ne _ _ _ n53.symm]; exact l76 _ _ x3
 ·rw [Heap.put_ne _ _ _ y7.symm, Heap.put_ne _ _ _ n57.symm]; exact l76 _ _ x7'
 ·intro z hz
  rw [htk] at hz
  rcases List.mem_append.1 hz with hz | hz
  ·exact hI.may z hz
  ·have : z = S[k] := by simpa using hz
   subst this; exact hmay
 ·rw [Heap.put_ne _ _ _ y5.symm, Heap.put_same]
 ·rw [List.flatMap_append]
  have := hO.own
  refine (Own.put_off (Own.put_off (cs := (L.flatMap fun x => T_zset_Entry.c x.1) ++ T_zset_Entry.c (⟨x.Row, doE S[k].2 x.N⟩ : T_zset_Entry)) this fun p hp => rN b5 _ x5 p hp) fun p hp => rN yl _ xy p hp)
 ·exact hO.fresh.le ((hEE.trans leOff).trans l7o)
 ·exact fun p hp => ⟨rN b1 _ x1 p hp, rN b3 _ x3 p hp, rN b5 _ x5 p hp, rN b7 _ x7' p hp, rN yl _ xy p hp⟩
 ·rw [htk, List.map_append, List.map_append, gM]; rfl
 ·intro z hz
  rcases List.mem_append.1 hz with hz | hz
  ·exact gV z hz
  ·have : z = ((⟨x.Row, doE S[k].2 x.N⟩ : T_zset_Entry), (S[k].1.1, doE S[k].2 S[k].1.2)) := by simpa using hz
   subst this
   exact ⟨⟨hx.1, hx.2.1, hx.2.2.1⟩, by show doE _ x.N = _; rw [hN]⟩
end Sx
end

noncomputable section
set_option linter.unusedVariables false
set_option linter.unusedSimpArgs false
set_option maxRecDepth 10000
namespace Sx
open Go Go.Proofs
/-- a part: entries, and whether they are turned -/
def PtIs (A : Heap) (v : List En × Bool) (x : T_zset_part) : Prop := EnL A x.l_ v.1 ∧ x.do_ = fnv v.2
def seqS (ps : List (List En × Bool)) : List (En × Bool) := ps.flatMap fun p => p.1.map fun e => (e, p.2)
theorem seqS_snoc {ps : List (List En × Bool)} {p : List En × Bool} : seqS (ps ++ [p]) = seqS ps ++ p.1.map fun e => (e, p.2) := by unfold seqS; rw [List.flatMap_append]; simp
theorem seqS_at {ps : List (List En × Bool)} {i j : Nat} (hi : i < ps.length) (hj : j < ps[i].1.length) : (seqS ps)[(seqS (ps.take i)).length + j]? = some (ps[i].1[j], ps[i].2) := by
 have e : ps = ps.take i ++ ps[i] :: ps.drop (i + 1) := by rw [← List.drop_eq_getElem_cons hi, List.take_append_drop]
 have e2 : seqS ps = seqS (ps.take i) ++ ((ps[i].1.map fun e => (e, ps[i].2)) ++ seqS (ps.drop (i + 1))) := by
  conv => lhs; rw [e]
  unfold seqS; rw [List.flatMap_append, List.flatMap_cons]
 rw [e2, List.getElem?_append_right (by omega), Nat.add_sub_cancel_left, List.getElem?_append_left (by simpa using hj), List.getElem?_map, List.getElem?_eq_getElem hj]
 rfl
theorem seqS_take {ps : List (List En × Bool)} {i : Nat} (hi : i < ps.length) : (seqS (ps.take (i + 1))).length = (seqS (ps.take i)).length + ps[i].1.length := by
 rw [List.take_add_one, List.getElem?_eq_getElem hi]
 show (seqS (ps.take i ++ [ps[i]])).length = _
 rw [seqS_snoc, List.length_append, List.length_map]
theorem fnv_one (b : Bool) : (fnv b).oneCell' = true := by cases b <;> rfl
theorem fV {H : Heap} {b j : Nat} {m : Bool} {cs : List Value} {t : Value} {K : Value → Prop} (h : H b = some (m, .row cs)) (hj : cs[j]? = some t) (k : K t) : ldV H ((b, 0).1, (b, 0).2 + j) K := ⟨t, by rw [rd_row h, Nat.zero_add]; exact hj, k⟩
theorem rng_first {C : Ctx} {A H : Heap} {b1 b3 b5 b7 b9 : Nat} {pl : Sl} {ps : List (List En × Bool)} {nx rt : Nat → Heap → Prop} (hP : SlIs (PtIs A) T_zset_part.c A pl ps) (hS : (seqS ps).length ≤ 1000000)
 (hA : A.le H) (h9 : A b9 = some (true, .row [slv pl])) (off : A b1 = none ∧ A b3 = none ∧ A b5 = none ∧ A b7 = none) (ne : b1 ≠ b3 ∧ b5 ≠ b7 ∧ b5 ≠ b1 ∧ b5 ≠ b3 ∧ b7 ≠ b1 ∧ b7 ≠ b3)
 (c1 : H b1 = some (true, .row [slv Sl.nil])) (c3 : H b3 = some (true, .row [.int .i64 0])) (c5 : H b5 = some (true, .row [slv Sl.nil])) (c7 : H b7 = some (true, .row [.int .i64 0]))
 (hn : ∀ D yl E H', A.le E → E D = some (true, .obj (.deferred (some []))) → A D = none → D ≠ b1 → D ≠ b3 → D ≠ b5 → D ≠ b7 → SI A b1 b3 b5 b7 yl (seqS ps) E H' (seqS ps).length → nx D H')
 (hr : ∀ D E H', A.le E → E D = some (true, .obj (.deferred (some []))) → A D = none → D ≠ b1 → D ≠ b3 → SErr b1 b3 (seqS ps) E H' → rt D H') :
 Rf.rng Tryz.prog C (.func (.func 80) (List.toArray []) (List.toArray [pv (some (b9, 0))])) 2 H (rdS C b1 b3 b5 b7) nx rt := by
 refine ⟨80, [pv (some (b9, 0))], rfl, ok_zset_each_1, fun D yl r hD hyl hne => ⟨SY A b1 b3 b5 b7 yl r (seqS ps), fun us K H2 hY => ?_, fun hy => ?_⟩⟩
 all_goals
  have hyb : yl ≠ b1 ∧ yl ≠ b3 ∧ yl ≠ b5 ∧ yl ≠ b7 := ⟨fun e => (by rw [e, c1] at hyl; cases hyl), fun e => (by rw [e, c3] at hyl; cases hyl), fun e => (by rw [e, c5] at hyl; cases hyl), fun e => (by rw [e, c7] at hyl; cases hyl)⟩
  have hDb : D ≠ b1 ∧ D ≠ b3 ∧ D ≠ b5 ∧ D ≠ b7 := ⟨fun e => (by rw [e, c1] at hD; cases hD), fun e => (by rw [e, c3] at hD; cases hD), fun e => (by rw [e, c5] at hD; cases hD), fun e => (by rw [e, c7] at hD; cases hD)⟩
 ·exact S_round hS hyb hY
 have hAD := hA.none hD
 have hAy := hA.none hyl
 have lD := Heap.le_put hAD (g := .obj (.deferred (some []))) (m := true)
 have e0D : (A.put D (.obj (.deferred (some [])))) D = some (true, .obj (.deferred (some []))) := Heap.put_same ..
 have y0 : (A.put D (.obj (.deferred (some [])))) yl = none := by rw [Heap.put_ne _ _ _ hne.symm]; exact hAy
 have hle0 : (A.put D (.obj (.deferred (some [])))).le (H.put D (.obj (.deferred (some [])))) := fun x e hx => by
  by_cases hb : x = D
  ·subst hb; rw [Heap.put_same] at hx ⊢; exact hx
  ·rw [Heap.put_ne _ _ _ hb] at hx ⊢; exact hA _ _ hx
 have I0 : SI A b1 b3 b5 b7 yl (seqS ps) (A.put D (.obj (.deferred (some [])))) ((H.put D (.obj (.deferred (some [])))).put yl (Rf.lrec r .ready none)) 0 := by
  obtain ⟨d1, d3, d5, d7⟩ := hDb
  obtain ⟨y1, y3, y5, y7⟩ := hyb
  obtain ⟨f1, f3, f5, f7⟩ := off
  refine ⟨le_put_off hle0 y0, ⟨?_, ?_, ?_, ?_, y0⟩, ne, ?_, ?_, ?_, fun x hx => (by simp at hx), Sl.nil, [], ?_, Own.nil _ _, Fresh.nil _, fun p hp => (by cases hp), rfl, fun x hx => (by cases hx)⟩
  ·rw [Heap.put_ne _ _ _ d1.symm]; exact f1
  ·rw [Heap.put_ne _ _ _ d3.symm]; exact f3
  ·rw [Heap.put_ne _ _ _ d5.symm]; exact f5
  ·rw [Heap.put_ne _ _ _ d7.symm]; exact f7
  ·rw [Heap.put_ne _ _ _ y1.symm, Heap.put_ne _ _ _ d1.symm]; exact c1
  ·rw [Heap.put_ne _ _ _ y3.symm, Heap.put_ne _ _ _ d3.symm]; exact c3
  ·rw [Heap.put_ne _ _ _ y7.symm, Heap.put_ne _ _ _ d7.symm]; exact c7
  ·rw [Heap.put_ne _ _ _ y5.symm, Heap.put_ne _ _ _ d5.symm]; exact c5
 have hy1 : ((H.put D (.obj (.deferred (some [])))).put yl (Rf.lrec r .ready none)) yl = some (true, Rf.lrec r .ready none) := Heap.put_same ..
 generalize (H.put D (.obj (.deferred (some [])))).put yl (Rf.lrec r .ready none) = H1 at *
 generalize A.put D (.obj (.deferred (some []))) = E0 at *
 clear hle0
 refine Spec.mono (ad_zset_each_1 C hy (b9, 0) (fun H4 => ∃ st pend, H4 yl = some (true, Rf.lrec r st pend) ∧ st ≠ .busy ∧ (pend = none ∧ nx D (H4.put yl (Rf.lrec r .exhausted none)) ∨ pend = some .ret ∧ rt D (H4.put yl (Rf.lrec r .exhausted (some .ret))))) H1 ?_) fun u H4 h => h.2
 unfold sh_zset_each_1
 refine fL (j := 0) (I0.leE _ _ (lD _ _ h9)) rfl ?_
 have hPl := hP.len
 have hPb := hP.bd
 refine ⟨fun x H' => ∃ i : Nat, x = (i : Int) ∧ i ≤ ps.length ∧ SI A b1 b3 b5 b7 yl (seqS ps) E0 H' (seqS (ps.take i)).length ∧ H' yl = some (true, Rf.lrec r .ready none), fun x _ => ps.length - x.toNat, ⟨0, rfl, Nat.zero_le _, I0, hy1⟩, ?_⟩
 rintro _ H5 ⟨i, rfl, hi, I5, hy5⟩
 rw [hPl]
 refine ift.of (fun h => ?_) (fun h => ?_)
 ·have hlt : i < ps.length := by have := of_decide_eq_true h; omega
  refine hP.ld (lD.trans I5.leE) (z := 2) (fun _ => rfl) (by omega) rfl hlt fun x12 hx12 => ?_
  intro b14 n14
  refine ⟨by rw [List.all_eq_true]; intro u hu; simp [T_zset_part.c] at hu; rcases hu with rfl | rfl; · rfl
             ·rw [hx12.2]; exact fnv_one _, nwT rfl ?_⟩
  have ny : yl ≠ b14 := fun e => by rw [e, n14] at hy5; cases hy5
  have I14 := I5.grow (g := .row (T_zset_part.c x12)) n14 ny
  have l14 := Heap.le_put n14 (g := .row (T_zset_part.c x12)) (m := true)
  have e14 : (E0.put b14 (.row (T_zset_part.c x12))) b14 = some (true, .row (T_zset_part.c x12)) := Heap.put_same ..
  have le14 : E0.le (E0.put b14 (.row (T_zset_part.c x12))) := Heap.le_put (I5.leE.none n14)
  have hy14 := l14 _ _ hy5
  generalize H5.put b14 (.row (T_zset_part.c x12)) = H16 at *
  generalize E0.put b14 (.row (T_zset_part.c x12)) = E14 at *
  refine fL (I14.leE _ _ e14) rfl ?_
  have hEl := hx12.1.len
  have hEb := hx12.1.bd
  refine ⟨fun x H' => ∃ j : Nat, x = (j : Int) ∧ j ≤ ps[i].1.length ∧ SI A b1 b3 b5 b7 yl (seqS ps) E14 H' ((seqS (ps.take i)).length + j) ∧ H' yl = some (true, Rf.lrec r .ready none), fun x _ => ps[i].1.length - x.toNat, ⟨0, rfl, Nat.zero_le _, I14, hy14⟩, ?_⟩
  rintro _ H21 ⟨j, rfl, hj, I21, hy21⟩
  rw [hEl]
  refine ift.of (fun h2 => ?_) (fun h2 => ?_)
  ·have hlt2 : j < ps[i].1.length := by have := of_decide_eq_true h2; omega
   have hAE := lD.trans le14
   refine hx12.1.ld (hAE.trans I21.leE) (z := 2) (fun _ => rfl) (by omega) rfl hlt2 fun x28 hx28 => ?_
   intro b30 n30
   refine nwT rfl ?_
   have ny3 : yl ≠ b30 := fun e => by rw [e, n30] at hy21; cases hy21
   have I30 := I21.grow (g := .row (T_zset_Entry.c x28)) n30 ny3
   have l30 := Heap.le_put n30 (g := .row (T_zset_Entry.c x28)) (m := true)
   have e30 : (H21.put b30 (.row (T_zset_Entry.c x28))) b30 = some (true, .row (T_zset_Entry.c x28)) := Heap.put_same ..
   have le30 : E14.le (E14.put b30 (.row (T_zset_Entry.c x28))) := Heap.le_put (I21.leE.none n30)
   have hy30 := l30 _ _ hy21
   generalize H21.put b30 (.row (T_zset_Entry.c x28)) = H32 at *
   generalize E14.put b30 (.row (T_zset_Entry.c x28)) = E30 at *
   have at_ := seqS_at hlt hlt2
   obtain ⟨hk, hgk⟩ := List.getElem?_eq_some_iff.1 at_
   refine bxT e30 (fV (I30.leE _ _ (le30 _ _ e14)) rfl ?_)
   refine ⟨E30, _, hk, x28, hAE.trans le30, I30, hy30, by rw [hgk, hx12.2], by rw [hgk]; exact hx28, fun H' hI' hy' => ?_, fun H' hE' hy' => ?_⟩
   ·refine ift_neg rfl ?_
    rw [w_i64 (by omega) (by omega)]
    exact ⟨⟨j + 1, by omega, by omega, hI'.weak le30, hy'⟩, by first | omega | (dsimp only; omega)⟩
   ·refine ift_pos rfl ⟨.done, some .ret, hy', by decide, .inr ⟨rfl, ?_⟩⟩
    refine hr D E0 _ lD e0D hAD hDb.1 hDb.2.1 ⟨le_put_off ((le14.trans le30).trans hE'.leE) (I5.off.2.2.2.2), ?_, ?_, hE'.bad⟩
    ·rw [Heap.put_ne _ _ _ hyb.1.symm]; exact hE'.c1
    ·rw [Heap.put_ne _ _ _ hyb.2.1.symm]; exact hE'.c3
  ·have hje : j = ps[i].1.length := by have := of_decide_eq_false h2; omega
   rw [w_i64 (by omega) (by omega)]
   refine ⟨⟨i + 1, by omega, by omega, ?_, hy21⟩, by first | omega | (dsimp only; omega)⟩
   rw [seqS_take hlt, ← hje]
   exact I21.weak le14
 ·have hie : i = ps.length := by have := of_decide_eq_false h; omega
  refine ⟨.ready, none, hy5, by decide, .inl ⟨rfl, ?_⟩⟩
  refine hn D yl E0 _ lD e0D hAD hDb.1 hDb.2.1 hDb.2.2.1 hDb.2.2.2 ?_
  have := I5.puty (g := Rf.lrec r .exhausted none) hyb
  rw [hie, List.take_length] at this
  exact this
end Sx
end

noncomputable section
set_option linter.unusedVariables false
set_option linter.unusedSimpArgs false
namespace Sx
open Go
/-- how often a row is there -/
def totE : List (List V × Int) → List V → Int
 | [], _ => 0
 | e :: es, r => (if sameVs e.1 r then e.2 else 0) + totE es r
theorem totE_append (a b : List (List V × Int)) (r : List V) : totE (a ++ b) r = totE a r + totE b r := by
 induction a with
 | nil => simp [totE]
 | cons e a ih => simp only [List.cons_append, totE, ih]; omega
theorem totE_perm {a b : List (List V × Int)} (h : a.Perm b) (r : List V) : totE a r = totE b r := by
 induction h with
 | nil => rfl
 | cons e _ ih => simp only [totE, ih]
 | swap e f l => simp only [totE]; omega
 | trans _ _ h1 h2 => rw [h1, h2]
theorem totE_none {a : List (List V × Int)} {r : List V} (h : ∀ e ∈ a, e.1 ≠ r) : totE a r = 0 := by
 induction a with
 | nil => rfl
 | cons e a ih =>
  have h1 : sameVs e.1 r = false := by
   cases hb : sameVs e.1 r with
   | false => rfl
   | true => exact absurd (sameVs_iff.1 hb) (h e (List.mem_cons_self ..))
  simp only [totE, h1, ih fun e he => h e (List.mem_cons_of_mem _ he)]
  rfl
theorem totE_one {r : List V} {m : Int} : totE [(r, m)] r = m := by
 simp only [totE, sameVs_iff.2 rfl, if_true]; omega
theorem totE_ne {r q : List V} {m : Int} (h : r ≠ q) : totE [(r, m)] q = 0 := totE_none fun e he => by
 have : e = (r, m) := by simpa using he
 subst this; exact h
/-- the rows that are there, rising, each once, with how often -/
structure IsSum (es out : List (List V × Int)) : Prop where
 rise : out.Pairwise fun a b => cmpR a.1 b.1 < 0
 mem : ∀ r n, (r, n) ∈ out ↔ (∃ e ∈ es, e.1 = r) ∧ n = totE es r
theorem IsSum.nil : IsSum [] [] := ⟨List.Pairwise.nil, fun r n => by simp⟩
theorem lt_irr {a : List V} : ¬ cmpR a a < 0 := by have := Lin.row.refl (a := a) trivial; omega
theorem lt_asymm {a b : List V} (h : cmpR a b < 0) : ¬ cmpR b a < 0 := by have := Lin.row.anti a b trivial trivial; omega
theorem rise_ext : ∀ {a b : List (List V × Int)}, a.Pairwise (fun x y => cmpR x.1 y.1 < 0) → b.Pairwise (fun x y => cmpR x.1 y.1 < 0) → (∀ x, x ∈ a ↔ x ∈ b) → a = b
 | [], [], _, _, _ => rfl
 | [], y :: b, _, _, h => absurd ((h y).2 (List.mem_cons_self ..)) (by simp)
 | x :: a, [], _, _, h => absurd ((h x).1 (List.mem_cons_self ..)) (by simp)
 | x :: a, y :: b, ha, hb, h => by
  have ha' := List.pairwise_cons.1 ha
  have hb' := List.pairwise_cons.1 hb
  have e : x = y := by
   have h1 := (h x).1 (List.mem_cons_self ..)
   have h2 := (h y).2 (List.mem_cons_self ..)
   rcases List.mem_cons.1 h1 with h1 | h1
   ·exact h1
   ·rcases List.mem_cons.1 h2 with h2 | h2
    ·exact h2.symm
    ·exact absurd (hb'.1 x h1) (lt_asymm (ha'.1 y h2))
  subst e
  rw [rise_ext ha'.2 hb'.2 fun z => ?_]
  constructor
  ·intro hz
   rcases List.mem_cons.1 ((h z).1 (List.mem_cons_of_mem _ hz)) with h1 | h1
   ·subst h1; exact absurd (ha'.1 z hz) lt_irr
   ·exact h1
  ·intro hz
   rcases List.mem_cons.1 ((h z).2 (List.mem_cons_of_mem _ hz)) with h1 | h1
   ·subst h1; exact absurd (hb'.1 z hz) lt_irr
   ·exact h1
theorem IsSum.uniq {es a b : List (List V × Int)} (h1 : IsSum es a) (h2 : IsSum es b) : a = b :=
 rise_ext h1.rise h2.rise fun x => by obtain ⟨r, n⟩ := x; rw [h1.mem, h2.mem]
theorem IsSum.perm {es fs out : List (List V × Int)} (h : IsSum es out) (hp : es.Perm fs) : IsSum fs out :=
 ⟨h.rise, fun r n => by rw [h.mem, totE_perm hp]; constructor <;> rintro ⟨⟨e, he, hr⟩, hn⟩ <;> refine ⟨⟨e, ?_, hr⟩, hn⟩; exact hp.mem_iff.1 he; exact hp.mem_iff.2 he⟩
/-- a row that is greater than all that are there -/
theorem IsSum.step {es out G : List (List V × Int)} {r : List V} (h : IsSum es out) (h1 : ∀ e ∈ es, cmpR e.1 r < 0) (h2 : ∀ e ∈ G, e.1 = r) (h3 : G ≠ []) : IsSum (es ++ G) (out ++ [(r, totE G r)]) := by
 have hr0 : ∀ e ∈ es, e.1 ≠ r := fun e he e' => by have := h1 e he; rw [e'] at this; exact lt_irr this
 refine ⟨List.pairwise_append.2 ⟨h.rise, by simp, fun a ha b hb => ?_⟩, fun q n => ?_⟩
 ·have : b = (r, totE G r) := by simpa using hb
  subst this
  obtain ⟨⟨e, he, hr⟩, _⟩ := (h.mem a.1 a.2).1 ha
  rw [← hr]; exact h1 e he
 ·rw [List.mem_append, totE_append]
  constructor
  ·rintro (hq | hq)
   ·obtain ⟨⟨e, he, hr⟩, hn⟩ := (h.mem q n).1 hq
    refine ⟨⟨e, List.mem_append_left _ he, hr⟩, ?_⟩
    rw [hn, totE_none (a := G) fun g hg e' => hr0 e he (by rw [hr, ← e', h2 g hg])]; omega
   ·have hq : q = r ∧ n = totE G r := by simpa using hq
    obtain ⟨rfl, rfl⟩ := hq
    obtain ⟨g, hg⟩ := List.exists_mem_of_ne_nil G h3
    refine ⟨⟨g, List.mem_append_right _ hg, h2 g hg⟩, ?_⟩
    rw [totE_none (a := es) hr0]; omega
  ·rintro ⟨⟨e, he, hr⟩, hn⟩
   by_cases hq : q = r
   ·subst hq
    rw [totE_none (a := es) hr0] at hn
    exact .inr (by simp; omega)
   ·have hg0 : totE G q = 0 := totE_none fun g hg e' => hq (by rw [← e', h2 g hg])
    rw [hg0] at hn
    refine .inl ((h.mem q n).2 ⟨⟨e, ?_, hr⟩, by omega⟩)
    rcases List.mem_append.1 he with he | he
    ·exact he
    ·exact absurd (by rw [← hr, h2 e he]) hq
/-- an entry whose row is there already -/
theorem IsSum.add {es A B : List (List V × Int)} {r : List V} {n m : Int} (h : IsSum es (A ++ (r, n) :: B)) : IsSum (es ++ [(r, m)]) (A ++ (r, n + m) :: B) := by
 have hp := List.pairwise_append.1 h.rise
 have hpb := List.pairwise_cons.1 hp.2.1
 refine ⟨List.pairwise_append.2 ⟨hp.1, List.pairwise_cons.2 ⟨hpb.1, hpb.2⟩, fun a ha b hb => ?_⟩, fun q k => ?_⟩
 ·rcases List.mem_cons.1 hb with rfl | hb
  ·exact hp.2.2 a ha (r, n) (List.mem_cons_self ..)
  ·exact hp.2.2 a ha b (List.mem_cons_of_mem _ hb)
 ·have hr := (h.mem r n).1 (List.mem_append_right _ (List.mem_cons_self ..))
  have nA : ∀ k, (r, k) ∉ A := fun k hk => lt_irr (hp.2.2 (r, k) hk (r, n) (List.mem_cons_self ..))
  have nB : ∀ k, (r, k) ∉ B := fun k hk => lt_irr (hpb.1 (r, k) hk)
  rw [totE_append]
  by_cases hq : q = r
  ·subst hq
   rw [totE_one, ← hr.2]
   constructor
   ·intro hk
    rcases List.mem_append.1 hk with hk | hk
    ·exact absurd hk (nA k)
    ·rcases List.mem_cons.1 hk with hk | hk
     ·injection hk with _ hk
      obtain ⟨e, he, hre⟩ := hr.1
      exact ⟨⟨e, List.mem_append_left _ he, hre⟩, hk⟩
     ·exact absurd hk (nB k)
   ·rintro ⟨_, rfl⟩
    exact List.mem_append_right _ (List.mem_cons_self ..)
  ·rw [totE_ne fun e => hq e.symm]
   have e1 : (q, k) ∈ A ++ (r, n + m) :: B ↔ (q, k) ∈ A ++ (r, n) :: B := by
    simp only [List.mem_append, List.mem_cons, Prod.mk.injEq, hq, false_and, false_or]
   rw [e1, h.mem]
   constructor
   ·rintro ⟨⟨e, he, hre⟩, hn⟩; exact ⟨⟨e, List.mem_append_left _ he, hre⟩, by omega⟩
   ·rintro ⟨⟨e, he, hre⟩, hn⟩
    refine ⟨⟨e, ?_, hre⟩, by omega⟩
    rcases List.mem_append.1 he with he | he
    ·exact he
    ·have : e = (r, m) := by simpa using he
     subst this; exact absurd hre.symm hq
/-- an entry whose row is new -/
theorem IsSum.ins {es A B : List (List V × Int)} {r : List V} {m : Int} (h : IsSum es (A ++ B)) (hA : ∀ a ∈ A, cmpR a.1 r < 0) (hB : ∀ b ∈ B, cmpR r b.1 < 0) : IsSum (es ++ [(r, m)]) (A ++ (r, m) :: B) := by
 have hp := List.pairwise_append.1 h.rise
 have nr : ∀ e ∈ es, e.1 ≠ r := fun e he e' => by
  have := (h.mem r (totE es r)).2 ⟨⟨e, he, e'⟩, rfl⟩
  rcases List.mem_append.1 this with this | this
  ·exact lt_irr (hA _ this)
  ·exact lt_irr (hB _ this)
 refine ⟨List.pairwise_append.2 ⟨hp.1, List.pairwise_cons.2 ⟨hB, hp.2.1⟩, fun a ha b hb => ?_⟩, fun q k => ?_⟩
 ·rcases List.mem_cons.1 hb with rfl | hb
  ·exact hA a ha
  ·exact hp.2.2 a ha b hb
 ·have e1 : (q, k) ∈ A ++ (r, m) :: B ↔ (q = r ∧ k = m) ∨ (q, k) ∈ A ++ B := by
   simp only [List.mem_append, List.mem_cons, Prod.mk.injEq]
   constructor
   ·rintro (h | h | h)
    ·exact .inr (.inl h)
    ·exact .inl h
    ·exact .inr (.inr h)
   ·rintro (h | h | h)
    ·exact .inr (.inl h)
    ·exact .inl h
    ·exact .inr (.inr h)
  rw [e1, h.mem, totE_append]
  by_cases hq : q = r
  ·subst hq
   rw [totE_one, totE_none nr]
   constructor
   ·rintro (⟨_, rfl⟩ | ⟨⟨e, he, hre⟩, _⟩)
    ·exact ⟨⟨_, List.mem_append_right _ (List.mem_cons_self ..), rfl⟩, by omega⟩
    ·exact absurd hre (nr e he)
   ·rintro ⟨_, hk⟩; exact .inl ⟨rfl, by omega⟩
  ·rw [totE_ne fun e => hq e.symm]
   constructor
   ·rintro (⟨h1, _⟩ | ⟨⟨e, he, hre⟩, hn⟩)
    ·exact absurd h1 hq
    ·exact ⟨⟨e, List.mem_append_left _ he, hre⟩, by omega⟩
   ·rintro ⟨⟨e, he, hre⟩, hn⟩
    refine .inr ⟨⟨e, ?_, hre⟩, by omega⟩
    rcases List.mem_append.1 he with he | he
    ·exact he
    ·have : e = (r, m) := by simpa using he
     subst this; exact absurd hre.symm hq
end Sx
end

noncomputable section
set_option linter.unusedVariables false
set_option linter.unusedSimpArgs false
set_option maxRecDepth 10000
namespace Sx
open Go Go.Proofs
/-- X, and what a call made -/
def Heap.plus (X H H2 : Heap) : Heap := fun b => match X b with | some e => some e | none => Heap.new H H2 b
theorem Heap.plus_l {X H H2 : Heap} : X.le (Heap.plus X H H2) := fun b e h => by unfold Heap.plus; rw [h]
theorem Heap.plus_le {X H H2 : Heap} (hX : X.le H) (h : H.le H2) : (Heap.plus X H H2).le H2 := fun b e hb => by
 unfold Heap.plus at hb
 split at hb
 ·rename_i e' he; injection hb with hb; subst hb; exact h _ _ (hX _ _ he)
 ·exact (Heap.new_inv hb).2
theorem Heap.plus_none {X H H2 : Heap} {b : Nat} (hX : X b = none) (h : H b ≠ none) : Heap.plus X H H2 b = none := by
 unfold Heap.plus; rw [hX]
 cases hn : Heap.new H H2 b with
 | none => rfl
 | some e => exact absurd (Heap.new_inv hn).1 h
theorem Made.sub {X H H2 : Heap} {l : List V} {t : Sl} (h : Made H H2 l t) (hX : X.le H) : Made X (Heap.plus X H H2) l t := by
 have key : ∀ b e, H b = none → H2 b = some e → X b = none ∧ Heap.plus X H H2 b = some e := fun b e hb he => by
  have hx := hX.none hb
  refine ⟨hx, ?_⟩
  unfold Heap.plus; rw [hx]; exact Heap.new_some he hb
 refine ⟨Heap.plus_l, h.row.le fun b e hb => ?_, ?_, h.cp⟩
 ·obtain ⟨h1, h2⟩ := Heap.new_inv hb
  obtain ⟨h3, h4⟩ := key b e h1 h2
  exact Heap.new_some h4 h3
 ·obtain ⟨k, hk⟩ := h.sp
  exact ⟨k, hk.to fun b e h1 h2 => key b e h1 h2⟩
/-- X, and a slice's block -/
def Heap.withS (X : Heap) (s : Sl) (H : Heap) : Heap := fun b => if s.p.map (fun p => p.1) = some b then H b else X b
theorem Heap.withS_le {X H : Heap} {s : Sl} (h : X.le H) : (X.withS s H).le H := fun b e hb => by
 unfold Heap.withS at hb
 split at hb
 ·exact hb
 ·exact h _ _ hb
theorem OwnF.sub {X G H : Heap} {z : Nat} {s : Sl} {cs : List Value} (h : OwnF G H z s cs) (hX : X.le G) : OwnF X (X.withS s H) z s cs := by
 have hf := h.fresh.le hX
 refine ⟨fun b e hb => ?_, ?_, hf⟩
 ·unfold Heap.withS
  rw [if_neg]
  ·exact hb
  ·intro hh
   obtain ⟨p, hp, rfl⟩ := Option.map_eq_some_iff.1 hh
   rw [hf p hp] at hb; cases hb
 ·obtain ⟨h1, h2, h3, h4⟩ := h.own
  refine ⟨h1, h2, h3, ?_⟩
  rcases h4 with h4 | ⟨b, sp, q1, q2, q3⟩
  ·exact .inl h4
  ·refine .inr ⟨b, sp, q1, ?_, q3⟩
   unfold Heap.withS
   rw [if_pos (by rw [q1]; rfl)]; exact q2
/-- a list of entries that grows, each row a copy -/
structure OgE (H B : Heap) (es : List En) (s : Sl) (ys : List T_zset_Entry) : Prop where
 own : OwnF H B 2 s (ys.flatMap T_zset_Entry.c)
 len : ys.length = es.length
 done : ∀ (j : Nat) (e : En) (y : T_zset_Entry), es[j]? = some e → ys[j]? = some y → Made H (B.off s) e.1 y.Row ∧ y.N = e.2
theorem OgE.nil {H : Heap} : OgE H H [] Sl.nil [] := ⟨OwnF.nil H 2, rfl, fun j e y he => by simp at he⟩
theorem OgE.step {H B B2 B4 : Heap} {es : List En} {s r t : Sl} {ys : List T_zset_Entry} {l : List V} {n : Int} (h : OgE H B es s ys) (hm : Made B B2 l t) (h4 : OwnF (B2.off s) B4 2 r (ys.flatMap T_zset_Entry.c ++ T_zset_Entry.c (⟨t, n⟩ : T_zset_Entry))) : OgE H B4 (es ++ [(l, n)]) r (ys ++ [(⟨t, n⟩ : T_zset_Entry)]) := by
 have hoff : H.le (B2.off s) := Heap.le_off (h.own.le.trans hm.le) h.own.fresh
 have h34 : (B2.off s).le (B4.off r) := Heap.le_off h4.le h4.fresh
 have h12 : (B.off s).le (B2.off s) := Heap.le_off ((Heap.off_le s B).trans hm.le) (Heap.off_fresh s B)
 refine ⟨?_, by simp [h.len], fun j e y hl hy => ?_⟩
 ·rw [List.flatMap_append]
  have := h4.down hoff
  simpa using this
 ·by_cases hj : j < ys.length
  ·rw [List.getElem?_append_left hj] at hy
   rw [List.getElem?_append_left (by rw [← h.len]; exact hj)] at hl
   obtain ⟨q1, q2⟩ := h.done j e y hl hy
   exact ⟨q1.up (h12.trans h34), q2⟩
  ·have hjl := (List.getElem?_eq_some_iff.1 hy).1
   rw [List.length_append, List.length_singleton] at hjl
   have hje : j = ys.length := by omega
   subst hje
   rw [List.getElem?_append_right (Nat.le_refl _), Nat.sub_self] at hy
   rw [List.getElem?_append_right (by rw [h.len]; exact Nat.le_refl _), h.len, Nat.sub_self] at hl
   simp only [List.getElem?_cons_zero, Option.some.injEq] at hy hl
   subst hy; subst hl
   exact ⟨(hm.off h.own.le h.own.fresh fun p hp => h.own.own.mine hp).up h34, rfl⟩
end Sx
end

noncomputable section
set_option linter.unusedVariables false
set_option linter.unusedSimpArgs false
set_option maxRecDepth 10000
namespace Sx
open Go Go.Proofs
theorem sortE_nil {C : Ctx} {s : Sl} {f : Value} {H : Heap} {K : Heap → Prop} (h : s.len = 0) (k : K H) : c_slices_SortStableFunc_zset_Entry_zset_Entry C s f K H := by
 apply ad_slices_SortStableFunc_zset_Entry_zset_Entry
 unfold sh_slices_SortStableFunc_zset_Entry_zset_Entry
 rw [h]
 apply ad_slices_stableCmpFunc_zset_Entry
 unfold sh_slices_stableCmpFunc_zset_Entry
 refine ⟨fun x B => x = (0, 20) ∧ B = H, fun _ _ => 0, ⟨rfl, rfl⟩, ?_⟩
 rintro _ B ⟨rfl, rfl⟩
 refine ift_neg rfl ?_
 apply ad_slices_insertionSortCmpFunc_zset_Entry
 unfold sh_slices_insertionSortCmpFunc_zset_Entry
 refine ⟨fun x D => x = 1 ∧ D = B, fun _ _ => 0, ⟨rfl, rfl⟩, ?_⟩
 rintro _ D ⟨rfl, hD⟩
 subst hD
 refine ift_neg rfl ?_
 refine ⟨fun x E => x = 20 ∧ E = D, fun _ _ => 0, ⟨rfl, rfl⟩, ?_⟩
 rintro _ E ⟨rfl, hE⟩
 subst hE
 exact ift_neg rfl k
theorem zown_ok {C : Ctx} {A : Heap} {l : List V} {t : Sl} {H : Heap} {K : Sl → Heap → Prop} (hv : VRow A t l) (hle : A.le H) (hz : vsizes l ≤ 1000000) (k : ∀ t2 H2, Made H H2 l t2 → K t2 H2) : c_zset_own C t K H := by
 have main : ∀ v : V, ∀ (A : Heap) (t : Sl) (H : Heap) (K : Sl → Heap → Prop), VRow A t v.l → A.le H → vsizes v.l ≤ 1000000 → (∀ t2 H2, Made H H2 v.l t2 → K t2 H2) → c_zset_own C t K H := by
  refine fun v => V.rec_ (P := fun v => ∀ (A : Heap) (t : Sl) (H : Heap) (K : Sl → Heap → Prop), VRow A t v.l → A.le H → vsizes v.l ≤ 1000000 → (∀ t2 H2, Made H H2 v.l t2 → K t2 H2) → c_zset_own C t K H) (fun v ih => ?_) v
  intro A t H K hv hle hz k
  apply ad_zset_own
  unfold sh_zset_own
  have hl := hv.len
  have hll := vsizes_len v.l
  refine ift.of (fun h => ?_) (fun h => ?_)
  ·simp only [beq_iff_eq] at h
   have : v.l = [] := List.length_eq_zero_iff.1 (by omega)
   refine k _ _ ?_
   rw [this]; exact Made.nil rfl
  ·simp only [beq_eq_false_iff_ne] at h
   obtain ⟨xs, r1, r2, r3⟩ := hv
   refine clone_ok (rdsl_le hle r1) r2 (by omega) (by omega) fun b sp cap B hB nb hcap => ?_
   rw [hl] at hcap ⊢
   refine ⟨fun x D => ∃ (i : Nat) (ys : List TV) (E : Heap), x = (i : Int) ∧ i ≤ v.l.length ∧ D = E.put b (.row (ys.flatMap T_api_Value.c ++ sp)) ∧ Ow A H E b i v.l xs ys, fun x _ => v.l.length - x.toNat,
    ⟨0, xs, B, rfl, Nat.zero_le _, rfl, hB, hle.trans hB, nb, by omega, by omega, r3, fun _ _ => rfl, fun j v x hj => by omega⟩, ?_⟩
   rintro _ D ⟨i, ys, E, rfl, hi, rfl, ho⟩
   have hlen : (Sl.of (some (b, 0)) v.l.length cap).len = v.l.length := rfl
   refine ift.of (fun h => ?_) (fun h => ?_)
   ·have hlt : i < v.l.length := by have := of_decide_eq_true h; omega
    have hi2 : i < ys.length := by rw [ho.len]; exact hlt
    have hyx := ho.rest i (Nat.le_refl _)
    rw [List.getElem?_eq_getElem hi2] at hyx
    have hold := VIs_iff.1 (ho.old.get i _ _ (List.getElem?_eq_getElem hlt) hyx.symm)
    have hmem := List.getElem_mem hlt
    have hsz := vsize_mem hmem
    have hszl : vsize v.l[i] = vsizes v.l[i].l + 1 := by cases v.l[i]; rfl
    have e0 : 0 + ((i : Int).toNat) * 4 + 3 = i * 4 + 3 := by omega
    have hf := flat4 ys
    refine ⟨(b, 0), rfl, rfl, by omega, by rw [hlen]; omega, ?_⟩
    refine ⟨ys[i].L, ?_, ?_⟩
    ·show rd _ (b, 0 + ((i : Int).toNat) * 4 + 3) = _
     rw [e0, rd_same, List.getElem?_append_left (by omega)]
     exact flat_get T_api_Value.c 4 TV.c_len ys i _ (List.getElem?_eq_getElem hi2) 3 _ rfl
    ·refine ih _ hmem A _ _ _ hold.2.2.2 (ho.ale.trans (Heap.le_put ho.nb)) (by omega) fun t2 H2 hm => ?_
     obtain ⟨s1, s2⟩ := ho.step hlt hi2 hm
     refine ⟨(b, 0), rfl, rfl, by omega, by rw [hlen]; omega, ?_⟩
     refine ⟨_, hm.le _ _ (Heap.put_same ..), ?_, ?_⟩
     ·show 0 + ((i : Int).toNat) * 4 + 3 < _
      rw [e0, List.length_append, hf]; omega
     ·show _ ∧ _
      have e1 : (b, 0 + ((i : Int).toNat) * 4 + 3).2 = i * 4 + 3 := e0
      rw [w_i64 (by omega) (by omega)]
      refine ⟨⟨i + 1, _, _, by omega, by omega, ?_, s1⟩, by first | omega | (dsimp only; omega)⟩
      rw [← s2, ← set_L ys i hi2]
      show H2.put b (.row ((List.flatMap T_api_Value.c ys ++ sp).set (0 + ((i : Int).toNat) * 4 + 3) (slv t2))) = _
      rw [e0]
   ·have hie : i = v.l.length := by have := of_decide_eq_false h; omega
    refine k _ _ ?_
    have := ho.fin (sp := sp) (cap := cap) hie (ho.le.none ho.nb) (by omega) (by omega)
    rw [hie] at this
    exact this
 exact main (.mk 0 0 [] l) A t H K hv hle hz k
/-- what an entry's row is -/
def Rw (A : Heap) (x : T_zset_Entry × En) : Prop := (VRow A x.1.Row x.2.1 ∧ VBs x.2.1 ∧ x.2.1.length ≤ 140737488355328) ∧ x.1.N = x.2.2
theorem sums2R {C : Ctx} {A H : Heap} {x y : T_zset_Entry × En} {K : Int → Heap → Prop} (hx : Rw A x) (hy : Rw A y) (hA : A.le H) (k : K (cmpR x.2.1 y.2.1) H) : c_zset_sums_2 C x.1 y.1 K H := by
 apply c_zset_sums_2.gh
 apply ad_zset_sums_2
 unfold sh_zset_sums_2
 refine box2 fun b1 b3 H4 hle h1 h3 => fL h1 rfl (fL h3 rfl ?_)
 have hA4 := hA.trans hle
 exact pCmpRows_ok (hx.1.1.le hA4) (hy.1.1.le hA4) hx.1.2.2 hy.1.2.2 hx.1.2.1 hy.1.2.1 ⟨H, Gh.le hle, k⟩
/-- entries put into their order, in place -/
theorem sortE {C : Ctx} {A H : Heap} {s : Sl} {L : List (T_zset_Entry × En)} {K : Heap → Prop} (hA : A.le H) (hO : Own H 2 s (L.flatMap fun x => T_zset_Entry.c x.1)) (hF : Fresh A s) (hR : ∀ x ∈ L, Rw A x) (hl : s.len = L.length) (hn : L.length ≤ 1000000)
 (k : ∀ (Z : List (T_zset_Entry × En)) (H2 : Heap), Z.Perm L → Z.Pairwise (fun x y => cmpR x.2.1 y.2.1 ≤ 0) → Own H2 2 s (Z.flatMap fun x => T_zset_Entry.c x.1) → (∀ b, (∀ p, s.p = some p → p.1 ≠ b) → H2 b = H b) → K H2) :
 c_slices_SortStableFunc_zset_Entry_zset_Entry C s (.func (.func 71) (List.toArray []) (List.toArray []) : Value) K H := by
 have hO' := hO
 obtain ⟨o1, o2, o3, o4 | ⟨b, sp, hp, hb, hc⟩⟩ := hO
 ·refine sortE_nil (by omega) (k L H (List.Perm.refl _) ?_ hO' fun _ _ => rfl)
  have : L = [] := List.length_eq_zero_iff.1 (by omega)
  rw [this]; exact List.Pairwise.nil
 have hL0 : (L.zipIdx.map fun e => (e.1.1, (e.1.2, e.2))).flatMap SE.enc = L.flatMap fun x => T_zset_Entry.c x.1 := by
  rw [List.flatMap_map]
  have : ∀ (L : List (T_zset_Entry × En)) (m : Nat), (L.zipIdx m).flatMap (fun e => SE.enc (e.1.1, (e.1.2, e.2))) = L.flatMap fun x => T_zset_Entry.c x.1 := by
   intro L
   induction L with
   | nil => intro m; rfl
   | cons x L ih => intro m; rw [List.zipIdx_cons, List.flatMap_cons, List.flatMap_cons, ih]; rfl
  exact this L 0
 have harr : SE.arr H b sp (L.zipIdx.map fun e => (e.1.1, (e.1.2, e.2))) = H := by
  unfold SE.arr
  rw [hL0]
  funext c
  by_cases hcb : c = b
  ·subst hcb; rw [Heap.put_same, hb]
  ·rw [Heap.put_ne _ _ _ hcb]
 have hlen : (L.zipIdx.map fun e => (e.1.1, (e.1.2, e.2))).length = L.length := by simp
 have hmem : ∀ e ∈ L.zipIdx.map (fun e => (e.1.1, (e.1.2, e.2))), Rw A (e.1, e.2.1) := fun e he => by
  obtain ⟨⟨x, i⟩, hx, rfl⟩ := List.mem_map.1 he
  exact hR x (List.mem_of_getElem? (List.mem_zipIdx_iff_getElem?.1 hx))
 have hι : (L.zipIdx.map fun e => (e.1.1, (e.1.2, e.2))).Pairwise fun x y => x.2.2 < y.2.2 := by
  rw [List.pairwise_map]
  have : ∀ (L : List (T_zset_Entry × En)) (m : Nat), (L.zipIdx m).Pairwise fun x y => x.2 < y.2 := by
   intro L
   induction L with
   | nil => intro m; exact List.Pairwise.nil
   | cons x L ih =>
    intro m
    rw [List.zipIdx_cons]
    refine List.pairwise_cons.2 ⟨fun y hy => ?_, ih _⟩
    have := List.le_snd_of_mem_zipIdx hy
    show m < y.2
    omega
  exact this L 0
 rw [← harr]
 refine SE.sort_ok (R := A) (P := fun e : T_zset_Entry × (En × Nat) => Rw A (e.1, e.2.1)) (κ := fun a c => cmpR a.2.1.1 c.2.1.1) (ι := fun e => e.2.2) (n := L.length) ⟨⟨hp, o2, hl, by omega⟩, hA, hF _ hp, ⟨fun B hB x y hx hy Φ hΦ => ?_⟩, (Lin.row.comp fun e : T_zset_Entry × (En × Nat) => e.2.1.1).sub fun _ _ => trivial⟩ hlen hmem hι fun Z hZp hZs => ?_
 ·have h := sums2R (C := C) (x := (x.1, x.2.1)) (y := (y.1, y.2.1)) (K := fun r H2 => Φ (.int .i64 r) H2) hx hy hB hΦ
  unfold c_zset_sums_2 at h
  refine ⟨71, [], [], rfl, ok_zset_sums_2, ?_⟩
  exact Spec.mono h fun v H2 hh => by obtain ⟨r, hv, hr⟩ := hh; rw [hv]; exact hr
 ·have hperm : (Z.map fun e => (e.1, e.2.1)).Perm L := by
   have := hZp.map (fun e : T_zset_Entry × (En × Nat) => (e.1, e.2.1))
   rw [List.map_map] at this
   have e : (L.zipIdx.map ((fun e : T_zset_Entry × (En × Nat) => (e.1, e.2.1)) ∘ fun e => (e.1.1, (e.1.2, e.2)))) = L := by
    have : ((fun e : T_zset_Entry × (En × Nat) => (e.1, e.2.1)) ∘ fun e : (T_zset_Entry × En) × Nat => (e.1.1, (e.1.2, e.2))) = Prod.fst := by funext e; rfl
    rw [this]; exact List.zipIdx_map_fst 0 L
   rw [e] at this; exact this
  have hZl : Z.length = L.length := by rw [← hperm.length_eq, List.length_map]
  have hcells : Z.flatMap SE.enc = (Z.map fun e => (e.1, e.2.1)).flatMap fun x => T_zset_Entry.c x.1 := by
   rw [List.flatMap_map]; rfl
  refine k (Z.map fun e => (e.1, e.2.1)) _ hperm ?_ ⟨?_, o2, o3, .inr ⟨b, sp, hp, ?_, ?_⟩⟩ fun c hc' => ?_
  ·rw [List.pairwise_map]
   exact hZs.imp fun h => h.le
  ·rw [← hcells, SE.flat_len, hZl, hl]
  ·unfold SE.arr; rw [Heap.put_same, hcells]
  ·rw [← hcells, List.length_append, SE.flat_len, hZl]
   rw [List.length_append, o1] at hc
   rw [← hl]; exact hc
  ·have : c ≠ b := fun e => hc' _ hp (by rw [e])
   unfold SE.arr
   rw [Heap.put_ne _ _ _ this]
/-- a function's end: its results in cells, the mark -/
theorem fin_ok {X B : Heap} {D b1 b3 : Nat} {s : Sl} {e : Int} {K : Sl → Int → Heap → Prop} (hX : X.le B) (x1 : X b1 = none) (x3 : X b3 = none) (xD : X D = none) (d1 : D ≠ b1) (d3 : D ≠ b3) (n13 : b1 ≠ b3) (hD : B D = some (true, .obj (.deferred (some []))))
 (h1 : B b1 = some (true, .row [slv s])) (h3 : B b3 = some (true, .row [.int .i64 e])) (k : ∀ H0, X.le H0 → K s e H0) : Rf.mk1 B D (fun Hm => ldL Hm (b1, 0) fun x => ldI Hm .i64 (b3, 0) fun y => K x y Hm) := by
 have l1 := Heap.le_put x1 (g := .row [slv s]) (m := true)
 have x3' : (X.put b1 (.row [slv s])) b3 = none := by rw [Heap.put_ne _ _ _ n13.symm]; exact x3
 have l3 := Heap.le_put x3' (g := .row [.int .i64 e]) (m := true)
 have r1 : ((X.put b1 (.row [slv s])).put b3 (.row [.int .i64 e])) b1 = some (true, .row [slv s]) := by rw [Heap.put_ne _ _ _ n13, Heap.put_same]
 have r3 : ((X.put b1 (.row [slv s])).put b3 (.row [.int .i64 e])) b3 = some (true, .row [.int .i64 e]) := Heap.put_same ..
 refine ⟨(X.put b1 (.row [slv s])).put b3 (.row [.int .i64 e]), fun b v hb => ?_, ?_, hD, ?_⟩
 ·by_cases h : b = b3
  ·subst h; rw [r3] at hb; injection hb with hb; subst hb; exact h3
  ·by_cases h' : b = b1
   ·subst h'; rw [r1] at hb; injection hb with hb; subst hb; exact h1
   ·rw [Heap.put_ne _ _ _ h, Heap.put_ne _ _ _ h'] at hb; exact hX _ _ hb
 ·rw [Heap.put_ne _ _ _ d3, Heap.put_ne _ _ _ d1]; exact xD
 ·exact fL (j := 0) r1 rfl (fI (j := 0) r3 rfl (k _ (l1.trans l3)))
end Sx
end

noncomputable section
set_option linter.unusedVariables false
set_option linter.unusedSimpArgs false
set_option maxRecDepth 10000
namespace Sx
open Go Go.Proofs
def RwE (A : Heap) (v : En) (x : T_zset_Entry) : Prop := (VRow A x.Row v.1 ∧ VBs v.1 ∧ v.1.length ≤ 140737488355328) ∧ x.N = v.2
theorem totE_bd {r : List V} : ∀ {l : List En}, (∀ e ∈ l, -2147483647 ≤ e.2 ∧ e.2 ≤ 2147483647) → -(2147483647 * (l.length : Int)) ≤ totE l r ∧ totE l r ≤ 2147483647 * (l.length : Int)
 | [], _ => by simp [totE]
 | e :: l, h => by
  have h1 := h e (List.mem_cons_self ..)
  have h2 := totE_bd (r := r) fun x hx => h x (List.mem_cons_of_mem _ hx)
  simp only [totE, List.length_cons]
  split <;> omega
theorem totE_snoc {r : List V} {l : List En} {e : En} (h : e.1 = r) : totE (l ++ [e]) r = totE l r + e.2 := by
 rw [totE_append]
 have : totE [e] r = e.2 := by obtain ⟨a, b⟩ := e; have : a = r := h; subst this; exact totE_one
 rw [this]
theorem group_ok {C : Ctx} {A F B : Heap} {b5 : Nat} {t : Sl} {R : List En} {post : Int × Int → Heap → Prop} (hAF : A.le F) (hF : F.le B) (h5 : B b5 = some (true, .row [slv t])) (hR : SlIs (RwE A) T_zset_Entry.c F t R) (hne : 0 < R.length) (hl : R.length ≤ 1000000)
 (hmay : ∀ e ∈ R, mayR e.1 = true) (hN : ∀ e ∈ R, -2147483647 ≤ e.2 ∧ e.2 ≤ 2147483647)
 (hp : ∀ j : Nat, 0 < j → j ≤ R.length → (∀ i, (h : i < R.length) → i < j → R[i].1 = R[0].1) → (∀ h : j < R.length, R[j].1 ≠ R[0].1) → post ((j : Int), totE (R.take j) R[0].1) B) :
 lp (α := Int × Int) (0, 0) B (fun x126 J127 H128 =>
  jn (α := Bool) (fun x130 H131 =>
  ift x130
  (ldL H131 (b5, 0) fun x160 =>
  ixa x160 x126.1 fun p162 =>
  ldI H131 .i64 ((p162.1, p162.2 + (x126.1 : Int).toNat * 2).1, (p162.1, p162.2 + (x126.1 : Int).toNat * 2).2 + 1) fun x167 =>
  J127 ((w .i64 (x126.1 + 1)), (w .i64 (x126.2 + x167))) H131)
  (post x126 H131))
  (fun J129 => dr H128 fun Hs133 =>
  ldL Hs133 (b5, 0) fun x135 =>
  ift (decide ((x126.1 : Int) < (Sl.len x135 : Int)))
  (ldL Hs133 (b5, 0) fun x138 =>
  ixa x138 0 fun p140 =>
  ldL Hs133 ((p140.1, p140.2 + (0 : Int).toNat * 2).1, (p140.1, p140.2 + (0 : Int).toNat * 2).2 + 0) fun x145 =>
  ldL Hs133 (b5, 0) fun x147 =>
  ixa x147 x126.1 fun p149 =>
  ldL Hs133 ((p149.1, p149.2 + (x126.1 : Int).toNat * 2).1, (p149.1, p149.2 + (x126.1 : Int).toNat * 2).2 + 0) fun x154 =>
  c_value_CmpRows C x145 x154 (fun r157 H158 =>
  Heap.le Hs133 H158 ∧
  J129 ((r157 : Int) == 0) H158) H128)
  (J129 false H128))) := by
 have hAB := hAF.trans hF
 refine ⟨fun x D => D = B ∧ ∃ j : Nat, x.1 = (j : Int) ∧ j ≤ R.length ∧ (∀ i, (h : i < R.length) → i < j → R[i].1 = R[0].1) ∧ x.2 = totE (R.take j) R[0].1, fun x _ => R.length - x.1.toNat, ⟨rfl, 0, rfl, Nat.zero_le _, fun i h hi => by omega, by simp [totE]⟩, ?_⟩
 rintro ⟨_, _⟩ D ⟨rfl, j, rfl, hj, hq, rfl⟩
 refine jb (P := ∃ h : j < R.length, R[j].1 = R[0].1) D ?_ fun b hb => ?_
 ·refine ⟨D, Heap.le.refl _, fL (j := 0) h5 rfl ?_⟩
  rw [hR.len]
  refine ift.of (fun h => ?_) (fun h => ⟨rfl, ?_⟩)
  ·have hlt : j < R.length := by have : (j : Int) < R.length := of_decide_eq_true h; omega
   refine fL (j := 0) h5 rfl (SlIs.fL hR hF (z := 2) (fun _ => rfl) (by omega) (i := 0) rfl hne (j := 0) (f := fun y => y.Row) (fun _ => rfl) fun y1 hy1 => ?_)
   refine fL (j := 0) h5 rfl (SlIs.fL hR hF (z := 2) (fun _ => rfl) (by omega) rfl hlt (j := 0) (f := fun y => y.Row) (fun _ => rfl) fun y2 hy2 => ?_)
   refine pCmpRows_ok (hy1.1.1.le hAB) (hy2.1.1.le hAB) hy1.1.2.2 hy2.1.2.2 hy1.1.2.1 hy2.1.2.1 ⟨Heap.le.refl _, rfl, ?_⟩
   have hz := cmpR_zero (hmay _ (List.getElem_mem hne)) (hmay _ (List.getElem_mem hlt))
   rw [beq_iff_eq, hz]
   exact ⟨fun e => ⟨hlt, e.symm⟩, fun ⟨_, e⟩ => e.symm⟩
  ·have hlt : ¬ j < R.length := by have : ¬ (j : Int) < R.length := of_decide_eq_false h; omega
   exact ⟨fun e => (nomatch e), fun ⟨e, _⟩ => absurd e hlt⟩
 refine ift.of (fun h => ?_) (fun h => ?_)
 ·obtain ⟨hlt, hr⟩ := hb.1 h
  refine fL (j := 0) h5 rfl (SlIs.fI hR hF (z := 2) (fun _ => rfl) (by omega) rfl hlt (j := 1) (f := fun y => y.N) (fun _ => rfl) fun y hy => ?_)
  rw [hy.2]
  have hbd := totE_bd (r := R[0].1) (l := R.take j) fun e he => hN e (List.mem_of_mem_take he)
  have hn1 := hN _ (List.getElem_mem hlt)
  rw [List.length_take, Nat.min_eq_left hj] at hbd
  rw [w_i64 (by omega) (by omega), w_i64 (by dsimp only; omega) (by dsimp only; omega)]
  refine ⟨⟨rfl, j + 1, rfl, by omega, fun i hi hij => ?_, ?_⟩, by first | omega | (dsimp only; omega)⟩
  ·by_cases he : i = j
   ·subst he; exact hr
   ·exact hq i hi (by omega)
  ·rw [List.take_add_one, List.getElem?_eq_getElem hlt]
   exact (totE_snoc hr).symm
 ·have hno : ¬ ∃ h : j < R.length, R[j].1 = R[0].1 := fun e => by rw [hb.2 e] at h; cases h
  refine hp j ?_ hj hq fun hlt e => hno ⟨hlt, e⟩
  rcases Nat.eq_zero_or_pos j with h0 | h0
  ·subst h0; exact absurd ⟨hne, rfl⟩ hno
  ·exact h0
end Sx
end

noncomputable section
set_option linter.unusedVariables false
set_option linter.unusedSimpArgs false
set_option maxRecDepth 10000
namespace Sx
open Go Go.Proofs
def nxS (C : Ctx) (b1 b3 b5 b7 : Nat) (K : Sl → Int → Heap → Prop) : Nat → Heap → Prop :=
 fun D14 H227 =>
 ldI H227 .i64 (b7, 0) fun x84 =>
 ift ((x84 : Int) != 0)
 (dr H227 fun Hs87 =>
 (ldI H227 .i64 (b7, 0) fun x90 =>
 Heap.le Hs87 H227 ∧
 st (b1, 0) (slv Sl.nil) (fun H93 =>
 Heap.le Hs87 H93 ∧
 st (b3, 0) (.int .i64 x90) (fun H94 =>
 Rf.mk1 H94 D14 (fun Hm95 =>
 ldL Hm95 (b1, 0) fun x99 => ldI Hm95 .i64 (b3, 0) fun x101 =>
 K x99 x101 Hm95)) H93) H227) ∧
 (st (b1, 0) (slv Sl.nil) (fun H104 =>
 Heap.le Hs87 H104 ∧
 ldI H104 .i64 (b7, 0) fun x106 =>
 Heap.le Hs87 H104 ∧
 st (b3, 0) (.int .i64 x106) (fun H108 =>
 Rf.mk1 H108 D14 (fun Hm109 =>
 ldL Hm109 (b1, 0) fun x113 => ldI Hm109 .i64 (b3, 0) fun x115 =>
 K x113 x115 Hm109)) H104) H227))
 (ldL H227 (b5, 0) fun x117 =>
 c_slices_SortStableFunc_zset_Entry_zset_Entry C x117 (.func (.func 71) (List.toArray []) (List.toArray []) : Value) (fun H119 =>
 lp (α := Sl) Sl.nil H119 (fun x120 J121 H122 =>
 ldL H122 (b5, 0) fun x123 =>
 ift (decide (((Sl.len x123 : Int) : Int) > 0))
 (lp (α := Int × Int) (0, 0) H122 (fun x126 J127 H128 =>
 jn (α := Bool) (fun x130 H131 =>
 ift x130
 (ldL H131 (b5, 0) fun x160 =>
 ixa x160 x126.1 fun p162 =>
 ldI H131 .i64 ((p162.1, p162.2 + (x126.1 : Int).toNat * 2).1, (p162.1, p162.2 + (x126.1 : Int).toNat * 2).2 + 1) fun x167 =>
 J127 ((w .i64 (x126.1 + 1)), (w .i64 (x126.2 + x167))) H131)
 (c_zset_out C x126.2 (fun r169 H170 =>
 ift r169
 (st (b1, 0) (slv Sl.nil) (fun H172 =>
 st (b3, 0) (.int .i64 80) (fun H173 =>
 Rf.mk1 H173 D14 (fun Hm174 =>
 ldL Hm174 (b1, 0) fun x178 => ldI Hm174 .i64 (b3, 0) fun x180 =>
 K x178 x180 Hm174)) H172) H170)
 (jn (α := Sl) (fun x183 H184 =>
 ldL H184 (b5, 0) fun x200 =>
 slL x200 x126.1 (Sl.len x200 : Int) (Sl.cap x200 : Int) 2 fun t202 =>
 st (b5, 0) (slv t202) (fun H208 =>
 J121 x183 H208) H184)
 (fun J182 => ift ((x126.2 : Int) != 0)
 (ldL H170 (b5, 0) fun x187 =>
 ixa x187 0 fun p189 =>
 ldL H170 ((p189.1, p189.2 + (0 : Int).toNat * 2).1, (p189.1, p189.2 + (0 : Int).toNat * 2).2 + 0) fun x194 =>
 c_zset_own C x194 (fun r196 H197 =>
 apd (T_zset_Entry.c T_zset_Entry.zero) 32 x120 ((T_zset_Entry.c (⟨r196, x126.2⟩ : T_zset_Entry)) ++ []) 1 (fun r198 H199 =>
 J182 r198 H199) H197) H170)
 (J182 x120 H170)))) H131))
 (fun J129 => dr H128 fun Hs133 =>
 ldL Hs133 (b5, 0) fun x135 =>
 ift (decide ((x126.1 : Int) < (Sl.len x135 : Int)))
 (ldL Hs133 (b5, 0) fun x138 =>
 ixa x138 0 fun p140 =>
 ldL Hs133 ((p140.1, p140.2 + (0 : Int).toNat * 2).1, (p140.1, p140.2 + (0 : Int).toNat * 2).2 + 0) fun x145 =>
 ldL Hs133 (b5, 0) fun x147 =>
 ixa x147 x126.1 fun p149 =>
 ldL Hs133 ((p149.1, p149.2 + (x126.1 : Int).toNat * 2).1, (p149.1, p149.2 + (x126.1 : Int).toNat * 2).2 + 0) fun x154 =>
 c_value_CmpRows C x145 x154 (fun r157 H158 =>
 Heap.le Hs133 H158 ∧
 J129 ((r157 : Int) == 0) H158) H128)
 (J129 false H128))))
 (st (b1, 0) (slv x120) (fun H209 =>
 st (b3, 0) (.int .i64 0) (fun H210 =>
 Rf.mk1 H210 D14 (fun Hm211 =>
 ldL Hm211 (b1, 0) fun x215 => ldI Hm211 .i64 (b3, 0) fun x217 =>
 K x215 x217 Hm211)) H209) H122))) H227)
theorem OgE.up {H B B2 : Heap} {es : List En} {s : Sl} {ys : List T_zset_Entry} (h : OgE H B es s ys) (hle : B.le B2) : OgE H B2 es s ys :=
 ⟨h.own.up hle, h.len, fun j e y a b => by
  obtain ⟨q1, q2⟩ := h.done j e y a b
  exact ⟨q1.up (Heap.le_off ((Heap.off_le s B).trans hle) (Heap.off_fresh s B)), q2⟩⟩
theorem Heap.withS_none {X H : Heap} {s : Sl} {b : Nat} (h : X b = none) (hn : ∀ p, s.p = some p → p.1 ≠ b) : X.withS s H b = none := by
 unfold Heap.withS
 rw [if_neg]
 ·exact h
 ·intro hh
  obtain ⟨p, hp, e⟩ := Option.map_eq_some_iff.1 hh
  exact hn p hp e
open Classical in
noncomputable def lenAt (b : Nat) (H : Heap) : Nat := if h : ∃ t : Sl, H b = some (true, .row [slv t]) then (Classical.choose h).len else 0
theorem slv_len {s t : Sl} (h : slv s = slv t) : s.len = t.len := by
 unfold slv at h
 injection h with _ h _
theorem lenAt_of {b : Nat} {H : Heap} {t : Sl} (h : H b = some (true, .row [slv t])) : lenAt b H = t.len := by
 unfold lenAt
 have hex : ∃ t : Sl, H b = some (true, .row [slv t]) := ⟨t, h⟩
 rw [dif_pos hex]
 have := h.symm.trans (Classical.choose_spec hex)
 injection this with this; injection this with _ this; injection this with this; injection this with this
 exact (slv_len this).symm
theorem cellsE_len : ∀ L : List (T_zset_Entry × En), (L.flatMap fun x => T_zset_Entry.c x.1).length = L.length * 2
 | [] => rfl
 | y :: L => by rw [List.flatMap_cons, List.length_append, cellsE_len L, List.length_cons, show (T_zset_Entry.c y.1).length = 2 from rfl]; omega
/-- the rest of a list of entries -/
theorem SlIs.dropE {A F : Heap} {t : Sl} {R : List En} {j : Nat} {K : Sl → Prop} (h : SlIs (RwE A) T_zset_Entry.c F t R) (hj : j ≤ R.length) (hc : t.len ≤ t.cap) (k : ∀ t', SlIs (RwE A) T_zset_Entry.c F t' (R.drop j) → t'.len ≤ t'.cap → t'.len = t.len - j → K t') :
 slL t (j : Int) (Sl.len t : Int) (Sl.cap t : Int) 2 K := by
 obtain ⟨xs, h1, h2, h3, h4, h5⟩ := h
 have fl : ∀ xs : List T_zset_Entry, (xs.flatMap T_zset_Entry.c).length = xs.length * 2 := by
  intro xs
  induction xs with
  | nil => rfl
  | cons x xs ih => rw [List.flatMap_cons, List.length_append, ih, List.length_cons, show (T_zset_Entry.c x).length = 2 from rfl]; omega
 have fd : ∀ (xs : List T_zset_Entry) (n : Nat), n ≤ xs.length → (xs.flatMap T_zset_Entry.c).drop (n * 2) = (xs.drop n).flatMap T_zset_Entry.c := by
  intro xs
  induction xs with
  | nil => intro n hn; have : n = 0 := by simpa using hn
           subst this; rfl
  | cons x xs ih =>
   intro n hn
   cases n with
   | zero => simp
   | succ n =>
    rw [List.flatMap_cons, List.drop_append, show (T_zset_Entry.c x).length = 2 from rfl, List.drop_of_length_le (by rw [show (T_zset_Entry.c x).length = 2 from rfl]; omega), List.nil_append, show (n + 1) * 2 - 2 = n * 2 by omega, ih n (by simpa using hn)]
    rfl
 refine ⟨by omega, by omega, by omega, by omega, _, rfl, k _ ?_ ?_ ?_⟩
 ·have hs := rdsl_slice (hr := h1) (lo := (j : Int)) (hi := (Sl.len t : Int)) (mx := (Sl.cap t : Int)) (z := 2) (by omega) (by omega) (by omega) (by rw [fl]; omega)
  have e0 : ((j : Int)).toNat = j := by omega
  rw [e0, fd xs j (by omega)] at hs
  have e1 : (((xs.drop j).flatMap T_zset_Entry.c).take (((Sl.len t : Int) - (j : Int)).toNat * 2)) = (xs.drop j).flatMap T_zset_Entry.c := List.take_of_length_le (by rw [fl, List.length_drop]; omega)
  rw [e1] at hs
  refine ⟨xs.drop j, ?_, ?_, by simp [h3], by rw [List.length_drop]; omega, fun i v x hv hx => ?_⟩
  ·rw [e0]; exact hs
  ·show ((Sl.len t : Int) - (j : Int)).toNat = _
   rw [List.length_drop]; omega
  ·rw [List.getElem?_drop] at hv hx; exact h5 _ v x hv hx
 ·show ((Sl.len t : Int) - (j : Int)).toNat ≤ ((Sl.cap t : Int) - (j : Int)).toNat
  omega
 ·show ((Sl.len t : Int) - (j : Int)).toNat = _
  omega
/-- where the sorted entries' sums stand -/
structure NX (A F : Heap) (D b1 b3 b5 : Nat) (R : List En) (m : Nat) (out : List En) (cs : Sl) (B : Heap) : Prop where
 le : m ≤ R.length
 few : out.length ≤ m
 hF : F.le B
 c1 : B b1 = some (true, .row [slv Sl.nil])
 c3 : B b3 = some (true, .row [.int .i64 0])
 sum : IsSum (R.take m) out
 ok : out.any (fun o => outE o.2) = false
 lt : ∀ x ∈ R.take m, ∀ y ∈ R.drop m, cmpR x.1 y.1 < 0
 t : ∃ t : Sl, B b5 = some (true, .row [slv t]) ∧ SlIs (RwE A) T_zset_Entry.c F t (R.drop m) ∧ t.len ≤ t.cap
 fr : Fresh F cs ∧ ∀ p, cs.p = some p → p.1 ≠ b1 ∧ p.1 ≠ b3 ∧ p.1 ≠ b5
 og : ∃ (Bs : Heap) (ys : List T_zset_Entry), OgE A Bs (out.filter fun o => !(o.2 == 0)) cs ys ∧ Bs.le B ∧ Bs b1 = none ∧ Bs b3 = none ∧ Bs b5 = none ∧ Bs D = none
/-- a row's entries, added: what is known then -/
theorem grp_sum {R out : List En} {m j : Nat} (hm : m < R.length) (hj0 : 0 < j) (hj : j ≤ (R.drop m).length) (hs : IsSum (R.take m) out) (hlt : ∀ x ∈ R.take m, ∀ y ∈ R.drop m, cmpR x.1 y.1 < 0) (hso : R.Pairwise fun x y => cmpR x.1 y.1 ≤ 0) (hmay : ∀ e ∈ R, mayR e.1 = true)
 (hq : ∀ i, (h : i < (R.drop m).length) → i < j → (R.drop m)[i].1 = (R.drop m)[0].1) (hstop : ∀ h : j < (R.drop m).length, (R.drop m)[j].1 ≠ (R.drop m)[0].1) :
 IsSum (R.take (m + j)) (out ++ [((R.drop m)[0].1, totE ((R.drop m).take j) (R.drop m)[0].1)]) ∧ (∀ x ∈ R.take (m + j), ∀ y ∈ R.drop (m + j), cmpR x.1 y.1 < 0) := by
 have e1 : R.take (m + j) = R.take m ++ (R.drop m).take j := by rw [List.take_add]
 have h0 : 0 < (R.drop m).length := by omega
 have hG : ∀ e ∈ (R.drop m).take j, e.1 = (R.drop m)[0].1 := fun e he => by
  obtain ⟨i, hi, rfl⟩ := List.getElem_of_mem he
  rw [List.length_take] at hi
  rw [List.getElem_take]
  exact hq i (by omega) (by omega)
 have hso2 : (R.drop m).Pairwise fun x y => cmpR x.1 y.1 ≤ 0 := hso.sublist (List.drop_sublist _ _)
 have hmay2 : ∀ e ∈ R.drop m, mayR e.1 = true := fun e he => hmay e (List.mem_of_mem_drop he)
 refine ⟨?_, ?_⟩
 ·rw [e1]
  refine hs.step (fun e he => hlt e he _ (List.getElem_mem h0)) hG fun e => ?_
  have := congrArg List.length e
  rw [List.length_take] at this
  simp only [List.length_nil] at this; omega
 ·rw [e1, ← List.drop_drop]
  intro x hx y hy
  rcases List.mem_append.1 hx with hx | hx
  ·exact hlt x hx y (List.mem_of_mem_drop hy)
  ·rw [hG x hx]
   obtain ⟨i, hi, rfl⟩ := List.getElem_of_mem hy
   rw [List.length_drop] at hi
   rw [show (List.drop j (R.drop m))[i] = (R.drop m)[j + i]'(by omega) from List.getElem_drop ..]
   have hjl : j < (R.drop m).length := by omega
   have hp := List.pairwise_iff_getElem.1 hso2
   have h1 : cmpR (R.drop m)[0].1 (R.drop m)[j].1 ≤ 0 := hp 0 j h0 hjl hj0
   have hne : cmpR (R.drop m)[0].1 (R.drop m)[j].1 ≠ 0 := fun e => hstop hjl ((cmpR_zero (hmay2 _ (List.getElem_mem h0)) (hmay2 _ (List.getElem_mem hjl))).1 e).symm
   by_cases hi0 : i = 0
   ·subst hi0
    have e0 : (R.drop m)[j + 0] = (R.drop m)[j] := rfl
    rw [e0]; omega
   ·have h2 : cmpR (R.drop m)[j].1 (R.drop m)[j + i].1 ≤ 0 := hp j (j + i) hjl (by omega) (by omega)
    exact (Lin.row.tr _ _ _ trivial trivial trivial h1 h2).2 (.inl (by omega))
end Sx
end

noncomputable section
set_option linter.unusedVariables false
set_option linter.unusedSimpArgs false
set_option maxRecDepth 10000
namespace Sx
open Go Go.Proofs
/-- what is left of all entries -/
def esS (S : List (En × Bool)) : List En := S.map fun x => (x.1.1, doE x.2 x.1.2)
theorem nx_ok {C : Ctx} {A E H' : Heap} {D b1 b3 b5 b7 yl : Nat} {S : List (En × Bool)} {K : Sl → Int → Heap → Prop} (hAE : A.le E) (hED : E D = some (true, .obj (.deferred (some [])))) (hAD : A D = none) (d1 : D ≠ b1) (d3 : D ≠ b3) (d5 : D ≠ b5) (hS : S.length ≤ 1000000)
 (hsz : ∀ x ∈ S, vsizes x.1.1 ≤ 1000000) (hbd : ∀ x ∈ S, outE x.1.2 = false → -2147483647 ≤ doE x.2 x.1.2 ∧ doE x.2 x.1.2 ≤ 2147483647) (I : SI A b1 b3 b5 b7 yl S E H' S.length)
 (kout : S.any (fun x => outE x.1.2) = true → ∀ H0, A.le H0 → K Sl.nil 80 H0)
 (kover : S.any (fun x => outE x.1.2) = false → (∃ r, (∃ e ∈ esS S, e.1 = r) ∧ outE (totE (esS S) r) = true) → ∀ H0, A.le H0 → K Sl.nil 80 H0)
 (kok : S.any (fun x => outE x.1.2) = false → ∀ out cs ys H0, IsSum (esS S) out → out.any (fun o => outE o.2) = false → OgE A H0 (out.filter fun o => !(o.2 == 0)) cs ys → K cs 0 H0) :
 nxS C b1 b3 b5 b7 K D H' := by
 obtain ⟨o1, o3, o5, o7, oy⟩ := I.off
 obtain ⟨n13, n57, n51, n53, n71, n73⟩ := I.ne
 have A1 := hAE.none o1
 have A3 := hAE.none o3
 have A5 := hAE.none o5
 obtain ⟨s, L, g5, gO, gF, gN, gM, gV⟩ := I.ls
 rw [List.take_length] at gM
 have c7 := I.c7
 have hmayS := I.may
 rw [List.take_length] at c7 hmayS
 have hgM : L.map (·.2) = esS S := gM
 refine fI (j := 0) c7 rfl ?_
 cases hb : S.any (fun x => outE x.1.2) with
 | true =>
  rw [hb, if_pos rfl] at c7
  rw [if_pos rfl]
  refine ift_pos rfl ?_
  have fin : ∀ B, E.le B → B b1 = some (true, .row [slv Sl.nil]) → B b3 = some (true, .row [.int .i64 80]) → Rf.mk1 B D (fun Hm => ldL Hm (b1, 0) fun x => ldI Hm .i64 (b3, 0) fun y => K x y Hm) := fun B hB h1 h3 => fin_ok (hAE.trans hB) A1 A3 hAD d1 d3 n13 (hB _ _ hED) h1 h3 (kout hb)
  have l1 : E.le (H'.put b1 (.row [slv Sl.nil])) := le_put_off I.leE o1
  have c3' : (H'.put b1 (.row [slv Sl.nil])) b3 = some (true, .row [.int .i64 0]) := by rw [Heap.put_ne _ _ _ n13.symm]; exact I.c3
  have c7' : (H'.put b1 (.row [slv Sl.nil])) b7 = some (true, .row [.int .i64 80]) := by rw [Heap.put_ne _ _ _ n71]; exact c7
  refine ⟨E, I.leE, fI (j := 0) c7 rfl ⟨I.leE, stI I.c1 ⟨l1, stI c3' (fin _ (le_put_off l1 o3) ?_ (Heap.put_same ..))⟩⟩, stI I.c1 ⟨l1, fI (j := 0) c7' rfl ⟨l1, stI c3' (fin _ (le_put_off l1 o3) ?_ (Heap.put_same ..))⟩⟩⟩
  all_goals rw [Heap.put_ne _ _ _ n13, Heap.put_same]
 | false =>
 rw [if_neg (by simp)]
 refine ift_neg rfl ?_
 refine fL (j := 0) g5 rfl ?_
 have hlL : L.length = S.length := by
  have := congrArg List.length gM
  simpa using this
 have hsl : s.len = L.length := by
  have h1 := gO.1
  rw [cellsE_len] at h1; omega
 refine sortE (A := A) (hAE.trans I.leE) gO (gF.le hAE) gV hsl (by omega) fun Z H2 hZp hZs hO2 hsame => ?_
 have hE2 : E.le H2 := fun b e hx => by
  rw [hsame b fun p hp e' => by have := gF p hp; rw [e', hx] at this; cases this]
  exact I.leE _ _ hx
 have hOF := OwnF.sub (X := E) (⟨hE2, hO2, gF⟩ : OwnF E H2 2 s _) (Heap.le.refl E)
 have hF2 : (E.withS s H2).le H2 := Heap.withS_le hE2
 have F1 := Heap.withS_none (H := H2) o1 fun p hp => (gN p hp).1
 have F3 := Heap.withS_none (H := H2) o3 fun p hp => (gN p hp).2.1
 have F5 := Heap.withS_none (H := H2) o5 fun p hp => (gN p hp).2.2.1
 have hEF := hOF.le
 have hrd := hOF.own.rdsl
 generalize E.withS s H2 = F at *
 have hAF := hAE.trans hEF
 have hFD := hEF _ _ hED
 have s1 : H2 b1 = some (true, .row [slv Sl.nil]) := by rw [hsame b1 fun p hp => (gN p hp).1]; exact I.c1
 have s3 : H2 b3 = some (true, .row [.int .i64 0]) := by rw [hsame b3 fun p hp => (gN p hp).2.1]; exact I.c3
 have s5 : H2 b5 = some (true, .row [slv s]) := by rw [hsame b5 fun p hp => (gN p hp).2.2.1]; exact g5
 have hperm : (Z.map (·.2)).Perm (esS S) := by rw [← hgM]; exact hZp.map _
 have hZl : Z.length = S.length := by rw [hZp.length_eq]; exact hlL
 have hRl : (Z.map (·.2)).length = S.length := by rw [List.length_map]; exact hZl
 have hR0 : SlIs (RwE A) T_zset_Entry.c F s (Z.map (·.2)) := by
  refine ⟨Z.map (·.1), ?_, by rw [List.length_map]; omega, by simp, by rw [hRl]; omega, fun i v x hv hx => ?_⟩
  ·rw [List.flatMap_map]; exact hrd
  ·rw [List.getElem?_map] at hv hx
   cases hz : Z[i]? with
   | none => rw [hz] at hv; cases hv
   | some z =>
    rw [hz] at hv hx
    injection hv with hv; injection hx with hx; subst hv; subst hx
    exact gV z (hZp.mem_iff.1 (List.mem_of_getElem? hz))
 have hso : (Z.map (·.2)).Pairwise fun x y => cmpR x.1 y.1 ≤ 0 := by rw [List.pairwise_map]; exact hZs
 have hfrom : ∀ e ∈ Z.map (·.2), ∃ x ∈ S, e = (x.1.1, doE x.2 x.1.2) := fun e he => by
  obtain ⟨x, hx, rfl⟩ := List.mem_map.1 (hperm.mem_iff.1 he)
  exact ⟨x, hx, rfl⟩
 have hmay : ∀ e ∈ Z.map (·.2), mayR e.1 = true := fun e he => by
  obtain ⟨x, hx, rfl⟩ := hfrom e he; exact hmayS x hx
 have hN : ∀ e ∈ Z.map (·.2), -2147483647 ≤ e.2 ∧ e.2 ≤ 2147483647 := fun e he => by
  obtain ⟨x, hx, rfl⟩ := hfrom e he
  refine hbd x hx ?_
  cases ho : outE x.1.2 with
  | false => rfl
  | true => rw [List.any_eq_true.2 ⟨x, hx, ho⟩] at hb; cases hb
 have hvz : ∀ e ∈ Z.map (·.2), vsizes e.1 ≤ 1000000 := fun e he => by
  obtain ⟨x, hx, rfl⟩ := hfrom e he; exact hsz x hx
 have hscap : s.len ≤ s.cap := hO2.2.2.1
 generalize Z.map (·.2) = R at *
 refine ⟨fun cs B => ∃ m out, NX A F D b1 b3 b5 R m out cs B, fun _ B => lenAt b5 B, ⟨0, [], ⟨Nat.zero_le _, Nat.zero_le _, hF2, s1, s3, by simpa using IsSum.nil, rfl, fun x hx => by simp at hx, ⟨s, s5, hR0, hscap⟩, ⟨Fresh.nil _, fun p hp => by cases hp⟩, A, [], OgE.nil, hAF.trans hF2, A1, A3, A5, hAD⟩⟩, ?_⟩
 rintro cs B ⟨m, out, N⟩
 obtain ⟨t, t5, tR, tc⟩ := N.t
 obtain ⟨Bs, ys, gOg, gB, gB1, gB3, gB5, gBD⟩ := N.og
 have hAB := hAF.trans N.hF
 have htl : t.len = R.length - m := by rw [tR.len, List.length_drop]
 refine fL (j := 0) t5 rfl ?_
 refine ift.of (fun h => ?_) (fun h => ?_)
 ·have hpos : 0 < t.len := by have : (0 : Int) < (t.len : Int) := of_decide_eq_true h; omega
  have hm : m < R.length := by omega
  have hne : 0 < (R.drop m).length := by rw [List.length_drop]; omega
  refine group_ok (A := A) hAF N.hF t5 tR hne (by rw [List.length_drop]; omega) (fun e he => hmay e (List.mem_of_mem_drop he)) (fun e he => hN e (List.mem_of_mem_drop he)) fun j hj0 hjl hq hstop => ?_
  obtain ⟨g1, g2⟩ := grp_sum hm hj0 hjl N.sum N.lt hso hmay hq hstop
  have hrow := List.getElem_mem hne
  have hrowR := List.mem_of_mem_drop hrow
  generalize hr0 : (R.drop m)[0].1 = r0 at *
  generalize hsum : totE ((R.drop m).take j) r0 = sum at *
  refine out_ok ?_
  refine ift.of (fun ho => ?_) (fun ho => ?_)
  ·have c3' : (B.put b1 (.row [slv Sl.nil])) b3 = some (true, .row [.int .i64 0]) := by rw [Heap.put_ne _ _ _ n13.symm]; exact N.c3
   refine stI N.c1 (stI c3' (fin_ok (X := A) (le_put_off (le_put_off hAB A1) A3) A1 A3 hAD d1 d3 n13 ?_ ?_ (Heap.put_same ..) (kover hb ⟨r0, ?_, ?_⟩)))
   ·rw [Heap.put_ne _ _ _ d3, Heap.put_ne _ _ _ d1]; exact N.hF _ _ hFD
   ·rw [Heap.put_ne _ _ _ n13, Heap.put_same]
   ·exact ⟨_, hperm.mem_iff.1 hrowR, hr0⟩
   ·have h1 := (g1.mem r0 sum).1 (List.mem_append_right _ (List.mem_singleton.2 rfl))
    have h2 : totE (R.drop (m + j)) r0 = 0 := totE_none fun e he e' => by
     have hin : (r0, sum) ∈ out ++ [(r0, sum)] := List.mem_append_right _ (List.mem_singleton.2 rfl)
     obtain ⟨x, hx, hxr⟩ := h1.1
     have := g2 x hx e he
     rw [hxr, e'] at this; exact lt_irr this
    have h3 : totE (esS S) r0 = sum := by
     rw [← totE_perm hperm, ← List.take_append_drop (m + j) R, totE_append, h2, ← h1.2]; omega
    rw [h3]; exact ho
  have ho' : outE sum = false := ho
  refine ⟨fun cs' B' => F.le B' ∧ B' b1 = some (true, .row [slv Sl.nil]) ∧ B' b3 = some (true, .row [.int .i64 0]) ∧ B' b5 = some (true, .row [slv t]) ∧ (Fresh F cs' ∧ ∀ p, cs'.p = some p → p.1 ≠ b1 ∧ p.1 ≠ b3 ∧ p.1 ≠ b5) ∧ ∃ (Bs : Heap) (ys : List T_zset_Entry), OgE A Bs ((out ++ [(r0, sum)]).filter fun o => !(o.2 == 0)) cs' ys ∧ Bs.le B' ∧ Bs b1 = none ∧ Bs b3 = none ∧ Bs b5 = none ∧ Bs D = none, ?_, ?_⟩
  ·refine ift.of (fun hz => ?_) (fun hz => ?_)
   ·have hz0 : (sum == 0) = false := by simpa using hz
    refine fL (j := 0) t5 rfl (SlIs.fL tR N.hF (z := 2) (fun _ => rfl) (by omega) (i := 0) rfl hne (j := 0) (f := fun y => y.Row) (fun _ => rfl) fun y1 hy1 => ?_)
    have hy := hy1.1.1
    rw [hr0] at hy
    refine zown_ok hy hAB (by rw [← hr0]; exact hvz _ hrowR) fun t2 H197 hm2 => ?_
    have hcsH : Own H197 2 cs (ys.flatMap T_zset_Entry.c) := (gOg.own.own.le gB).le hm2.le
    have hysl : cs.len ≤ R.length := by
     have h1 := gOg.own.own.1
     have h2 : (ys.flatMap T_zset_Entry.c).length = ys.length * 2 := by
      have : ∀ ys : List T_zset_Entry, (ys.flatMap T_zset_Entry.c).length = ys.length * 2 := by
       intro ys
       induction ys with
       | nil => rfl
       | cons y ys ih => rw [List.flatMap_cons, List.length_append, ih, List.length_cons, show (T_zset_Entry.c y).length = 2 from rfl]; omega
      exact this ys
     have h3 := gOg.len
     have h4 : (out.filter fun o => !(o.2 == 0)).length ≤ out.length := List.length_filter_le ..
     have h5 := N.few
     have h6 := N.le
     omega
    refine apd_ownF (ys := T_zset_Entry.c (⟨t2, sum⟩ : T_zset_Entry)) (m := 1) hcsH.off rfl (by show (cs.len + 1) * 32 ≤ _; omega) (by omega) fun r' H199 hO hlen => ?_
    have hX := Heap.plus_le gB hm2.le
    have hm3 := hm2.sub gB
    have hXoff : ((Heap.plus Bs B H197).off cs).le (H197.off cs) := Heap.le_off ((Heap.off_le _ _).trans hX) (Heap.off_fresh cs _)
    have hO' := hO.sub hXoff
    have hFo : F.le (H197.off cs) := Heap.le_off (N.hF.trans hm2.le) N.fr.1
    have at_ : ∀ (b : Nat) (e : Bool × GO), B b = some e → (∀ p, cs.p = some p → p.1 ≠ b) → (H197.off cs) b = some e := fun b e hb hn => Heap.off_some (hm2.le _ _ hb) hn
    have x1 := at_ b1 _ N.c1 fun p hp => (N.fr.2 p hp).1
    have x3 := at_ b3 _ N.c3 fun p hp => (N.fr.2 p hp).2.1
    have x5 := at_ b5 _ t5 fun p hp => (N.fr.2 p hp).2.2
    have xD := hFo _ _ hFD
    have rN : ∀ b e, (H197.off cs) b = some e → ∀ p, r'.p = some p → p.1 ≠ b := fun b e hb p hp e' => by
     have := hO.fresh p hp
     rw [e', hb] at this; cases this
    have nn : ∀ b e, B b = some e → Bs b = none → (H197.off cs) b = some e → (((Heap.plus Bs B H197).off cs).withS r' H199) b = none := fun b e hb hbs hbo => Heap.withS_none ((Heap.off_le cs _).none (Heap.plus_none hbs (by rw [hb]; simp))) (rN b e hbo)
    refine ⟨hFo.trans hO.le, hO.le _ _ x1, hO.le _ _ x3, hO.le _ _ x5, ⟨hO.fresh.le hFo, fun p hp => ⟨rN b1 _ x1 p hp, rN b3 _ x3 p hp, rN b5 _ x5 p hp⟩⟩, _, ys ++ [(⟨t2, sum⟩ : T_zset_Entry)], ?_, Heap.withS_le (hXoff.trans hO.le), nn b1 _ N.c1 gB1 x1, nn b3 _ N.c3 gB3 x3, nn b5 _ t5 gB5 x5, nn D _ (N.hF _ _ hFD) gBD xD⟩
    have := gOg.step hm3 hO'
    rw [List.filter_append]
    have e2 : ([(r0, sum)].filter fun o : En => !(o.2 == 0)) = [(r0, sum)] := by simp [hz0]
    rw [e2]; exact this
   ·have hz0 : (sum == 0) = true := by simpa using hz
    refine ⟨N.hF, N.c1, N.c3, t5, N.fr, Bs, ys, ?_, gB, gB1, gB3, gB5, gBD⟩
    rw [List.filter_append]
    have e2 : ([(r0, sum)].filter fun o : En => !(o.2 == 0)) = [] := by simp [hz0]
    rw [e2, List.append_nil]; exact gOg
  rintro cs' B' ⟨k1, k2, k3, k4, k5, Bs', ys', k6, k7, k8, k9, k10, k11⟩
  refine fL (j := 0) k4 rfl (tR.dropE hjl tc fun t' ht' htc htl' => ?_)
  refine stI k4 ⟨⟨m + j, out ++ [(r0, sum)], ⟨?_, by rw [List.length_append, List.length_singleton]; have := N.few; omega, le_put_off k1 F5, ?_, ?_, g1, ?_, g2, ⟨t', Heap.put_same .., ?_, htc⟩, k5, Bs', ys', k6, le_put_off k7 k10, k8, k9, k10, k11⟩⟩, ?_⟩
  ·rw [List.length_drop] at hjl; omega
  ·rw [Heap.put_ne _ _ _ n51.symm]; exact k2
  ·rw [Heap.put_ne _ _ _ n53.symm]; exact k3
  ·rw [List.any_append, N.ok]; simp [ho']
  ·rw [List.drop_drop] at ht'; exact ht'
  ·show lenAt b5 (B'.put b5 (.row [slv t'])) < lenAt b5 B
   rw [lenAt_of (Heap.put_same ..), lenAt_of t5, htl']; omega
 ·have hz : t.len = 0 := by have : ¬ (0 : Int) < (t.len : Int) := of_decide_eq_false h; omega
  have hme : m = R.length := by have := N.le; omega
  have c3' : (B.put b1 (.row [slv cs])) b3 = some (true, .row [.int .i64 0]) := by rw [Heap.put_ne _ _ _ n13.symm]; exact N.c3
  refine stI N.c1 (stI c3' (fin_ok (X := Bs) (le_put_off (le_put_off gB gB1) gB3) gB1 gB3 gBD d1 d3 n13 ?_ ?_ (Heap.put_same ..) fun H0 hH0 => kok hb out cs ys H0 ?_ N.ok (gOg.up hH0)))
  ·rw [Heap.put_ne _ _ _ d3, Heap.put_ne _ _ _ d1]; exact N.hF _ _ hFD
  ·rw [Heap.put_ne _ _ _ n13, Heap.put_same]
  ·have := N.sum
   rw [hme, List.take_length] at this
   exact this.perm hperm
end Sx
end

noncomputable section
set_option linter.unusedVariables false
set_option linter.unusedSimpArgs false
set_option maxRecDepth 10000
namespace Sx
open Go Go.Proofs
theorem OgE.down {H0 H B : Heap} {es : List En} {s : Sl} {ys : List T_zset_Entry} (h : OgE H B es s ys) (hle : H0.le H) : OgE H0 B es s ys :=
 ⟨h.own.down hle, h.len, fun j e y a b => ⟨(h.done j e y a b).1.down hle, (h.done j e y a b).2⟩⟩
/-- what sums tells -/
structure SumsK (S : List (En × Bool)) (H : Heap) (K : Sl → Int → Heap → Prop) : Prop where
 bad : S.any (fun x => !(mayR x.1.1)) = true → ∀ H0, H.le H0 → K Sl.nil 4 H0
 out : (∀ x ∈ S, mayR x.1.1 = true) → S.any (fun x => outE x.1.2) = true → ∀ H0, H.le H0 → K Sl.nil 80 H0
 over : (∀ x ∈ S, mayR x.1.1 = true) → S.any (fun x => outE x.1.2) = false → (∃ r, (∃ e ∈ esS S, e.1 = r) ∧ outE (totE (esS S) r) = true) → ∀ H0, H.le H0 → K Sl.nil 80 H0
 ok : (∀ x ∈ S, mayR x.1.1 = true) → S.any (fun x => outE x.1.2) = false → ∀ out cs ys H0, IsSum (esS S) out → out.any (fun o => outE o.2) = false → OgE H H0 (out.filter fun o => !(o.2 == 0)) cs ys → K cs 0 H0
theorem sums_ok {C : Ctx} {H : Heap} {pl : Sl} {ps : List (List En × Bool)} {K : Sl → Int → Heap → Prop} (hP : SlIs (PtIs H) T_zset_part.c H pl ps) (hS : (seqS ps).length ≤ 1000000)
 (hsz : ∀ x ∈ seqS ps, vsizes x.1.1 ≤ 1000000) (k : SumsK (seqS ps) H K) : c_zset_sums C pl K H := by
 have hbd : ∀ x ∈ seqS ps, outE x.1.2 = false → -2147483647 ≤ doE x.2 x.1.2 ∧ doE x.2 x.1.2 ≤ 2147483647 := fun x _ ho => by
  unfold outE at ho
  have h1 : ¬ x.1.2 < -2147483647 := fun h => by rw [decide_eq_true h] at ho; cases ho
  have h2 : ¬ x.1.2 > 2147483647 := fun h => by rw [decide_eq_true h, Bool.or_true] at ho; cases ho
  unfold doE
  split
  ·rw [w_i64 (by omega) (by omega)]; omega
  ·omega
 apply ad_zset_sums
 unfold sh_zset_sums
 intro b1 n1 b3 n3 b5 n5 b7 n7
 have q31 : b3 ≠ b1 := fun e => by rw [e, Heap.put_same] at n3; cases n3
 have m3 : H b3 = none := by rw [Heap.put_ne _ _ _ q31] at n3; exact n3
 have q53 : b5 ≠ b3 := fun e => by rw [e, Heap.put_same] at n5; cases n5
 have m5 : (H.put b1 (.row [slv Sl.nil])) b5 = none := by rw [Heap.put_ne _ _ _ q53] at n5; exact n5
 have q51 : b5 ≠ b1 := fun e => by rw [e, Heap.put_same] at m5; cases m5
 have m5 : H b5 = none := by rw [Heap.put_ne _ _ _ q51] at m5; exact m5
 have q75 : b7 ≠ b5 := fun e => by rw [e, Heap.put_same] at n7; cases n7
 have m7 := n7
 rw [Heap.put_ne _ _ _ q75] at m7
 have q73 : b7 ≠ b3 := fun e => by rw [e, Heap.put_same] at m7; cases m7
 rw [Heap.put_ne _ _ _ q73] at m7
 have q71 : b7 ≠ b1 := fun e => by rw [e, Heap.put_same] at m7; cases m7
 rw [Heap.put_ne _ _ _ q71] at m7
 have le8 : H.le ((((H.put b1 (.row [slv Sl.nil])).put b3 (.row [.int .i64 0])).put b5 (.row [slv Sl.nil])).put b7 (.row [.int .i64 0])) := (((Heap.le_put n1).trans (Heap.le_put n3)).trans (Heap.le_put n5)).trans (Heap.le_put n7)
 have c1 : ((((H.put b1 (.row [slv Sl.nil])).put b3 (.row [.int .i64 0])).put b5 (.row [slv Sl.nil])).put b7 (.row [.int .i64 0])) b1 = some (true, .row [slv Sl.nil]) := by rw [Heap.put_ne _ _ _ q71.symm, Heap.put_ne _ _ _ q51.symm, Heap.put_ne _ _ _ q31.symm, Heap.put_same]
 have c3 : ((((H.put b1 (.row [slv Sl.nil])).put b3 (.row [.int .i64 0])).put b5 (.row [slv Sl.nil])).put b7 (.row [.int .i64 0])) b3 = some (true, .row [.int .i64 0]) := by rw [Heap.put_ne _ _ _ q73.symm, Heap.put_ne _ _ _ q53.symm, Heap.put_same]
 have c5 : ((((H.put b1 (.row [slv Sl.nil])).put b3 (.row [.int .i64 0])).put b5 (.row [slv Sl.nil])).put b7 (.row [.int .i64 0])) b5 = some (true, .row [slv Sl.nil]) := by rw [Heap.put_ne _ _ _ q75.symm, Heap.put_same]
 have c7 : ((((H.put b1 (.row [slv Sl.nil])).put b3 (.row [.int .i64 0])).put b5 (.row [slv Sl.nil])).put b7 (.row [.int .i64 0])) b7 = some (true, .row [.int .i64 0]) := Heap.put_same ..
 generalize (((H.put b1 (.row [slv Sl.nil])).put b3 (.row [.int .i64 0])).put b5 (.row [slv Sl.nil])).put b7 (.row [.int .i64 0]) = H8 at *
 refine stI c7 ?_
 have le9 : H.le (H8.put b7 (.row [.int .i64 0])) := le_put_off le8 m7
 have c1 : (H8.put b7 (.row [.int .i64 0])) b1 = some (true, .row [slv Sl.nil]) := by rw [Heap.put_ne _ _ _ q71.symm]; exact c1
 have c3 : (H8.put b7 (.row [.int .i64 0])) b3 = some (true, .row [.int .i64 0]) := by rw [Heap.put_ne _ _ _ q73.symm]; exact c3
 have c5 : (H8.put b7 (.row [.int .i64 0])) b5 = some (true, .row [slv Sl.nil]) := by rw [Heap.put_ne _ _ _ q75.symm]; exact c5
 have c7 : (H8.put b7 (.row [.int .i64 0])) b7 = some (true, .row [.int .i64 0]) := Heap.put_same ..
 generalize H8.put b7 (.row [.int .i64 0]) = H9 at *
 apply ad_zset_each
 unfold sh_zset_each
 intro b9 n9
 have m9 := le9.none n9
 have r1 : b1 ≠ b9 := fun e => by rw [e, n9] at c1; cases c1
 have r3 : b3 ≠ b9 := fun e => by rw [e, n9] at c3; cases c3
 have r5 : b5 ≠ b9 := fun e => by rw [e, n9] at c5; cases c5
 have r7 : b7 ≠ b9 := fun e => by rw [e, n9] at c7; cases c7
 have lA : H.le (H.put b9 (.row [slv pl])) := Heap.le_put m9
 have A9 : (H.put b9 (.row [slv pl])) b9 = some (true, .row [slv pl]) := Heap.put_same ..
 have a1 : (H.put b9 (.row [slv pl])) b1 = none := by rw [Heap.put_ne _ _ _ r1]; exact n1
 have a3 : (H.put b9 (.row [slv pl])) b3 = none := by rw [Heap.put_ne _ _ _ r3]; exact m3
 have a5 : (H.put b9 (.row [slv pl])) b5 = none := by rw [Heap.put_ne _ _ _ r5]; exact m5
 have a7 : (H.put b9 (.row [slv pl])) b7 = none := by rw [Heap.put_ne _ _ _ r7]; exact m7
 have lA11 : (H.put b9 (.row [slv pl])).le (H9.put b9 (.row [slv pl])) := fun x e hx => by
  by_cases hb : x = b9
  ·subst hb; rw [Heap.put_same] at hx ⊢; exact hx
  ·rw [Heap.put_ne _ _ _ hb] at hx ⊢; exact le9 _ _ hx
 have c1 : (H9.put b9 (.row [slv pl])) b1 = some (true, .row [slv Sl.nil]) := by rw [Heap.put_ne _ _ _ r1]; exact c1
 have c3 : (H9.put b9 (.row [slv pl])) b3 = some (true, .row [.int .i64 0]) := by rw [Heap.put_ne _ _ _ r3]; exact c3
 have c5 : (H9.put b9 (.row [slv pl])) b5 = some (true, .row [slv Sl.nil]) := by rw [Heap.put_ne _ _ _ r5]; exact c5
 have c7 : (H9.put b9 (.row [slv pl])) b7 = some (true, .row [.int .i64 0]) := by rw [Heap.put_ne _ _ _ r7]; exact c7
 have hPA : SlIs (PtIs (H.put b9 (.row [slv pl]))) T_zset_part.c (H.put b9 (.row [slv pl])) pl ps := hP.le lA fun v _ x hx => ⟨hx.1.le lA fun _ _ _ h => h.le lA, hx.2⟩
 generalize H.put b9 (.row [slv pl]) = A at *
 generalize H9.put b9 (.row [slv pl]) = H11 at *
 refine rng_first (C := C) (nx := nxS C b1 b3 b5 b7 K) hPA hS lA11 A9 ⟨a1, a3, a5, a7⟩ ⟨q31.symm, q75.symm, q51, q53, q71, q73⟩ c1 c3 c5 c7 (fun D yl E H' hAE hED hAD d1 d3 d5 d7 I => ?_) fun D E H' hAE hED hAD d1 d3 he => ?_
 ·have hmay : ∀ x ∈ seqS ps, mayR x.1.1 = true := by have := I.may; rw [List.take_length] at this; exact this
  exact nx_ok hAE hED hAD d1 d3 d5 hS hsz hbd I (fun h H0 hH => k.out hmay h H0 (lA.trans hH)) (fun h h2 H0 hH => k.over hmay h h2 H0 (lA.trans hH)) fun h out cs ys H0 g1 g2 g3 => k.ok hmay h out cs ys H0 g1 g2 (g3.down lA)
 ·exact fin_ok (X := A) (hAE.trans he.leE) a1 a3 hAD d1 d3 q31.symm (he.leE _ _ hED) he.c1 he.c3 fun H0 hH => k.bad he.bad H0 (lA.trans hH)
end Sx
end

noncomputable section
set_option linter.unusedVariables false
set_option linter.unusedSimpArgs false
set_option maxRecDepth 10000
namespace Sx
open Go Go.Proofs
theorem SumsK.up {S : List (En × Bool)} {H H2 : Heap} {K : Sl → Int → Heap → Prop} (k : SumsK S H K) (hle : H.le H2) : SumsK S H2 K :=
 ⟨fun h H0 hH => k.bad h H0 (hle.trans hH), fun h h2 H0 hH => k.out h h2 H0 (hle.trans hH), fun h h2 h3 H0 hH => k.over h h2 h3 H0 (hle.trans hH), fun h h2 out cs ys H0 g1 g2 g3 => k.ok h h2 out cs ys H0 g1 g2 (g3.down hle)⟩
section
variable {C : Ctx} {H A : Heap}
theorem parts2 {a b : Sl} {la lb : List En} {tb : Bool} {c : Nat} {m : Bool} {cap : Nat} (ha : EnL H a la) (hb : EnL H b lb) (h : H c = some (m, .row (T_zset_part.c (⟨a, fnv false⟩ : T_zset_part) ++ T_zset_part.c (⟨b, fnv tb⟩ : T_zset_part) ++ []))) :
 SlIs (PtIs H) T_zset_part.c H (Sl.of (some (c, 0)) 2 cap) [(la, false), (lb, tb)] := by
 refine ⟨[(⟨a, fnv false⟩ : T_zset_part), (⟨b, fnv tb⟩ : T_zset_part)], .inr ⟨rfl, _, rfl, rds_row h fun j v hj => by simpa using hj⟩, rfl, rfl, by simp, fun i v x hv hx => ?_⟩
 match i with
 | 0 => simp at hv hx; subst hv; subst hx; exact ⟨ha, rfl⟩
 | 1 => simp at hv hx; subst hv; subst hx; exact ⟨hb, rfl⟩
 | i + 2 => simp at hv
theorem EnL.le {B : Heap} {s : Sl} {l : List En} (h : EnL A s l) (hle : A.le B) : EnL B s l := SlIs.le hle h fun _ _ _ h => h.le hle
theorem pAdd_ok {a b : Sl} {la lb : List En} {K : Sl → Int → Heap → Prop} (ha : EnL H a la) (hb : EnL H b lb) (hn : la.length + lb.length ≤ 1000000) (hsz : ∀ x ∈ la ++ lb, vsizes x.1 ≤ 1000000) (k : SumsK (seqS [(la, false), (lb, false)]) H K) : c_zset_Add C a b K H := by
 apply ad_zset_Add
 unfold sh_zset_Add
 intro b1 n1
 have hle := Heap.le_put n1 (g := .row (T_zset_part.c (⟨a, fnv false⟩ : T_zset_part) ++ T_zset_part.c (⟨b, fnv false⟩ : T_zset_part) ++ [])) (m := true)
 exact sums_ok (parts2 (ha.le hle) (hb.le hle) (Heap.put_same ..)) (by simp [seqS]; omega) (fun x hx => by
  simp [seqS] at hx
  rcases hx with ⟨r, n, h, rfl⟩ | ⟨r, n, h, rfl⟩
  ·exact hsz (r, n) (List.mem_append_left _ h)
  ·exact hsz (r, n) (List.mem_append_right _ h)) (k.up hle)
theorem pLess_ok {a b : Sl} {la lb : List En} {K : Sl → Int → Heap → Prop} (ha : EnL H a la) (hb : EnL H b lb) (hn : la.length + lb.length ≤ 1000000) (hsz : ∀ x ∈ la ++ lb, vsizes x.1 ≤ 1000000) (k : SumsK (seqS [(la, false), (lb, true)]) H K) : c_zset_Less C a b K H := by
 apply ad_zset_Less
 unfold sh_zset_Less
 intro b1 n1
 have hle := Heap.le_put n1 (g := .row (T_zset_part.c (⟨a, fnv false⟩ : T_zset_part) ++ T_zset_part.c (⟨b, fnv true⟩ : T_zset_part) ++ [])) (m := true)
 exact sums_ok (parts2 (ha.le hle) (hb.le hle) (Heap.put_same ..)) (by simp [seqS]; omega) (fun x hx => by
  simp [seqS] at hx
  rcases hx with ⟨r, n, h, rfl⟩ | ⟨r, n, h, rfl⟩
  ·exact hsz (r, n) (List.mem_append_left _ h)
  ·exact hsz (r, n) (List.mem_append_right _ h)) (k.up hle)
/-- entries alike, one by one -/
theorem dSameE_ok {s t : Sl} {l m : List En} {K : Bool → Heap → Prop} (hs : EnL A s l) (ht : EnL A t m) (hA : A.le H) (k : ∀ b, (b = true ↔ l = m) → K b H) : c_ref16_Same C s t K H := by
 apply c_ref16_Same.gh
 apply ad_ref16_Same
 unfold sh_ref16_Same
 have i1 := nlen hs ht
 refine ift.of (fun h => ?_) (fun h => ?_)
 ·exact ⟨H, Gh.refl _, k _ ⟨fun e => (nomatch e), fun e => absurd (by rw [e]) (i1.1 h)⟩⟩
 have hq := n3 i1 h
 refine lpEq (l := l) (m := m) hs.bd fun i D J hD hi hh hJ => ?_
 rw [hs.len]
 refine ift.of (fun h => ?_) (fun h => ?_)
 ·have hlt : i < l.length := by have := of_decide_eq_true h; omega
  have hlt2 : i < m.length := by omega
  have hAD := hA.trans hD
  refine jb (P := ¬ (l[i].2 = m[i].2 ∧ l[i].1 = m[i].1)) D ?_ fun b hb => ?_
  ·refine ⟨D, Heap.le.refl _, SlIs.fI hs hAD (z := 2) (fun _ => rfl) (by omega) rfl hlt (j := 1) (f := fun y => y.N) (fun _ => rfl) fun y1 hy1 => SlIs.fI ht hAD (z := 2) (fun _ => rfl) (by omega) rfl hlt2 (j := 1) (f := fun y => y.N) (fun _ => rfl) fun y2 hy2 => ?_⟩
   have j1 := niq hy1.2.2.2.1 hy2.2.2.2.1
   refine ift.of (fun h => ⟨rfl, n1 j1 h⟩) fun h => ?_
   refine SlIs.fL hs hAD (z := 2) (fun _ => rfl) (by omega) rfl hlt (j := 0) (f := fun y => y.Row) (fun _ => rfl) fun y3 hy3 => SlIs.fL ht hAD (z := 2) (fun _ => rfl) (by omega) rfl hlt2 (j := 0) (f := fun y => y.Row) (fun _ => rfl) fun y4 hy4 => ?_
   refine SameRow_ok (hy3.1.le hAD) (hy4.1.le hAD) hy3.2.2.1 hy3.2.1 ⟨Heap.le.refl _, rfl, n2 j1 h ?_⟩
   rw [Bool.not_eq_true', ← Bool.not_eq_true, sameVs_iff]
  have he : l[i] = m[i] ↔ l[i].2 = m[i].2 ∧ l[i].1 = m[i].1 := ⟨fun e => by rw [e]; exact ⟨rfl, rfl⟩, fun ⟨e1, e2⟩ => Prod.ext e2 e1⟩
  rw [← he] at hb
  refine ift.of (fun h => ?_) (fun h => ?_)
  ·exact ⟨H, Gh.le hD, k _ ⟨fun e => (nomatch e), fun e => absurd e (get_ne hlt hlt2 (hb.1 h))⟩⟩
  ·exact hJ hlt _ hD (take_eq hlt hlt2 hh (n3 hb h))
 ·have hie : i = l.length := by have := of_decide_eq_false h; omega
  exact ⟨H, Gh.le hD, k _ ⟨fun _ => take_all hie hq hh, fun _ => rfl⟩⟩
/-- the document's error of entries -/
def chkE (l : List En) : Int := if l.any (fun e => !(mayR e.1)) then 4 else if l.any (fun e => outE e.2) then 80 else 0
end
end Sx
end

noncomputable section
set_option linter.unusedVariables false
set_option linter.unusedSimpArgs false
set_option maxRecDepth 10000
namespace Sx
open Go Go.Proofs
section
variable {C : Ctx} {H A : Heap}
theorem ysE_len : ∀ ys : List T_zset_Entry, (ys.flatMap T_zset_Entry.c).length = ys.length * 2
 | [] => rfl
 | y :: ys => by rw [List.flatMap_cons, List.length_append, ysE_len ys, List.length_cons, show (T_zset_Entry.c y).length = 2 from rfl]; omega
theorem OgE.slen {B : Heap} {es : List En} {s : Sl} {ys : List T_zset_Entry} (h : OgE H B es s ys) : s.len = es.length := by
 have h1 := h.own.own.1
 rw [ysE_len, h.len] at h1; omega
/-- owned entries are entries -/
theorem OgE.en {B : Heap} {es : List En} {s : Sl} {ys : List T_zset_Entry} (h : OgE H B es s ys) (hb : ∀ e ∈ es, VBs e.1 ∧ e.1.length ≤ 140737488355328 ∧ -9223372036854775808 ≤ e.2 ∧ e.2 < 9223372036854775808) (hn : es.length ≤ 140737488355328) : EnL B s es :=
 ⟨ys, h.own.own.rdsl, by rw [h.slen, h.len], h.len.symm, hn, fun i v x hv hx => by
  obtain ⟨q1, q2⟩ := h.done i v x hv hx
  obtain ⟨b1, b2, b3, b4⟩ := hb v (List.mem_of_getElem? hv)
  exact ⟨q1.row2.le (Heap.off_le s B), b1, b2, q2, b3, b4⟩⟩
theorem given_ok {s0 : Sl} {l : List En} {K : Sl → Heap → Prop} (hs : EnL A s0 l) (hA : A.le H) (hn : l.length ≤ 1000000) (hsz : ∀ x ∈ l, vsizes x.1 ≤ 1000000) (k : ∀ r ys H2, OgE H H2 l r ys → K r H2) : c_law24_given C s0 K H := by
 apply ad_law24_given
 unfold sh_law24_given
 refine ⟨fun x D => ∃ (i : Nat) (ys : List T_zset_Entry), x.2 = (i : Int) ∧ i ≤ l.length ∧ OgE H D (l.take i) x.1 ys, fun x _ => l.length - x.2.toNat, ⟨0, [], rfl, Nat.zero_le _, OgE.nil⟩, ?_⟩
 rintro ⟨s, _⟩ D ⟨i, ys, rfl, hi, hg⟩
 rw [hs.len]
 refine ift.of (fun h => ?_) (fun h => ?_)
 ·have hlt : i < l.length := by have : (i : Int) < l.length := of_decide_eq_true h; omega
  have hHo : H.le (D.off s) := Heap.le_off hg.own.le hg.own.fresh
  have hAo := hA.trans hHo
  refine ⟨D.off s, Heap.off_le s D, SlIs.fL hs hAo (z := 2) (fun _ => rfl) (by omega) rfl hlt (j := 0) (f := fun y => y.Row) (fun _ => rfl) fun y1 hy1 => SlIs.fI hs hAo (z := 2) (fun _ => rfl) (by omega) rfl hlt (j := 1) (f := fun y => y.N) (fun _ => rfl) fun y2 hy2 => ?_⟩
  rw [hy2.2.2.2.1]
  refine Own_ok hy1.1 (hA.trans hg.own.le) (hsz _ (List.getElem_mem hlt)) fun t2 H23 hm => ⟨(Heap.off_le s D).trans hm.le, ?_⟩
  intro b25 n25
  have l26 := Heap.le_put n25 (g := .row (T_zset_Entry.c (⟨t2, l[i].2⟩ : T_zset_Entry) ++ [])) (m := true)
  have h26 : (H23.put b25 (.row (T_zset_Entry.c (⟨t2, l[i].2⟩ : T_zset_Entry) ++ []))) b25 = some (true, .row (T_zset_Entry.c (⟨t2, l[i].2⟩ : T_zset_Entry) ++ [])) := Heap.put_same ..
  generalize H23.put b25 (.row (T_zset_Entry.c (⟨t2, l[i].2⟩ : T_zset_Entry) ++ [])) = H26 at *
  have hm2 := hm.up l26
  refine ⟨(Heap.off_le s D).trans hm2.le, ?_⟩
  have hsl : s.len = i := by have h := hg.slen; rw [List.length_take, Nat.min_eq_left hi] at h; exact h
  refine apS_ownF (ys := T_zset_Entry.c (⟨t2, l[i].2⟩ : T_zset_Entry)) (hg.own.own.le hm2.le).off (.inr ⟨rfl, _, rfl, rds_row h26 fun j v hj => by simpa using hj⟩) rfl (by intro u hu; simp [T_zset_Entry.c] at hu; rcases hu with rfl | rfl <;> rfl) (by show (s.len + 1) * 32 ≤ _; omega) (by show s.len + 1 ≤ _; omega) fun r' H29 hO hlen => ?_
  refine ⟨(Heap.le_off ((Heap.off_le s D).trans hm2.le) (Heap.off_fresh s D)).trans hO.le, ?_⟩
  rw [w_i64 (by dsimp only; omega) (by dsimp only; omega)]
  refine ⟨⟨i + 1, ys ++ [(⟨t2, l[i].2⟩ : T_zset_Entry)], rfl, by omega, ?_⟩, by first | omega | (dsimp only; omega)⟩
  rw [List.take_add_one, List.getElem?_eq_getElem hlt]
  exact hg.step (l := l[i].1) (n := l[i].2) hm2 hO
 ·have hie : i = l.length := by have : ¬ (i : Int) < l.length := of_decide_eq_false h; omega
  rw [hie, List.take_length] at hg
  exact k _ _ _ hg
theorem back_ok {s0 : Sl} {l : List En} {K : Sl → Heap → Prop} (hs : EnL A s0 l) (hA : A.le H) (hn : l.length ≤ 1000000) (k : ∀ r H2, H.le H2 → EnL H2 r l → K r H2) : c_law24_back C s0 K H := by
 apply ad_law24_back
 unfold sh_law24_back
 refine ⟨fun x D => ∃ (i : Nat) (ys : List T_zset_Entry), x.2 = (i : Int) ∧ i ≤ l.length ∧ OwnF H D 2 x.1 (ys.flatMap T_zset_Entry.c) ∧ ys.length = i ∧ ∀ (j : Nat) (e : En) (y : T_zset_Entry), l[j]? = some e → ys[j]? = some y → EnIs A e y, fun x _ => l.length - x.2.toNat, ⟨0, [], rfl, Nat.zero_le _, OwnF.nil H 2, rfl, fun j e y _ hy => by simp at hy⟩, ?_⟩
 rintro ⟨s, _⟩ D ⟨i, ys, rfl, hi, hO, hyl, hy⟩
 rw [hs.len]
 have hsl : s.len = i := by have h1 : (ys.flatMap T_zset_Entry.c).length = s.len * 2 := hO.own.1; rw [ysE_len, hyl] at h1; omega
 refine ift.of (fun h => ?_) (fun h => ?_)
 ·have hlt : i < l.length := by have : (i : Int) < l.length := of_decide_eq_true h; omega
  have hHo : H.le (D.off s) := Heap.le_off hO.le hO.fresh
  have hAo := hA.trans hHo
  refine ⟨D.off s, Heap.off_le s D, SlIs.fL hs hAo (z := 2) (fun _ => rfl) (by omega) rfl hlt (j := 0) (f := fun y => y.Row) (fun _ => rfl) fun y1 hy1 => SlIs.fI hs hAo (z := 2) (fun _ => rfl) (by omega) rfl hlt (j := 1) (f := fun y => y.N) (fun _ => rfl) fun y2 hy2 => ?_⟩
  intro b25 n25
  have l26 := Heap.le_put n25 (g := .row (T_zset_Entry.c (⟨y1.Row, y2.N⟩ : T_zset_Entry) ++ [])) (m := true)
  have h26 : (D.put b25 (.row (T_zset_Entry.c (⟨y1.Row, y2.N⟩ : T_zset_Entry) ++ []))) b25 = some (true, .row (T_zset_Entry.c (⟨y1.Row, y2.N⟩ : T_zset_Entry) ++ [])) := Heap.put_same ..
  generalize D.put b25 (.row (T_zset_Entry.c (⟨y1.Row, y2.N⟩ : T_zset_Entry) ++ [])) = H26 at *
  refine ⟨(Heap.off_le s D).trans l26, ?_⟩
  refine apS_ownF (ys := T_zset_Entry.c (⟨y1.Row, y2.N⟩ : T_zset_Entry)) (hO.own.le l26).off (.inr ⟨rfl, _, rfl, rds_row h26 fun j v hj => by simpa using hj⟩) rfl (by intro u hu; simp [T_zset_Entry.c] at hu; rcases hu with rfl | rfl <;> rfl) (by show (s.len + 1) * 32 ≤ _; omega) (by show s.len + 1 ≤ _; omega) fun r' H29 hO2 hlen => ?_
  have lo := Heap.le_off ((Heap.off_le s D).trans l26) (Heap.off_fresh s D)
  refine ⟨lo.trans hO2.le, ?_⟩
  rw [w_i64 (by dsimp only; omega) (by dsimp only; omega)]
  refine ⟨⟨i + 1, ys ++ [(⟨y1.Row, y2.N⟩ : T_zset_Entry)], rfl, by omega, ?_, by simp [hyl], fun j e y he hj => ?_⟩, by first | omega | (dsimp only; omega)⟩
  ·rw [List.flatMap_append]
   have this : OwnF H H29 2 r' (List.flatMap T_zset_Entry.c ys ++ T_zset_Entry.c (⟨y1.Row, y2.N⟩ : T_zset_Entry)) := hO2.down (hHo.trans lo)
   simpa using this
  ·by_cases hj' : j < ys.length
   ·rw [List.getElem?_append_left hj'] at hj; exact hy j e y he hj
   ·have hjl := (List.getElem?_eq_some_iff.1 hj).1
    rw [List.length_append, List.length_singleton] at hjl
    have hje : j = i := by omega
    subst hje
    rw [List.getElem?_append_right (by omega), hyl, Nat.sub_self] at hj
    simp only [List.getElem?_cons_zero, Option.some.injEq] at hj
    rw [List.getElem?_eq_getElem hlt] at he
    have he := Option.some.inj he
    subst he; subst hj
    exact ⟨hy1.1, hy1.2.1, hy1.2.2.1, hy2.2.2.2.1, hy2.2.2.2.2⟩
 ·have hie : i = l.length := by have : ¬ (i : Int) < l.length := of_decide_eq_false h; omega
  subst hie
  exact k _ _ hO.le ⟨ys, hO.own.rdsl, by dsimp only; omega, hyl.symm, by omega, fun j e y he hj => (hy j e y he hj).le (hA.trans hO.le)⟩
end
end Sx
end

noncomputable section
set_option linter.unusedVariables false
set_option linter.unusedSimpArgs false
set_option maxRecDepth 10000
namespace Sx
open Go Go.Proofs
section
variable {C : Ctx} {H A X : Heap}
end
end Sx
end

noncomputable section
set_option linter.unusedVariables false
set_option linter.unusedSimpArgs false
set_option maxRecDepth 10000
namespace Sx
open Go Go.Proofs
theorem cE_one {xs : List T_zset_Entry} : ∀ u ∈ xs.flatMap T_zset_Entry.c, u.oneCell' = true := by
 intro u hu
 obtain ⟨x, _, hx⟩ := List.mem_flatMap.1 hu
 simp [T_zset_Entry.c] at hx
 rcases hx with rfl | rfl <;> rfl
section
variable {C : Ctx} {H A : Heap}
end
end Sx
end

