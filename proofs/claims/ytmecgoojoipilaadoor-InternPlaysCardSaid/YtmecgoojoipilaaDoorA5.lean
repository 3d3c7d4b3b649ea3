/-
  Texts of this family, one behind the other: ValO1, SortP, SortQ, ValM, ShowQ, BldB, ShowP, IntQ, IntP1, IntP2, IntP3, ValN2, ValH, IntK, IntA, IntD, IntE, IntF, IntG, LawIPlays, IntH.
-/
import Derived.Test.YtmecgoojoipilaaDoorA4
import Derived.Lib.ItoaNum
import Derived.Lib.ItoaLen
noncomputable section
set_option linter.unusedVariables false
set_option linter.unusedSimpArgs false
namespace Sx
open Go Go.Proofs
/-- an order, told by signs -/
structure Lin {α : Type} (f : α → α → Int) (P : α → Prop) : Prop where
  anti : ∀ a b, P a → P b → f b a = - f a b
  rng : ∀ a b, P a → P b → -1 ≤ f a b ∧ f a b ≤ 1
  tr : ∀ a b c, P a → P b → P c → f a b ≤ 0 → f b c ≤ 0 → f a c ≤ 0 ∧ (f a b < 0 ∨ f b c < 0 → f a c < 0)
section
variable {α β : Type} {f g : α → α → Int} {P Q : α → Prop}
theorem Lin.refl (h : Lin f P) {a : α} (ha : P a) : f a a = 0 := by have := h.anti a a ha ha; omega
theorem Lin.l0 (h : Lin f P) {a b c : α} (ha : P a) (hb : P b) (hc : P c) (e : f a b = 0) : f a c = f b c := by
  have t1 := h.tr a b c ha hb hc (by omega)
  have e' := h.anti a b ha hb
  have t2 := h.tr b a c hb ha hc (by omega)
  have r1 := h.rng a c ha hc
  have r2 := h.rng b c hb hc
  rcases Int.lt_trichotomy (f b c) 0 with h1 | h1 | h1
  · have := (t1 (by omega)).2 (.inr h1); omega
  · have k1 := (t1 (by omega)).1
    rcases Int.lt_trichotomy (f a c) 0 with h2 | h2 | h2
    · have := (t2 (by omega)).2 (.inr h2); omega
    · omega
    · omega
  · rcases Int.lt_trichotomy (f a c) 0 with h2 | h2 | h2
    · have := (t2 (by omega)).2 (.inr h2); omega
    · have := (t2 (by omega)).1; omega
    · omega
theorem Lin.r0 (h : Lin f P) {a b c : α} (ha : P a) (hb : P b) (hc : P c) (e : f b c = 0) : f a c = f a b := by
  have h1 := h.anti b c hb hc
  have h2 := h.l0 hc hb ha (by omega)
  have h3 := h.anti a c ha hc
  have h4 := h.anti a b ha hb
  omega
theorem Lin.sub (h : Lin f P) (hs : ∀ a, Q a → P a) : Lin f Q := ⟨fun a b ha hb => h.anti a b (hs a ha) (hs b hb), fun a b ha hb => h.rng a b (hs a ha) (hs b hb), fun a b c ha hb hc => h.tr a b c (hs a ha) (hs b hb) (hs c hc)⟩
theorem Lin.swap (h : Lin f P) : Lin (fun a b => f b a) P := ⟨fun a b ha hb => h.anti b a hb ha, fun a b ha hb => h.rng b a hb ha, fun a b c ha hb hc h1 h2 => by
  have := h.tr c b a hc hb ha h2 h1
  exact ⟨this.1, fun hh => this.2 hh.symm⟩⟩
theorem Lin.comp {f : β → β → Int} {P : β → Prop} (h : Lin f P) (u : α → β) : Lin (fun a b => f (u a) (u b)) (fun a => P (u a)) :=
  ⟨fun a b ha hb => h.anti _ _ ha hb, fun a b ha hb => h.rng _ _ ha hb, fun a b c ha hb hc => h.tr _ _ _ ha hb hc⟩
theorem Lin.or (h : Lin f P) (h2 : Lin g P) : Lin (fun a b => if f a b ≠ 0 then f a b else g a b) P := by
  refine ⟨fun a b ha hb => ?_, fun a b ha hb => ?_, fun a b c ha hb hc => ?_⟩
  · have e1 := h.anti a b ha hb
    have e2 := h2.anti a b ha hb
    try dsimp only
    by_cases hz : f a b = 0
    · rw [if_neg (by omega), if_neg (by omega)]; exact e2
    · rw [if_pos (by omega), if_pos (by omega)]; exact e1
  · try dsimp only
    split
    · exact h.rng a b ha hb
    · exact h2.rng a b ha hb
  · try dsimp only
    have t := h.tr a b c ha hb hc
    have t2 := h2.tr a b c ha hb hc
    by_cases h1 : f a b = 0
    · have e := h.l0 ha hb hc h1
      by_cases h3 : f b c = 0
      · rw [if_neg (by omega), if_neg (by omega), if_neg (by omega)]; exact t2
      · rw [if_neg (by omega), if_pos h3, if_pos (by omega)]
        intro _ k2
        exact ⟨by omega, fun _ => by omega⟩
    · by_cases h3 : f b c = 0
      · have e := h.r0 ha hb hc h3
        rw [if_pos h1, if_neg (by omega), if_pos (by omega)]
        intro k1 _
        exact ⟨by omega, fun _ => by omega⟩
      · rw [if_pos h1, if_pos h3]
        intro k1 k2
        have := (t k1 k2).2 (.inl (by omega))
        rw [if_pos (by omega)]
        exact ⟨by omega, fun _ => this⟩
/-- first by classes, then within a class -/
theorem Lin.sel {κ : α → Int} {B : Int → α → α → Int} (hs : Lin (fun a b : Int => sgn a b) fun _ => True) (h : ∀ k, Lin (B k) P) : Lin (fun a b => if κ a ≠ κ b then sgn (κ a) (κ b) else B (κ a) a b) P := by
  refine ⟨fun a b ha hb => ?_, fun a b ha hb => ?_, fun a b c ha hb hc => ?_⟩
  · try dsimp only
    by_cases hz : κ a = κ b
    · rw [if_neg (by omega), if_neg (by omega), hz]; exact (h _).anti a b ha hb
    · rw [if_pos (by omega), if_pos (by omega)]; exact hs.anti _ _ trivial trivial
  · try dsimp only
    split
    · exact hs.rng _ _ trivial trivial
    · exact (h _).rng a b ha hb
  · try dsimp only
    have t := hs.tr (κ a) (κ b) (κ c) trivial trivial trivial
    try dsimp only at t
    by_cases h1 : κ a = κ b
    · by_cases h3 : κ b = κ c
      · rw [if_neg (by omega), if_neg (by omega), if_neg (by omega), ← h1]; exact (h _).tr a b c ha hb hc
      · rw [if_neg (by omega), if_pos h3, if_pos (by omega), h1]
        intro _ k2
        have := sgn_zero (a := κ b) (b := κ c)
        exact ⟨by omega, fun _ => by omega⟩
    · have z1 := sgn_zero (a := κ a) (b := κ b)
      by_cases h3 : κ b = κ c
      · rw [if_pos h1, if_neg (by omega), if_pos (by omega), ← h3]
        intro k1 _
        exact ⟨by omega, fun _ => by omega⟩
      · rw [if_pos h1, if_pos h3]
        intro k1 k2
        have := (t k1 k2).2 (.inl (by omega))
        have z2 := sgn_neg.1 this
        rw [if_pos (by omega)]
        exact ⟨by omega, fun _ => this⟩
end
theorem Lin.sgn : Lin (fun a b : Int => sgn a b) fun _ => True := by
  refine ⟨fun a b _ _ => ?_, fun a b _ _ => sgn_rng a b, fun a b c _ _ _ h1 h2 => ?_⟩
  · unfold Sx.sgn; split <;> split <;> omega
  · have n1 := sgn_neg (a := a) (b := b)
    have n2 := sgn_neg (a := b) (b := c)
    have n3 := sgn_neg (a := a) (b := c)
    have z1 := sgn_zero (a := a) (b := b)
    have z2 := sgn_zero (a := b) (b := c)
    have z3 := sgn_zero (a := a) (b := c)
    omega
def lexF {α : Type} (f : α → α → Int) : List α → List α → Int
  | [], [] => 0
  | [], _ :: _ => -1
  | _ :: _, [] => 1
  | a :: s, b :: t => if f a b ≠ 0 then f a b else lexF f s t
theorem Lin.lex {α : Type} {f : α → α → Int} {P : α → Prop} (h : Lin f P) : Lin (lexF f) (fun l => ∀ a ∈ l, P a) := by
  refine ⟨fun l => ?_, fun l => ?_, fun l => ?_⟩
  · induction l with
    | nil => intro m _ _; cases m <;> simp [lexF]
    | cons a l ih =>
      intro m hl hm
      cases m with
      | nil => simp [lexF]
      | cons b m =>
        have ha := hl a (List.mem_cons_self ..)
        have hb := hm b (List.mem_cons_self ..)
        have e1 := h.anti a b ha hb
        have e2 := ih m (fun x hx => hl x (List.mem_cons_of_mem _ hx)) (fun x hx => hm x (List.mem_cons_of_mem _ hx))
        simp only [lexF]
        by_cases hz : f a b = 0
        · rw [if_neg (by omega), if_neg (by omega)]; exact e2
        · rw [if_pos (by omega), if_pos (by omega)]; exact e1
  · induction l with
    | nil => intro m _ _; cases m <;> simp [lexF]
    | cons a l ih =>
      intro m hl hm
      cases m with
      | nil => simp [lexF]
      | cons b m =>
        simp only [lexF]
        split
        · exact h.rng a b (hl a (List.mem_cons_self ..)) (hm b (List.mem_cons_self ..))
        · exact ih m (fun x hx => hl x (List.mem_cons_of_mem _ hx)) (fun x hx => hm x (List.mem_cons_of_mem _ hx))
  · induction l with
    | nil =>
      intro m n _ _ _ h1 h2
      cases n with
      | nil =>
        cases m with
        | nil => simp [lexF]
        | cons b m => simp [lexF] at h2
      | cons c n => simp [lexF]
    | cons a l ih =>
      intro m n hl hm hn
      cases m with
      | nil => intro h1; simp [lexF] at h1
      | cons b m =>
      cases n with
      | nil => intro _ h2; simp [lexF] at h2
      | cons c n =>
        have ha := hl a (List.mem_cons_self ..)
        have hb := hm b (List.mem_cons_self ..)
        have hc := hn c (List.mem_cons_self ..)
        have t := h.tr a b c ha hb hc
        have t2 := ih m n (fun x hx => hl x (List.mem_cons_of_mem _ hx)) (fun x hx => hm x (List.mem_cons_of_mem _ hx)) (fun x hx => hn x (List.mem_cons_of_mem _ hx))
        simp only [lexF]
        by_cases h1 : f a b = 0
        · have e := h.l0 ha hb hc h1
          by_cases h3 : f b c = 0
          · rw [if_neg (by omega), if_neg (by omega), if_neg (by omega)]; exact t2
          · rw [if_neg (by omega), if_pos h3, if_pos (by omega)]
            intro _ k2
            exact ⟨by omega, fun _ => by omega⟩
        · by_cases h3 : f b c = 0
          · have e := h.r0 ha hb hc h3
            rw [if_pos h1, if_neg (by omega), if_pos (by omega)]
            intro k1 _
            exact ⟨by omega, fun _ => by omega⟩
          · rw [if_pos h1, if_pos h3]
            intro k1 k2
            have := (t k1 k2).2 (.inl (by omega))
            rw [if_pos (by omega)]
            exact ⟨by omega, fun _ => this⟩

theorem vcmpS_lex : ∀ s t : Str, vcmpS s t = lexF (fun a b : UInt8 => sgn a.toNat b.toNat) s t
  | [], [] => rfl
  | [], _ :: _ => rfl
  | _ :: _, [] => rfl
  | a :: s, b :: t => by
    simp only [vcmpS, lexF, vcmpS_lex s t]
    by_cases h : a = b
    · subst h; rw [sgn_self]; simp
    · have : ¬ sgn a.toNat b.toNat = 0 := fun e => h (UInt8.toNat_inj.1 (by have := sgn_zero.1 e; omega))
      rw [if_neg h, if_pos this]
theorem Lin.txt : Lin vcmpS fun _ => True := by
  have h := (Lin.sgn.comp (fun a : UInt8 => (a.toNat : Int))).lex
  have e : vcmpS = lexF (fun a b : UInt8 => Sx.sgn a.toNat b.toNat) := funext fun s => funext fun t => vcmpS_lex s t
  rw [e]
  exact h.sub fun _ _ _ _ => trivial
theorem Lin.dig : Lin cmpD fun _ => True := by
  have h := (Lin.sgn.comp (fun a : Str => (a.length : Int))).or Lin.txt
  have e : cmpD = fun a b : Str => if Sx.sgn a.length b.length ≠ 0 then Sx.sgn a.length b.length else vcmpS a b := funext fun a => funext fun b => by
    unfold cmpD
    by_cases hl : a.length = b.length
    · rw [if_pos hl, if_neg (by rw [hl, sgn_self]; simp)]
    · rw [if_neg hl, if_pos (fun e => hl (by have := sgn_zero.1 e; omega))]
  rw [e]; exact h
theorem Lin.bigs : Lin cmpB fun _ => True := by
  have h := Lin.sel (α := Str) (P := fun _ => True) (κ := fun s => if isMin s then 0 else 1) (B := fun k a b => if k = 0 then cmpD b.tail a.tail else cmpD a b) Lin.sgn fun k => by
    by_cases hk : k = 0
    · subst hk
      simp only [if_true]
      exact (Lin.dig.swap.comp List.tail)
    · simp only [if_neg hk]
      exact Lin.dig
  have e : cmpB = fun a b : Str => if (if isMin a then (0 : Int) else 1) ≠ (if isMin b then 0 else 1) then Sx.sgn (if isMin a then 0 else 1) (if isMin b then 0 else 1) else (if (if isMin a then (0 : Int) else 1) = 0 then cmpD b.tail a.tail else cmpD a b) := funext fun a => funext fun b => by
    unfold cmpB
    cases ha : isMin a <;> cases hb : isMin b <;> simp [Sx.sgn]
  rw [e]; exact h
theorem cmpVs_lex : ∀ l m : List V, cmpVs l m = lexF cmpV l m
  | [], [] => rfl
  | [], _ :: _ => rfl
  | _ :: _, [] => rfl
  | v :: l, w :: m => by simp only [cmpVs, lexF, cmpVs_lex l m]
theorem Lin.vals : ∀ n : Nat, Lin cmpV fun v => vsize v ≤ n := by
  intro n
  induction n with
  | zero => exact ⟨fun a b ha => by obtain ⟨k, n, s, l⟩ := a; simp [vsize] at ha, fun a b ha => by obtain ⟨k, n, s, l⟩ := a; simp [vsize] at ha, fun a b c ha => by obtain ⟨k, n, s, l⟩ := a; simp [vsize] at ha⟩
  | succ n ih =>
    have hl : Lin (fun v w : V => cmpVs v.l w.l) fun v => vsize v ≤ n + 1 := by
      have h := (ih.lex).comp V.l
      have e : (fun v w : V => cmpVs v.l w.l) = fun v w : V => lexF cmpV v.l w.l := funext fun v => funext fun w => cmpVs_lex _ _
      rw [e]
      exact h.sub fun v hv x hx => by have := vsize_l hx; omega
    have hs : Lin (fun v w : V => vcmpS v.s w.s) fun v => vsize v ≤ n + 1 := (Lin.txt.comp V.s).sub fun _ _ => trivial
    have h := Lin.sel (α := V) (P := fun v => vsize v ≤ n + 1) (κ := V.k) (B := fun k v w => if k = 3 then cmpB v.s w.s else if k = 4 then vcmpS v.s w.s else if k = 5 then cmpVs v.l w.l else if k = 6 then (if vcmpS v.s w.s ≠ 0 then vcmpS v.s w.s else cmpVs v.l w.l) else Sx.sgn v.n w.n) Lin.sgn fun k => by
      by_cases h3 : k = 3
      · simp only [if_pos h3]; exact (Lin.bigs.comp V.s).sub fun _ _ => trivial
      simp only [if_neg h3]
      by_cases h4 : k = 4
      · simp only [if_pos h4]; exact hs
      simp only [if_neg h4]
      by_cases h5 : k = 5
      · simp only [if_pos h5]; exact hl
      simp only [if_neg h5]
      by_cases h6 : k = 6
      · simp only [if_pos h6]; exact hs.or hl
      simp only [if_neg h6]
      exact (Lin.sgn.comp V.n).sub fun _ _ => trivial
    have e : cmpV = fun v w : V => if v.k ≠ w.k then Sx.sgn v.k w.k else if v.k = 3 then cmpB v.s w.s else if v.k = 4 then vcmpS v.s w.s else if v.k = 5 then cmpVs v.l w.l else if v.k = 6 then (if vcmpS v.s w.s ≠ 0 then vcmpS v.s w.s else cmpVs v.l w.l) else Sx.sgn v.n w.n := funext fun v => funext fun w => cmpV_eq v w
    rw [e]; exact h
theorem Lin.val : Lin cmpV fun _ => True := by
  refine ⟨fun a b _ _ => ?_, fun a b _ _ => ?_, fun a b c _ _ _ => ?_⟩
  · exact (Lin.vals (vsize a + vsize b)).anti a b (by omega) (by omega)
  · exact (Lin.vals (vsize a + vsize b)).rng a b (by omega) (by omega)
  · exact (Lin.vals (vsize a + vsize b + vsize c)).tr a b c (by omega) (by omega) (by omega)
theorem Lin.vs : Lin cmpVs fun _ => True := by
  have e : cmpVs = lexF cmpV := funext fun l => funext fun m => cmpVs_lex l m
  rw [e]
  exact Lin.val.lex.sub fun _ _ _ _ => trivial
theorem Lin.row : Lin cmpR fun _ => True := by
  have h := Lin.sel (α := List V) (P := fun _ => True) (κ := fun l => if mayR l then 0 else 1) (B := fun k a b => if k = 0 then cmpVs a b else 0) Lin.sgn fun k => by
    by_cases hk : k = 0
    · simp only [if_pos hk]; exact Lin.vs
    · simp only [if_neg hk]
      exact ⟨fun _ _ _ _ => rfl, fun _ _ _ _ => by simp, fun _ _ _ _ _ _ _ _ => by simp⟩
  have e : cmpR = fun a b : List V => if (if mayR a then (0 : Int) else 1) ≠ (if mayR b then 0 else 1) then Sx.sgn (if mayR a then 0 else 1) (if mayR b then 0 else 1) else (if (if mayR a then (0 : Int) else 1) = 0 then cmpVs a b else 0) := funext fun a => funext fun b => by
    unfold cmpR lastB
    cases ha : mayR a <;> cases hb : mayR b <;> simp [Sx.sgn]
  rw [e]; exact h

end Sx
end

noncomputable section
set_option linter.unusedVariables false
set_option linter.unusedSimpArgs false
namespace Sx
open Go Go.Proofs
section
variable {α : Type} {κ : α → α → Int} {ι : α → Nat} {P : α → Prop}
/-- stands ahead; of two alike the one that was ahead -/
def Bf (κ : α → α → Int) (ι : α → Nat) (x y : α) : Prop := κ x y < 0 ∨ (κ x y = 0 ∧ ι x < ι y)
theorem Bf.le {x y : α} (h : Bf κ ι x y) : κ x y ≤ 0 := by rcases h with h | h <;> omega
theorem Bf.of {x y : α} (h : κ x y ≤ 0) (hi : ι x < ι y) : Bf κ ι x y := by
  rcases Int.lt_or_eq_of_le h with h | h
  · exact .inl h
  · exact .inr ⟨h, hi⟩
/-- what was sorted by blocks -/
inductive Ch (κ : α → α → Int) (ι : α → Nat) (bs : Nat) : List α → List α → Prop
  | last {Z L : List α} : L.length < bs → Z.Perm L → Z.Pairwise (Bf κ ι) → Ch κ ι bs Z L
  | cons {Z L Z' L' : List α} : L.length = bs → Z.Perm L → Z.Pairwise (Bf κ ι) → Ch κ ι bs Z' L' → Ch κ ι bs (Z ++ Z') (L ++ L')
theorem Ch.perm {bs : Nat} {Z L : List α} (h : Ch κ ι bs Z L) : Z.Perm L := by
  induction h with
  | last _ h _ => exact h
  | cons _ h _ _ ih => exact h.append ih
theorem Ch.all {bs : Nat} {Z L : List α} (h : Ch κ ι bs Z L) (hl : L.length ≤ bs) (h0 : 0 < bs) : Z.Pairwise (Bf κ ι) := by
  cases h with
  | last _ _ h => exact h
  | @cons Z1 L1 Z2 L2 h1 h2 h3 h4 =>
    rw [List.length_append] at hl
    have hp := h4.perm.length_eq
    have e : Z2 = [] := List.length_eq_zero_iff.1 (by rw [hp]; omega)
    rw [e, List.append_nil]; exact h3
end
end Sx
end

noncomputable section
set_option linter.unusedVariables false
set_option linter.unusedSimpArgs false
namespace Sx
open Go Go.Proofs
section
variable {α β : Type} {κ : α → α → Int} {ι : α → Nat} {P : α → Prop}
/-- of each kind the first one, rising -/
structure Rep (κ : α → α → Int) (ι : α → Nat) (L A : List α) : Prop where
  asc : A.Pairwise fun a b => κ a b < 0
  sub : ∀ y ∈ A, y ∈ L
  all : ∀ x ∈ L, ∃ y ∈ A, κ y x = 0
  fst : ∀ y ∈ A, ∀ x ∈ L, κ y x = 0 → x = y ∨ ι y < ι x
theorem Rep.perm {L M A : List α} (h : Rep κ ι L A) (hp : L.Perm M) : Rep κ ι M A :=
  ⟨h.asc, fun y hy => hp.mem_iff.1 (h.sub y hy), fun x hx => h.all x (hp.mem_iff.2 hx), fun y hy x hx => h.fst y hy x (hp.mem_iff.2 hx)⟩
end
end Sx
end

noncomputable section
set_option linter.unusedVariables false
set_option linter.unusedSimpArgs false
namespace Sx
open Go Go.Proofs
def Heap.new (H H2 : Heap) : Heap := fun x => if (H x).isSome then none else H2 x
theorem Heap.new_some {H H2 : Heap} {x : Nat} {e : Bool × GO} (h : H2 x = some e) (hn : H x = none) : Heap.new H H2 x = some e := by
  unfold Heap.new; rw [hn]; exact h
theorem Heap.new_inv {H H2 : Heap} {x : Nat} {e : Bool × GO} (h : Heap.new H H2 x = some e) : H x = none ∧ H2 x = some e := by
  unfold Heap.new at h
  cases hx : H x with
  | none => rw [hx] at h; exact ⟨rfl, h⟩
  | some y => rw [hx] at h; cases h
theorem Heap.new_le (H H2 : Heap) : (Heap.new H H2).le H2 := fun x e h => (Heap.new_inv h).2

/-- a row of values that may be written over, with all that is in it: its blocks are N's; k deep at most -/
def Sp (N : Nat → Prop) (H : Heap) : Nat → Sl → Prop
  | 0, t => t.len = 0
  | k + 1, t => t.len = 0 ∨ ∃ (b : Nat) (xs : List TV) (sp : List Value), N b ∧ t.p = some (b, 0) ∧ t.x = none ∧ H b = some (true, .row (xs.flatMap T_api_Value.c ++ sp)) ∧ (t.len ≤ xs.length ∧ xs.length ≤ 1000000) ∧ ∀ x ∈ xs, Sp N H k x.L
section
variable {N M : Nat → Prop} {H H2 : Heap}
theorem Sp.nil (k : Nat) {t : Sl} (h : t.len = 0) : Sp N H k t := by
  cases k with
  | zero => exact h
  | succ k => exact .inl h
theorem Sp.mono : ∀ {k : Nat} {t : Sl}, Sp N H k t → Sp N H (k + 1) t
  | 0, t, h => .inl h
  | k + 1, t, .inl h => .inl h
  | k + 1, t, .inr ⟨b, xs, sp, h1, h2, h3, h4, h5, h6⟩ => .inr ⟨b, xs, sp, h1, h2, h3, h4, h5, fun x hx => Sp.mono (h6 x hx)⟩
theorem Sp.up {k m : Nat} {t : Sl} (h : Sp N H k t) (hk : k ≤ m) : Sp N H m t := by
  induction hk with
  | refl => exact h
  | step _ ih => exact ih.mono
theorem Sp.to (h : ∀ b e, N b → H b = some e → M b ∧ H2 b = some e) : ∀ {k : Nat} {t : Sl}, Sp N H k t → Sp M H2 k t
  | 0, t, h0 => h0
  | k + 1, t, .inl h0 => .inl h0
  | k + 1, t, .inr ⟨b, xs, sp, h1, h2, h3, h4, h5, h6⟩ => .inr ⟨b, xs, sp, (h b _ h1 h4).1, h2, h3, (h b _ h1 h4).2, h5, fun x hx => Sp.to h (h6 x hx)⟩
theorem Sp.all : ∀ {xs : List TV}, (∀ x ∈ xs, ∃ k, Sp N H k x.L) → ∃ k, ∀ x ∈ xs, Sp N H k x.L
  | [], _ => ⟨0, fun x hx => by cases hx⟩
  | y :: xs, h => by
    obtain ⟨k, hk⟩ := h y (List.mem_cons_self ..)
    obtain ⟨m, hm⟩ := Sp.all (xs := xs) fun x hx => h x (List.mem_cons_of_mem _ hx)
    refine ⟨max k m, fun x hx => ?_⟩
    rcases List.mem_cons.1 hx with rfl | hx
    · exact hk.up (Nat.le_max_left ..)
    · exact (hm x hx).up (Nat.le_max_right ..)

/-- what a copy is -/
structure Made (H H2 : Heap) (l : List V) (t : Sl) : Prop where
  le : H.le H2
  row : VRow (Heap.new H H2) t l
  sp : ∃ k, Sp (fun b => H b = none) H2 k t
theorem Made.row2 {l : List V} {t : Sl} (h : Made H H2 l t) : VRow H2 t l := h.row.le (Heap.new_le _ _)
theorem Made.up {H3 : Heap} {l : List V} {t : Sl} (h : Made H H2 l t) (hle : H2.le H3) : Made H H3 l t := by
  refine ⟨h.le.trans hle, h.row.le fun x e hx => ?_, ?_⟩
  · obtain ⟨a, b⟩ := Heap.new_inv hx
    exact Heap.new_some (hle _ _ b) a
  · obtain ⟨k, hk⟩ := h.sp
    exact ⟨k, hk.to fun b e h he => ⟨h, hle b e he⟩⟩
theorem Made.down {H0 : Heap} {l : List V} {t : Sl} (h : Made H H2 l t) (hle : H0.le H) : Made H0 H2 l t := by
  refine ⟨hle.trans h.le, h.row.le fun x e hx => ?_, ?_⟩
  · obtain ⟨a, b⟩ := Heap.new_inv hx
    exact Heap.new_some b (hle.none a)
  · obtain ⟨k, hk⟩ := h.sp
    exact ⟨k, hk.to fun b e h he => ⟨hle.none h, he⟩⟩
theorem Made.nil {H : Heap} {t : Sl} (h : t.len = 0) : Made H H [] t := ⟨Heap.le.refl _, ⟨[], .inl rfl, by simpa using h, trivial⟩, 0, h⟩

theorem vsizes_len : ∀ l : List V, l.length ≤ vsizes l
  | [] => Nat.le_refl _
  | v :: l => by
    have := vsizes_len l
    have hv : vsize v = vsizes v.l + 1 := by cases v; rfl
    simp only [vsizes, List.length_cons]; omega
theorem flat4 : ∀ xs : List TV, (xs.flatMap T_api_Value.c).length = xs.length * 4
  | [] => rfl
  | x :: xs => by rw [List.flatMap_cons, List.length_append, flat4 xs, TV.c_len, List.length_cons]; omega
theorem set_L {t : Sl} {sp : List Value} : ∀ (xs : List TV) (i : Nat) (hi : i < xs.length), ((xs.flatMap T_api_Value.c) ++ sp).set (i * 4 + 3) (slv t) = (xs.set i { xs[i] with L := t }).flatMap T_api_Value.c ++ sp
  | [], i, hi => by simp at hi
  | x :: xs, 0, hi => by
    simp only [List.flatMap_cons, List.getElem_cons_zero, List.set_cons_zero]
    rfl
  | x :: xs, i + 1, hi => by
    have ih := set_L (t := t) (sp := sp) xs i (by simpa using hi)
    simp only [List.flatMap_cons, List.set_cons_succ, List.getElem_cons_succ, List.append_assoc]
    have e : (i + 1) * 4 + 3 = (T_api_Value.c x).length + (i * 4 + 3) := by rw [TV.c_len]; omega
    rw [← ih, e, List.set_append_right _ _ (Nat.le_add_right ..), Nat.add_sub_cancel_left]
/-- the copy's loop: what stands in the copy's block b over B -/
structure Ow (A H B : Heap) (b i : Nat) (l : List V) (xs ys : List TV) : Prop where
  le : H.le B
  ale : A.le B
  nb : B b = none
  len : ys.length = l.length
  xlen : xs.length = l.length
  old : VsAre A l xs
  rest : ∀ j, i ≤ j → ys[j]? = xs[j]?
  done : ∀ (j : Nat) (v : V) (x : TV), j < i → l[j]? = some v → ys[j]? = some x → VIs (Heap.new H B) v x ∧ ∃ k, Sp (fun c => H c = none) B k x.L
theorem Ow.step {A B B2 : Heap} {b i : Nat} {l : List V} {xs ys : List TV} {sp : List Value} {t : Sl} (h : Ow A H B b i l xs ys) (hi : i < l.length) (hi2 : i < ys.length)
    (hm : Made (B.put b (.row (ys.flatMap T_api_Value.c ++ sp))) B2 l[i].l t) :
    Ow A H (B2.del b) b (i + 1) l xs (ys.set i { ys[i] with L := t }) ∧ B2.put b (.row (((ys.set i { ys[i] with L := t }).flatMap T_api_Value.c) ++ sp)) = (B2.del b).put b (.row (((ys.set i { ys[i] with L := t }).flatMap T_api_Value.c) ++ sp)) := by
  have hb : B.le (B2.del b) := fun x e hx => by
    have hne : x ≠ b := fun e' => by rw [e', h.nb] at hx; cases hx
    rw [Heap.del_ne _ hne]
    exact hm.le _ _ (by rw [Heap.put_ne _ _ _ hne]; exact hx)
  have hnn : (Heap.new H B).le (Heap.new H (B2.del b)) := fun x e hx => by
    obtain ⟨a, c⟩ := Heap.new_inv hx
    exact Heap.new_some (hb _ _ c) a
  have hPN : ∀ c, (B.put b (.row (ys.flatMap T_api_Value.c ++ sp))) c = none → H c = none ∧ c ≠ b := fun c hc => by
    have hne : c ≠ b := fun e' => by rw [e', Heap.put_same] at hc; cases hc
    rw [Heap.put_ne _ _ _ hne] at hc
    exact ⟨h.le.none hc, hne⟩
  refine ⟨⟨h.le.trans hb, h.ale.trans hb, Heap.del_same .., by rw [List.length_set]; exact h.len, h.xlen, h.old, fun j hj => ?_, fun j v x hj hv hx => ?_⟩, ?_⟩
  · rw [List.getElem?_set_ne (by omega)]; exact h.rest j (by omega)
  · by_cases hji : j = i
    · subst hji
      rw [List.getElem?_set_self hi2] at hx
      have hx := Option.some.inj hx
      rw [List.getElem?_eq_getElem hi] at hv
      have hv := Option.some.inj hv
      subst hx; subst hv
      have hxi := h.rest j (Nat.le_refl _)
      rw [List.getElem?_eq_getElem hi2] at hxi
      have hold := VIs_iff.1 (h.old.get j _ _ (List.getElem?_eq_getElem hi) hxi.symm)
      refine ⟨VIs_iff.2 ⟨hold.1, hold.2.1, hold.2.2.1, hm.row.le fun c e hc => ?_⟩, ?_⟩
      · obtain ⟨a1, a2⟩ := Heap.new_inv hc
        obtain ⟨a3, a4⟩ := hPN c a1
        exact Heap.new_some (by rw [Heap.del_ne _ a4]; exact a2) a3
      · obtain ⟨k, hk⟩ := hm.sp
        refine ⟨k, hk.to fun c e hc he => ⟨(hPN c hc).1, ?_⟩⟩
        rw [Heap.del_ne _ (hPN c hc).2]; exact he
    · rw [List.getElem?_set_ne (by omega)] at hx
      obtain ⟨d1, k, d2⟩ := h.done j v x (by omega) hv hx
      exact ⟨d1.le hnn, k, d2.to fun c e h he => ⟨h, hb c e he⟩⟩
  · funext x
    by_cases hx : x = b
    · subst hx; rw [Heap.put_same, Heap.put_same]
    · rw [Heap.put_ne _ _ _ hx, Heap.put_ne _ _ _ hx, Heap.del_ne _ hx]
theorem Ow.fin {A B : Heap} {b n cap : Nat} {l : List V} {xs ys : List TV} {sp : List Value} (h : Ow A H B b n l xs ys) (hn : n = l.length) (hb : H b = none) (hz : l.length ≤ 1000000) :
    Made H (B.put b (.row (ys.flatMap T_api_Value.c ++ sp))) l (Sl.of (some (b, 0)) n cap) := by
  have hBP : B.le (B.put b (.row (ys.flatMap T_api_Value.c ++ sp))) := Heap.le_put h.nb
  have hnn : (Heap.new H B).le (Heap.new H (B.put b (.row (ys.flatMap T_api_Value.c ++ sp)))) := fun x e hx => by
    obtain ⟨a, c⟩ := Heap.new_inv hx
    exact Heap.new_some (hBP _ _ c) a
  refine ⟨h.le.trans hBP, ⟨ys, .inr ⟨rfl, _, rfl, rds_row (Heap.new_some (Heap.put_same ..) hb) fun j v hj => ?_⟩, ?_, VsAre.of h.len.symm fun i v x hv hx => ?_⟩, ?_⟩
  · rw [Nat.zero_add, List.getElem?_append_left (List.getElem?_eq_some_iff.1 hj).1]; exact hj
  · show n = _; rw [hn, h.len]
  · exact (h.done i v x (by rw [hn]; exact (List.getElem?_eq_some_iff.1 hv).1) hv hx).1.le hnn
  · obtain ⟨k, hk⟩ : ∃ k, ∀ x ∈ ys, Sp (fun c => H c = none) B k x.L := Sp.all fun x hx => by
      obtain ⟨j, hj, e⟩ := List.getElem_of_mem hx
      have hl : j < l.length := by rw [← h.len]; exact hj
      exact (h.done j l[j] x (by omega) (List.getElem?_eq_getElem hl) (by rw [List.getElem?_eq_getElem hj, e])).2
    refine ⟨k + 1, .inr ⟨b, ys, sp, hb, rfl, rfl, Heap.put_same .., ⟨by show n ≤ _; rw [hn, h.len]; exact Nat.le_refl _, by rw [h.len]; exact hz⟩, fun x hx => (hk x hx).to fun c e h he => ⟨h, hBP c e he⟩⟩⟩
/-- a list that grows: what is made in it stands beside its own block -/
structure Od (H B : Heap) (l : List V) (s : Sl) (ys : List TV) : Prop where
  own : OwnF H B 4 s (ys.flatMap T_api_Value.c)
  le : ys.length ≤ l.length
  done : ∀ (j : Nat) (v : V) (x : TV), l[j]? = some v → ys[j]? = some x → VIs (Heap.new H (B.off s)) v x ∧ ∃ k, Sp (fun c => H c = none) (B.off s) k x.L
theorem Od.nil {l : List V} : Od H H l Sl.nil [] := ⟨OwnF.nil H 4, Nat.zero_le _, fun j v x _ hx => by simp at hx⟩
theorem Od.step {B B2 B3 B4 : Heap} {g : GO} {b : Nat} {l : List V} {s r t : Sl} {ys : List TV} {x : TV} (h : Od H B l s ys) (hb : B b = none) (hi : ys.length < l.length) (hm : Made (B.put b g) B2 l[ys.length].l t)
    (hx : x.Kind = l[ys.length].k ∧ x.N = l[ys.length].n ∧ x.S = l[ys.length].s) (hL : x.L = t) (h3 : Heap.but b B2 B3) (h4 : OwnF (B3.off s) B4 4 r (ys.flatMap T_api_Value.c ++ T_api_Value.c x)) : Od H B4 l r (ys ++ [x]) := by
  have hB2 : B.le B2 := (Heap.le_put hb).trans hm.le
  have hHb : H b = none := h.own.le.none hb
  have hB3 : H.le B3 := Heap.le.of_but (h.own.le.trans hB2) h3 hHb
  have hoff : (B.off s).le (B3.off s) := fun c e hc => by
    have hc' := Heap.off_le _ _ _ _ hc
    have hne : c ≠ b := fun e' => by rw [e', hb] at hc'; cases hc'
    refine Heap.off_some (h3 _ _ hne (hB2 _ _ hc')) fun p hp e' => ?_
    have := Heap.off_fresh s B p hp
    rw [e', hc] at this; cases this
  have h34 : (B3.off s).le (B4.off r) := Heap.le_off h4.le h4.fresh
  have hch : ∀ c e, (B.put b g) c = none → B2 c = some e → H c = none ∧ (B4.off r) c = some e := fun c e hn he => by
    have hne : c ≠ b := fun e' => by rw [e', Heap.put_same] at hn; cases hn
    rw [Heap.put_ne _ _ _ hne] at hn
    refine ⟨h.own.le.none hn, h34 _ _ (Heap.off_some (h3 _ _ hne he) fun p hp e' => ?_)⟩
    obtain ⟨g', hg'⟩ := h.own.own.mine hp
    rw [e', hn] at hg'; cases hg'
  have hnn : (Heap.new H (B.off s)).le (Heap.new H (B4.off r)) := fun c e hc => by
    obtain ⟨a1, a2⟩ := Heap.new_inv hc
    exact Heap.new_some (h34 _ _ (hoff _ _ a2)) a1
  refine ⟨?_, by rw [List.length_append]; exact hi, fun j v y hv hy => ?_⟩
  · have e : (ys ++ [x]).flatMap T_api_Value.c = ys.flatMap T_api_Value.c ++ T_api_Value.c x := by rw [List.flatMap_append, List.flatMap_singleton]
    rw [e]
    exact h4.down (Heap.le_off hB3 h.own.fresh)
  · by_cases hj : j < ys.length
    · rw [List.getElem?_append_left hj] at hy
      obtain ⟨d1, k, d2⟩ := h.done j v y hv hy
      exact ⟨d1.le hnn, k, d2.to fun c e h he => ⟨h, h34 _ _ (hoff _ _ he)⟩⟩
    · have hjl := (List.getElem?_eq_some_iff.1 hy).1
      rw [List.length_append, List.length_singleton] at hjl
      have hje : j = ys.length := by omega
      subst hje
      rw [List.getElem?_append_right (Nat.le_refl _), Nat.sub_self] at hy
      simp only [List.getElem?_cons_zero, Option.some.injEq] at hy
      rw [List.getElem?_eq_getElem hi] at hv
      have hv := Option.some.inj hv
      subst hy; subst hv
      refine ⟨VIs_iff.2 ⟨hx.1, hx.2.1, hx.2.2, ?_⟩, ?_⟩
      · rw [hL]
        refine hm.row.le fun c e hc => ?_
        obtain ⟨a1, a2⟩ := Heap.new_inv hc
        obtain ⟨a3, a4⟩ := hch c e a1 a2
        exact Heap.new_some a4 a3
      · obtain ⟨k, hk⟩ := hm.sp
        rw [hL]
        exact ⟨k, hk.to fun c e h he => hch c e h he⟩
theorem Od.fin {B : Heap} {l : List V} {s : Sl} {ys : List TV} (h : Od H B l s ys) (hn : ys.length = l.length) (hz : l.length ≤ 1000000) : Made H B l s := by
  have hnn : (Heap.new H (B.off s)).le (Heap.new H B) := fun x e hx => by
    obtain ⟨a, c⟩ := Heap.new_inv hx
    exact Heap.new_some (Heap.off_le _ _ _ _ c) a
  have hf := flat4 ys
  obtain ⟨o1, o2, o3, o4⟩ := h.own.own
  have hlen : s.len = ys.length := by omega
  have hvs : VsAre (Heap.new H B) l ys := VsAre.of hn.symm fun i v x hv hx => (h.done i v x hv hx).1.le hnn
  refine ⟨h.own.le, ⟨ys, ?_, hlen, hvs⟩, ?_⟩
  · rcases o4 with ⟨p0, c0⟩ | ⟨b, sp, hp, hb, hc⟩
    · left
      have : ys.length = 0 := by omega
      rw [List.length_eq_zero_iff.1 this]; rfl
    · refine .inr ⟨o2, _, hp, rds_row (Heap.new_some hb (h.own.fresh _ hp)) fun j v hj => ?_⟩
      rw [Nat.zero_add, List.getElem?_append_left (List.getElem?_eq_some_iff.1 hj).1]; exact hj
  · obtain ⟨k, hk⟩ : ∃ k, ∀ x ∈ ys, Sp (fun c => H c = none) B k x.L := Sp.all fun x hx => by
      obtain ⟨j, hj, e⟩ := List.getElem_of_mem hx
      have hl : j < l.length := by rw [← hn]; exact hj
      obtain ⟨_, k, hk⟩ := h.done j l[j] x (List.getElem?_eq_getElem hl) (by rw [List.getElem?_eq_getElem hj, e])
      exact ⟨k, hk.to fun c e h he => ⟨h, Heap.off_le _ _ _ _ he⟩⟩
    refine ⟨k + 1, ?_⟩
    rcases o4 with ⟨p0, c0⟩ | ⟨b, sp, hp, hb, hc⟩
    · exact .inl (by omega)
    · exact .inr ⟨b, ys, sp, h.own.fresh _ hp, hp, o2, hb, ⟨by omega, by omega⟩, hk⟩
/-- a list of rows that grows, each a copy -/
structure Og (H B : Heap) (ls : List (List V)) (s : Sl) (ys : List Sl) : Prop where
  own : OwnF H B 1 s (ys.map slv)
  le : ys.length ≤ ls.length
  done : ∀ (j : Nat) (l : List V) (y : Sl), ls[j]? = some l → ys[j]? = some y → Made H (B.off s) l y
theorem Og.nil {ls : List (List V)} : Og H H ls Sl.nil [] := ⟨OwnF.nil H 1, Nat.zero_le _, fun j l y _ hy => by simp at hy⟩
theorem Made.off {B : Heap} {l : List V} {s t : Sl} (h : Made B H2 l t) (hle : H.le B) (hf : Fresh H s) (hs : ∀ p, s.p = some p → ∃ g, B p.1 = some (true, g)) : Made H (H2.off s) l t := by
  have hne : ∀ c, B c = none → ∀ p, s.p = some p → p.1 ≠ c := fun c hc p hp e => by
    obtain ⟨g, hg⟩ := hs p hp
    rw [e, hc] at hg; cases hg
  refine ⟨Heap.le_off (hle.trans h.le) hf, h.row.le fun c e hc => ?_, ?_⟩
  · obtain ⟨a, b⟩ := Heap.new_inv hc
    exact Heap.new_some (Heap.off_some b (hne c a)) (hle.none a)
  · obtain ⟨k, hk⟩ := h.sp
    exact ⟨k, hk.to fun c e hc he => ⟨hle.none hc, Heap.off_some he (hne c hc)⟩⟩
theorem Og.step {B B2 B4 : Heap} {ls : List (List V)} {s r t : Sl} {ys : List Sl} (h : Og H B ls s ys) (hi : ys.length < ls.length) (hm : Made B B2 ls[ys.length] t) (h4 : OwnF (B2.off s) B4 1 r (ys.map slv ++ [slv t])) : Og H B4 ls r (ys ++ [t]) := by
  have hoff : H.le (B2.off s) := Heap.le_off (h.own.le.trans hm.le) h.own.fresh
  have h34 : (B2.off s).le (B4.off r) := Heap.le_off h4.le h4.fresh
  have h12 : (B.off s).le (B2.off s) := Heap.le_off ((Heap.off_le s B).trans hm.le) (Heap.off_fresh s B)
  refine ⟨?_, by rw [List.length_append]; exact hi, fun j l y hl hy => ?_⟩
  · have e : (ys ++ [t]).map slv = ys.map slv ++ [slv t] := by simp
    rw [e]; exact h4.down hoff
  · by_cases hj : j < ys.length
    · rw [List.getElem?_append_left hj] at hy
      exact (h.done j l y hl hy).up (h12.trans h34)
    · have hjl := (List.getElem?_eq_some_iff.1 hy).1
      rw [List.length_append, List.length_singleton] at hjl
      have hje : j = ys.length := by omega
      subst hje
      rw [List.getElem?_append_right (Nat.le_refl _), Nat.sub_self] at hy
      simp only [List.getElem?_cons_zero, Option.some.injEq] at hy
      rw [List.getElem?_eq_getElem hi] at hl
      have hl := Option.some.inj hl
      subst hy; subst hl
      exact (hm.off h.own.le h.own.fresh fun p hp => h.own.own.mine hp).up h34
/-- rows in order, each once, in memory of their own -/
structure Srt (H H2 : Heap) (ls : List (List V)) (t : Sl) (A : List (Sl × (List V × Nat))) : Prop where
  own : OwnF H H2 1 t (A.map fun e => slv e.1)
  row : ∀ e ∈ A, Made H (H2.off t) e.2.1 e.1
  rep : Rep (fun a b => cmpR a.1 b.1) (fun a => a.2) ls.zipIdx (A.map fun e => e.2)
  few : A.length ≤ ls.length

theorem splice_c {y : TV} : ∀ (xs : List TV) (sp : List Value) (i : Nat), ∃ (xs1 : List TV) (sp1 : List Value), splice (xs.flatMap T_api_Value.c ++ sp) (i * 4) (T_api_Value.c y) = xs1.flatMap T_api_Value.c ++ sp1 ∧ xs1.length = xs.length ∧ ∀ x ∈ xs1, x ∈ xs ∨ x = y
  | [], sp, i => ⟨[], splice sp (i * 4) (T_api_Value.c y), rfl, rfl, fun x hx => by cases hx⟩
  | x :: xs, sp, 0 => ⟨y :: xs, sp, rfl, rfl, fun z hz => by
      rcases List.mem_cons.1 hz with rfl | hz
      · exact .inr rfl
      · exact .inl (List.mem_cons_of_mem _ hz)⟩
  | x :: xs, sp, i + 1 => by
    obtain ⟨xs1, sp1, h1, h2, h3⟩ := splice_c (y := y) xs sp i
    refine ⟨x :: xs1, sp1, ?_, by simp [h2], fun z hz => ?_⟩
    · rw [List.flatMap_cons, List.flatMap_cons, List.append_assoc, List.append_assoc, ← h1]
      have e : (i + 1) * 4 = (T_api_Value.c x).length + i * 4 := by rw [TV.c_len]; omega
      unfold splice
      rw [e, List.take_length_add_append, Nat.add_assoc, List.drop_length_add_append]
      simp only [List.append_assoc]
    · rcases List.mem_cons.1 hz with rfl | hz
      · exact .inl (List.mem_cons_self ..)
      · exact (h3 z hz).imp (List.mem_cons_of_mem _) id
/-- a value written over in a row keeps all rows such -/
theorem Sp.put {b i : Nat} {cs : List Value} {y : TV} (hb : H b = some (true, .row cs)) (hy : y.L.len = 0) : ∀ {k : Nat} {t : Sl}, Sp N H k t → Sp N (H.put b (.row (splice cs (i * 4) (T_api_Value.c y)))) k t
  | 0, t, h => h
  | k + 1, t, .inl h => .inl h
  | k + 1, t, .inr ⟨c, xs, sp, h1, h2, h3, h4, h5, h6⟩ => by
    by_cases hc : c = b
    · subst hc
      rw [h4] at hb
      injection hb with hb; injection hb with _ hb; injection hb with hb
      subst hb
      obtain ⟨xs1, sp1, e1, e2, e3⟩ := splice_c (y := y) xs sp i
      refine .inr ⟨c, xs1, sp1, h1, h2, h3, by rw [Heap.put_same, e1], by rw [e2]; exact h5, fun x hx => ?_⟩
      rcases e3 x hx with hx | rfl
      · exact Sp.put h4 hy (h6 x hx)
      · exact Sp.nil k hy
    · exact .inr ⟨c, xs, sp, h1, h2, h3, by rw [Heap.put_ne _ _ _ hc]; exact h4, h5, fun x hx => Sp.put hb hy (h6 x hx)⟩
end
end Sx
end

noncomputable section
set_option linter.unusedVariables false
set_option linter.unusedSimpArgs false
set_option maxRecDepth 10000
namespace Sx
open Go
def hexD (k : Nat) : UInt8 := if k < 10 then UInt8.ofNat (48 + k) else UInt8.ofNat (87 + k)
def qC (c : UInt8) : Str :=
  if c = 34 ∨ c = 92 then [92, c] else if c = 10 then [92, 110] else if c = 9 then [92, 116]
  else if 32 ≤ c.toNat ∧ c.toNat ≤ 126 then [c] else [92, 120, hexD (c.toNat / 16), hexD (c.toNat % 16)]
def quoteS (s : Str) : Str := 34 :: (s.flatMap qC ++ [34])
mutual
def showV : V → Str
  | .mk k n s l => if k = 1 then (if n = 1 then trueS else falseS) else if k = 2 then Lib.itoa n else if k = 3 then s ++ [98] else if k = 4 then quoteS s
    else if k = 5 then 40 :: (showR true l ++ [41]) else s ++ (if l.length = 0 then [] else 40 :: (showR true l ++ [41]))
def showR : Bool → List V → Str
  | _, [] => []
  | f, v :: l => (if f then [] else [44, 32]) ++ (showV v ++ showR false l)
end
theorem showR_snoc : ∀ (l : List V) (f : Bool) (v : V), showR f (l ++ [v]) = showR f l ++ ((if f && l.isEmpty then [] else [44, 32]) ++ showV v)
  | [], f, v => by cases f <;> simp [showR]
  | w :: l, f, v => by
    rw [List.cons_append]
    simp only [showR, showR_snoc l false v, List.isEmpty_cons, Bool.and_false, Bool.false_and, Bool.false_eq_true, if_false, List.append_assoc]
theorem showR_append : ∀ (a b : List V) (f : Bool), showR f (a ++ b) = showR f a ++ showR (f && a.isEmpty) b
  | [], b, f => by simp [showR]
  | v :: a, b, f => by
    rw [List.cons_append]
    simp only [showR, showR_append a b false, List.isEmpty_cons, Bool.and_false, Bool.false_and, List.append_assoc]
theorem showR_pre (l : List V) (i : Nat) : (showR true (l.take i)).length ≤ (showR true l).length := by
  have := congrArg List.length (showR_append (l.take i) (l.drop i) true)
  rw [List.take_append_drop, List.length_append] at this
  omega
theorem showR_take {l : List V} {i : Nat} (h : i < l.length) : showR true (l.take (i + 1)) = showR true (l.take i) ++ ((if i = 0 then [] else [44, 32]) ++ showV l[i]) := by
  rw [List.take_add_one, List.getElem?_eq_getElem h, Option.toList_some, showR_snoc]
  congr 2
  have e : (l.take i).isEmpty = decide (i = 0) := by
    rw [Bool.eq_iff_iff, List.isEmpty_iff, decide_eq_true_iff]
    refine ⟨fun h2 => ?_, fun h2 => by rw [h2]; rfl⟩
    have := congrArg List.length h2
    rw [List.length_take, List.length_nil] at this; omega
  rw [Bool.true_and, e]
  by_cases hi : i = 0 <;> simp [hi]

theorem ofNat_toNat {n : Nat} (h : n < 256) : (UInt8.ofNat n).toNat = n := by rw [UInt8.toNat_ofNat']; omega
def valN (l : Str) : Nat := l.foldl (fun a c => 10 * a + (c.toNat - 48)) 0
theorem dd_val (u : Nat) : valN (Lib.decDigits u) = u := by
  induction u using Nat.strongRecOn with
  | _ u ih =>
    rw [Lib.decDigits]
    split
    · rename_i h
      have := ofNat_toNat (n := 48 + u) (by omega)
      simp only [valN, List.foldl_cons, List.foldl_nil, this]; omega
    · rename_i h
      have e := ih (u / 10) (by omega)
      have := ofNat_toNat (n := 48 + u % 10) (by omega)
      unfold valN at e ⊢
      rw [List.foldl_append, e]
      simp only [List.foldl_cons, List.foldl_nil, this]; omega
theorem dd_dig (u : Nat) : (∀ c ∈ Lib.decDigits u, digC c = true) ∧ Lib.decDigits u ≠ [] := by
  induction u using Nat.strongRecOn with
  | _ u ih =>
    rw [Lib.decDigits]
    split
    · rename_i h
      refine ⟨fun c hc => ?_, by simp⟩
      rw [List.mem_singleton] at hc
      subst hc
      have := ofNat_toNat (n := 48 + u) (by omega)
      unfold digC
      rw [this]
      simp only [Bool.and_eq_true, decide_eq_true_eq]; omega
    · rename_i h
      refine ⟨fun c hc => ?_, by simp⟩
      rw [List.mem_append, List.mem_singleton] at hc
      rcases hc with hc | rfl
      · exact (ih (u / 10) (by omega)).1 c hc
      · have := ofNat_toNat (n := 48 + u % 10) (by omega)
        unfold digC
        rw [this]
        simp only [Bool.and_eq_true, decide_eq_true_eq]; omega
theorem dd_inj {u v : Nat} (h : Lib.decDigits u = Lib.decDigits v) : u = v := by rw [← dd_val u, h, dd_val v]
theorem itoa_inj {m n : Int} (h : Lib.itoa m = Lib.itoa n) : m = n := by
  have ne : ∀ u v : Nat, (45 : UInt8) :: Lib.decDigits u ≠ Lib.decDigits v := fun u v e => by
    have := (dd_dig v).1 45 (by rw [← e]; exact List.mem_cons_self ..)
    exact absurd this (by decide)
  unfold Lib.itoa at h
  split at h <;> split at h
  · injection h with _ h
    have := dd_inj h; omega
  · exact absurd h (ne _ _)
  · exact absurd h.symm (ne _ _)
  · have := dd_inj h; omega
theorem itoa_mem {n : Int} {c : UInt8} (h : c ∈ Lib.itoa n) : digC c = true ∨ c = 45 := by
  unfold Lib.itoa at h
  split at h
  · rcases List.mem_cons.1 h with h | h
    · exact .inr h
    · exact .inl ((dd_dig _).1 c h)
  · exact .inl ((dd_dig _).1 c h)
theorem itoa_ne (n : Int) : Lib.itoa n ≠ [] := by
  unfold Lib.itoa
  split
  · simp
  · exact (dd_dig _).2
theorem itoa_last (n : Int) : (Lib.itoa n).getLast? ≠ some 98 := fun h => by
  have hm := List.mem_of_getLast? h
  rcases itoa_mem hm with h | h
  · exact absurd h (by decide)
  · exact absurd h (by decide)

def stopC (c : UInt8) : Bool := c == 40 || c == 41 || c == 44 || c == 59 || c == 34
def tok : V → Str
  | .mk k n s l => if k = 1 then (if n = 1 then trueS else falseS) else if k = 2 then Lib.itoa n else if k = 3 then s ++ [98] else if k = 5 then [] else s
def rst : V → Str
  | .mk k n s l => if k = 5 ∨ (k = 6 ∧ l.length ≠ 0) then 40 :: (showR true l ++ [41]) else []
def kindT (t : Str) : Int := if t = [] then 5 else if lowC (t.headD 0) = true then (if t = trueS ∨ t = falseS then 1 else 6) else if t.getLast? = some 98 then 3 else 2
theorem ok_cases {v : V} (h : formV v = true) : formVs v.l = true ∧ ((v.k = 1 ∧ (v.n = 0 ∨ v.n = 1) ∧ v.s = [] ∧ v.l = []) ∨ (v.k = 2 ∧ v.s = [] ∧ v.l = []) ∨ (v.k = 3 ∧ numS v.s = true ∧ v.n = 0 ∧ v.l = []) ∨ (v.k = 4 ∧ v.n = 0 ∧ v.l = []) ∨
    (v.k = 5 ∧ v.n = 0 ∧ v.s = []) ∨ (v.k = 6 ∧ v.n = 0 ∧ namesS v.s = true)) := by
  rw [formV_eq, Bool.and_eq_true] at h
  obtain ⟨h, h2⟩ := h
  refine ⟨h2, ?_⟩
  unfold okN at h
  split at h
  · rename_i hk
    simp only [Bool.and_eq_true, Bool.or_eq_true, beq_iff_eq, List.isEmpty_iff, decide_eq_true_eq, List.length_eq_zero_iff] at h
    exact .inl ⟨hk, h.1.1, h.1.2, h.2⟩
  split at h
  · rename_i hk
    simp only [Bool.and_eq_true, beq_iff_eq, List.isEmpty_iff, decide_eq_true_eq, List.length_eq_zero_iff] at h
    exact .inr (.inl ⟨hk, h.1, h.2⟩)
  split at h
  · rename_i hk
    simp only [Bool.and_eq_true, beq_iff_eq, decide_eq_true_eq, List.length_eq_zero_iff] at h
    exact .inr (.inr (.inl ⟨hk, h.1.1, h.1.2, h.2⟩))
  split at h
  · rename_i hk
    simp only [Bool.and_eq_true, beq_iff_eq, decide_eq_true_eq, List.length_eq_zero_iff] at h
    exact .inr (.inr (.inr (.inl ⟨hk, h.1, h.2⟩)))
  split at h
  · rename_i hk
    simp only [Bool.and_eq_true, beq_iff_eq, List.isEmpty_iff] at h
    exact .inr (.inr (.inr (.inr (.inl ⟨hk, h.1.1, h.1.2⟩))))
  split at h
  · rename_i hk
    simp only [Bool.and_eq_true, beq_iff_eq] at h
    exact .inr (.inr (.inr (.inr (.inr ⟨hk, h.1, h.2⟩))))
  · cases h
theorem show_tok {v : V} (h : formV v = true) (h4 : v.k ≠ 4) : showV v = tok v ++ rst v := by
  have hc := (ok_cases h).2
  obtain ⟨k, n, s, l⟩ := v
  simp only [V.k, V.n, V.s, V.l] at hc h4
  simp only [showV, tok, rst]
  rcases hc with ⟨rfl, _, _, rfl⟩ | ⟨rfl, _, rfl⟩ | ⟨rfl, _, _, rfl⟩ | ⟨rfl, _⟩ | ⟨rfl, _⟩ | ⟨rfl, _⟩
  · simp
  · simp
  · simp
  · exact absurd rfl h4
  · simp
  · by_cases hl : l.length = 0 <;> simp [hl]
theorem nameC_stop {c : UInt8} (h : nameC c = true) : stopC c = false := by
  simp only [nameC, lowC, Bool.or_eq_true, Bool.and_eq_true, decide_eq_true_eq] at h
  unfold stopC
  simp only [Bool.or_eq_false_iff, beq_eq_false_iff_ne]
  refine ⟨⟨⟨⟨?_, ?_⟩, ?_⟩, ?_⟩, ?_⟩ <;> (rintro rfl; revert h; decide)
theorem digC_stop {c : UInt8} (h : digC c = true) : stopC c = false := nameC_stop (by
  simp only [digC, Bool.and_eq_true, decide_eq_true_eq] at h
  simp only [nameC, Bool.or_eq_true, Bool.and_eq_true, decide_eq_true_eq]
  exact .inl (.inr h))
theorem nameS_parts {s : Str} (h : nameS s = true) : s ≠ [] ∧ s.length ≤ 32 ∧ lowC (s.headD 0) = true ∧ ∀ c ∈ s, nameC c = true := by
  simp only [nameS, Bool.and_eq_true, Bool.not_eq_true', List.isEmpty_eq_false_iff, decide_eq_true_eq, List.all_eq_true] at h
  exact ⟨h.1.1.1, h.1.1.2, h.1.2, h.2⟩
theorem namesS_parts {s : Str} (h : namesS s = true) : s ≠ trueS ∧ s ≠ falseS ∧ s ≠ [] ∧ s.length ≤ 65 ∧ lowC (s.headD 0) = true ∧ ∀ c ∈ s, stopC c = false := by
  unfold namesS at h
  split at h
  · cases h
  rename_i hne
  refine ⟨fun e => hne (.inl e), fun e => hne (.inr e), ?_⟩
  split at h
  · rename_i a b hab
    rw [Bool.and_eq_true] at h
    obtain ⟨h1, h2, h3, h4⟩ := nameS_parts h.1
    obtain ⟨g1, g2, g3, g4⟩ := nameS_parts h.2
    have hs : s = a ++ 46 :: b := by
      by_cases hm : (46 : UInt8) ∈ s
      · obtain ⟨x, y, e1, e2⟩ := cutD_mem s hm
        rw [e1, cutD_at x y e2] at hab
        injection hab with hab; injection hab with e3 e4
        rw [e1, e3, e4]
      · rw [cutD_no s hm] at hab; cases hab
    rw [hs]
    refine ⟨by simp, by rw [List.length_append, List.length_cons]; omega, ?_, fun c hc => ?_⟩
    · cases a with
      | nil => exact absurd rfl h1
      | cons x a => exact h3
    · rw [List.mem_append, List.mem_cons] at hc
      rcases hc with hc | rfl | hc
      · exact nameC_stop (h4 c hc)
      · rfl
      · exact nameC_stop (g4 c hc)
  · obtain ⟨h1, h2, h3, h4⟩ := nameS_parts h
    exact ⟨h1, by omega, h3, fun c hc => nameC_stop (h4 c hc)⟩
theorem numS_parts {s : Str} (h : numS s = true) : s ≠ [] ∧ (∀ c ∈ s, digC c = true ∨ c = 45) ∧ s.length ≤ digits s + 1 := by
  simp only [numS, Bool.and_eq_true, Bool.not_eq_true', List.isEmpty_eq_false_iff, List.all_eq_true] at h
  obtain ⟨⟨h1, h2⟩, h3⟩ := h
  unfold digits
  unfold unmin at h1 h2 ⊢
  split at h1
  · rename_i hh
    rw [if_pos hh] at h2 ⊢
    cases s with
    | nil => cases hh
    | cons c s =>
      simp only [List.head?_cons, Option.some.injEq] at hh
      subst hh
      refine ⟨by simp, fun d hd => ?_, by simp⟩
      rcases List.mem_cons.1 hd with rfl | hd
      · exact .inr rfl
      · exact .inl (h2 d hd)
  · rename_i hh
    rw [if_neg hh] at h2 ⊢
    exact ⟨h1, fun d hd => .inl (h2 d hd), by omega⟩
theorem numC_stop {c : UInt8} (h : digC c = true ∨ c = 45) : stopC c = false ∧ lowC c = false := by
  rcases h with h | rfl
  · refine ⟨digC_stop h, ?_⟩
    simp only [digC, Bool.and_eq_true, decide_eq_true_eq] at h
    simp only [lowC, Bool.and_eq_false_iff, decide_eq_false_iff_not]; omega
  · exact ⟨rfl, rfl⟩
theorem headD_mem : ∀ {s : Str}, s ≠ [] → s.headD 0 ∈ s
  | [], h => absurd rfl h
  | c :: s, _ => List.mem_cons_self ..
theorem tok_free {v : V} (h : formV v = true) (h4 : v.k ≠ 4) : ∀ c ∈ tok v, stopC c = false := by
  have hc := (ok_cases h).2
  obtain ⟨k, n, s, l⟩ := v
  simp only [V.k, V.n, V.s, V.l] at hc h4
  intro c hm
  simp only [tok] at hm
  rcases hc with ⟨rfl, _, _, rfl⟩ | ⟨rfl, _, rfl⟩ | ⟨rfl, hn, _, rfl⟩ | ⟨rfl, _⟩ | ⟨rfl, _⟩ | ⟨rfl, _, hn⟩
  · rw [if_pos rfl] at hm
    split at hm
    · exact (by decide : ∀ c ∈ trueS, stopC c = false) c hm
    · exact (by decide : ∀ c ∈ falseS, stopC c = false) c hm
  · exact (numC_stop (itoa_mem (by simpa using hm))).1
  · have hm : c ∈ s ∨ c = 98 := by simpa using hm
    rcases hm with hm | rfl
    · exact (numC_stop ((numS_parts hn).2.1 c hm)).1
    · rfl
  · exact absurd rfl h4
  · simp at hm
  · exact (namesS_parts hn).2.2.2.2.2 c (by simpa using hm)
theorem kind_tok {v : V} (h : formV v = true) (h4 : v.k ≠ 4) : kindT (tok v) = v.k := by
  have hc := (ok_cases h).2
  obtain ⟨k, n, s, l⟩ := v
  simp only [V.k, V.n, V.s, V.l] at hc h4 ⊢
  simp only [tok]
  rcases hc with ⟨rfl, hn, rfl, rfl⟩ | ⟨rfl, _, rfl⟩ | ⟨rfl, hn, _, rfl⟩ | ⟨rfl, _⟩ | ⟨rfl, _⟩ | ⟨rfl, _, hn⟩
  · rcases hn with rfl | rfl <;> decide
  · have e : (if (2 : Int) = 1 then (if n = 1 then trueS else falseS) else if (2 : Int) = 2 then Lib.itoa n else if (2 : Int) = 3 then s ++ [98] else if (2 : Int) = 5 then [] else s) = Lib.itoa n := by simp
    rw [e]
    unfold kindT
    have hlow := (numC_stop (itoa_mem (headD_mem (itoa_ne n)))).2
    rw [if_neg (itoa_ne n), if_neg (by rw [hlow]; decide), if_neg (itoa_last n)]
  · have e : (if (3 : Int) = 1 then (if n = 1 then trueS else falseS) else if (3 : Int) = 2 then Lib.itoa n else if (3 : Int) = 3 then s ++ [98] else if (3 : Int) = 5 then [] else s) = s ++ [98] := by simp
    rw [e]
    obtain ⟨q1, q2, _⟩ := numS_parts hn
    have hlow : lowC ((s ++ [98]).headD 0) = false := by
      cases s with
      | nil => exact absurd rfl q1
      | cons c s => exact (numC_stop (q2 c (List.mem_cons_self ..))).2
    unfold kindT
    rw [if_neg (by simp), if_neg (by rw [hlow]; decide), if_pos (by simp)]
  · exact absurd rfl h4
  · simp [kindT]
  · have e : (if (6 : Int) = 1 then (if n = 1 then trueS else falseS) else if (6 : Int) = 2 then Lib.itoa n else if (6 : Int) = 3 then s ++ [98] else if (6 : Int) = 5 then [] else s) = s := by simp
    rw [e]
    obtain ⟨q1, q2, q3, _, q5, _⟩ := namesS_parts hn
    unfold kindT
    rw [if_neg q3, if_pos q5, if_neg (fun h => h.elim q1 q2)]
theorem tok_split : ∀ {a b x y : Str}, (∀ c ∈ a, stopC c = false) → (∀ c ∈ b, stopC c = false) → (x = [] ∨ ∃ c t, x = c :: t ∧ stopC c = true) → (y = [] ∨ ∃ c t, y = c :: t ∧ stopC c = true) → a ++ x = b ++ y → a = b ∧ x = y
  | [], [], x, y, _, _, _, _, e => ⟨rfl, e⟩
  | [], d :: b, x, y, _, hb, hx, _, e => by
    rcases hx with rfl | ⟨c, t, rfl, hc⟩
    · simp at e
    · injection e with e1 _
      rw [e1, hb d (List.mem_cons_self ..)] at hc; cases hc
  | d :: a, [], x, y, ha, _, _, hy, e => by
    rcases hy with rfl | ⟨c, t, rfl, hc⟩
    · simp at e
    · injection e with e1 _
      rw [← e1, ha d (List.mem_cons_self ..)] at hc; cases hc
  | c :: a, d :: b, x, y, ha, hb, hx, hy, e => by
    injection e with e1 e2
    obtain ⟨q1, q2⟩ := tok_split (fun c hc => ha c (List.mem_cons_of_mem _ hc)) (fun c hc => hb c (List.mem_cons_of_mem _ hc)) hx hy e2
    exact ⟨by rw [e1, q1], q2⟩

theorem hex_val : ∀ k : Fin 16, hexD k.val ≠ 34 ∧ ∀ j : Fin 16, hexD k.val = hexD j.val → k = j := by decide
theorem hexD_inj {i j : Nat} (hi : i < 16) (hj : j < 16) (h : hexD i = hexD j) : i = j := by
  have := (hex_val ⟨i, hi⟩).2 ⟨j, hj⟩ h
  exact congrArg Fin.val this
theorem qC_shape (c : UInt8) : ((c = 34 ∨ c = 92) ∧ qC c = [92, c]) ∨ (c = 10 ∧ qC c = [92, 110]) ∨ (c = 9 ∧ qC c = [92, 116]) ∨ (c ≠ 34 ∧ c ≠ 92 ∧ qC c = [c]) ∨ qC c = [92, 120, hexD (c.toNat / 16), hexD (c.toNat % 16)] := by
  unfold qC
  by_cases h1 : c = 34 ∨ c = 92
  · rw [if_pos h1]; exact .inl ⟨h1, rfl⟩
  rw [if_neg h1]
  by_cases h2 : c = 10
  · rw [if_pos h2]; exact .inr (.inl ⟨h2, rfl⟩)
  rw [if_neg h2]
  by_cases h3 : c = 9
  · rw [if_pos h3]; exact .inr (.inr (.inl ⟨h3, rfl⟩))
  rw [if_neg h3]
  split
  · exact .inr (.inr (.inr (.inl ⟨fun e => h1 (.inl e), fun e => h1 (.inr e), rfl⟩)))
  · exact .inr (.inr (.inr (.inr rfl)))
theorem u8_eq {c d : UInt8} (h : c.toNat = d.toNat) : c = d := UInt8.toNat_inj.1 h
theorem qC_inj {c d : UInt8} {x y : Str} (h : qC c ++ x = qC d ++ y) : c = d ∧ x = y := by
  rcases qC_shape c with ⟨hc, e⟩ | ⟨hc, e⟩ | ⟨hc, e⟩ | ⟨hc, hc2, e⟩ | e <;> rcases qC_shape d with ⟨hd, f⟩ | ⟨hd, f⟩ | ⟨hd, f⟩ | ⟨hd, hd2, f⟩ | f <;> rw [e, f] at h <;> simp only [List.cons_append, List.nil_append, List.cons.injEq] at h
  case inr.inr.inr.inr.inr.inr.inr.inr =>
    obtain ⟨_, _, h1, h2, h3⟩ := h
    have hc := c.toNat_lt; have hd := d.toNat_lt
    have := hexD_inj (by omega) (by omega) h1
    have := hexD_inj (by omega) (by omega) h2
    exact ⟨u8_eq (by omega), h3⟩
  case inl.inl => exact ⟨h.2.1, h.2.2⟩
  case inr.inr.inr.inl.inr.inr.inr.inl => exact h
  case inr.inl.inr.inl => exact ⟨by rw [hc, hd], h.2.2⟩
  case inr.inr.inl.inr.inr.inl => exact ⟨by rw [hc, hd], h.2.2⟩
  all_goals exfalso
  all_goals first
    | (obtain ⟨_, h1, _⟩ := h; subst_vars; simp_all; done)
    | (obtain ⟨h1, _⟩ := h; subst_vars; simp_all; done)
    | (obtain ⟨_, h1, _⟩ := h; rcases hc with rfl | rfl <;> simp_all; done)
    | (obtain ⟨_, h1, _⟩ := h; rcases hd with rfl | rfl <;> simp_all; done)
theorem qC_head (c : UInt8) : ∃ d t, qC c = d :: t ∧ d ≠ 34 := by
  rcases qC_shape c with ⟨_, e⟩ | ⟨_, e⟩ | ⟨_, e⟩ | ⟨h, _, e⟩ | e
  · exact ⟨_, _, e, by decide⟩
  · exact ⟨_, _, e, by decide⟩
  · exact ⟨_, _, e, by decide⟩
  · exact ⟨_, _, e, h⟩
  · exact ⟨_, _, e, by decide⟩
theorem qs_inj : ∀ {s t x y : Str}, s.flatMap qC ++ 34 :: x = t.flatMap qC ++ 34 :: y → s = t ∧ x = y
  | [], [], x, y, h => ⟨rfl, by injection h⟩
  | [], d :: t, x, y, h => by
    obtain ⟨e, u, h1, h2⟩ := qC_head d
    rw [List.flatMap_cons, h1] at h
    injection h with h _
    exact absurd h.symm h2
  | c :: s, [], x, y, h => by
    obtain ⟨e, u, h1, h2⟩ := qC_head c
    rw [List.flatMap_cons, h1] at h
    injection h with h _
    exact absurd h h2
  | c :: s, d :: t, x, y, h => by
    rw [List.flatMap_cons, List.flatMap_cons, List.append_assoc, List.append_assoc] at h
    obtain ⟨h1, h2⟩ := qC_inj h
    obtain ⟨h3, h4⟩ := qs_inj h2
    exact ⟨by rw [h1, h3], h4⟩

def EndS (r : Str) : Prop := r = [] ∨ ∃ c t, r = c :: t ∧ (c = 41 ∨ c = 44 ∨ c = 59)
theorem EndS.stop {r : Str} (h : EndS r) : r = [] ∨ ∃ c t, r = c :: t ∧ stopC c = true := h.imp id fun ⟨c, t, e, hc⟩ => ⟨c, t, e, by rcases hc with rfl | rfl | rfl <;> rfl⟩
theorem EndS.ne40 {r t : Str} (h : EndS r) : r ≠ 40 :: t := fun e => by
  rcases h with rfl | ⟨c, t', rfl, hc⟩
  · cases e
  · injection e with e _; subst e; revert hc; decide
theorem show_head {v : V} (h : formV v = true) : ∃ c t, showV v = c :: t ∧ c ≠ 41 ∧ (v.k ≠ 4 → c ≠ 34) := by
  by_cases h4 : v.k = 4
  · obtain ⟨k, n, s, l⟩ := v
    simp only [V.k] at h4
    subst h4
    exact ⟨34, s.flatMap qC ++ [34], by simp [showV, quoteS], by decide, fun h => absurd rfl h⟩
  · rw [show_tok h h4]
    have hf := tok_free h h4
    cases ht : tok v with
    | cons c t =>
      have := hf c (by rw [ht]; exact List.mem_cons_self ..)
      exact ⟨c, t ++ rst v, rfl, (fun e => by rw [e] at this; cases this), (fun _ e => by rw [e] at this; cases this)⟩
    | nil =>
      have hk := kind_tok h h4
      rw [ht] at hk
      have hk : v.k = 5 := hk.symm
      obtain ⟨k, n, s, l⟩ := v
      simp only [V.k] at hk
      subst hk
      exact ⟨40, showR true l ++ [41], by simp [rst], by decide, fun _ => by decide⟩
theorem rst_stop (v : V) (r : Str) (hr : EndS r) : rst v ++ r = [] ∨ ∃ c t, rst v ++ r = c :: t ∧ stopC c = true := by
  obtain ⟨k, n, s, l⟩ := v
  simp only [rst]
  split
  · exact .inr ⟨40, _, rfl, rfl⟩
  · exact hr.stop
theorem showR_inj : ∀ (l : List V), (∀ v ∈ l, ∀ (w : V) (r r' : Str), formV v = true → formV w = true → EndS r → EndS r' → showV v ++ r = showV w ++ r' → v = w ∧ r = r') →
    ∀ (f : Bool) (l' : List V) (r r' : Str), formVs l = true → formVs l' = true → showR f l ++ 41 :: r = showR f l' ++ 41 :: r' → l = l' ∧ r = r'
  | [], _, f, [], r, r', _, _, e => ⟨rfl, by simpa [showR] using e⟩
  | [], _, f, w :: l', r, r', _, h2, e => by
    exfalso
    simp only [formVs, Bool.and_eq_true] at h2
    obtain ⟨c, t, hw, hc, _⟩ := show_head h2.1
    simp only [showR, List.nil_append] at e
    cases f with
    | true =>
      rw [hw] at e
      simp only [if_true, List.nil_append, List.cons_append, List.cons.injEq] at e
      exact hc e.1.symm
    | false => simp at e
  | v :: l, _, f, [], r, r', h1, _, e => by
    exfalso
    simp only [formVs, Bool.and_eq_true] at h1
    obtain ⟨c, t, hw, hc, _⟩ := show_head h1.1
    simp only [showR, List.nil_append] at e
    cases f with
    | true =>
      rw [hw] at e
      simp only [if_true, List.nil_append, List.cons_append, List.cons.injEq] at e
      exact hc e.1
    | false => simp at e
  | v :: l, ih, f, w :: l', r, r', h1, h2, e => by
    simp only [formVs, Bool.and_eq_true] at h1 h2
    simp only [showR, List.append_assoc] at e
    have e := List.append_cancel_left e
    have hend : ∀ (l : List V) (r : Str), EndS (showR false l ++ 41 :: r) := fun l r => by
      cases l with
      | nil => exact .inr ⟨41, r, rfl, .inl rfl⟩
      | cons x l => exact .inr ⟨44, _, rfl, .inr (.inl rfl)⟩
    obtain ⟨q1, q2⟩ := ih v (List.mem_cons_self ..) w _ _ h1.1 h2.1 (hend l r) (hend l' r') e
    obtain ⟨q3, q4⟩ := showR_inj l (fun v hv => ih v (List.mem_cons_of_mem _ hv)) false l' r r' h1.2 h2.2 q2
    exact ⟨by rw [q1, q3], q4⟩
theorem show_inj (v : V) : ∀ (w : V) (r r' : Str), formV v = true → formV w = true → EndS r → EndS r' → showV v ++ r = showV w ++ r' → v = w ∧ r = r' := by
  refine V.rec_ (P := fun v => ∀ (w : V) (r r' : Str), formV v = true → formV w = true → EndS r → EndS r' → showV v ++ r = showV w ++ r' → v = w ∧ r = r') (fun v ih w r r' hv hw hr hr' e => ?_) v
  have hcv := ok_cases hv
  have hcw := ok_cases hw
  by_cases h4 : v.k = 4
  · by_cases k4 : w.k = 4
    · obtain ⟨k, n, s, l⟩ := v
      obtain ⟨k', n', s', l'⟩ := w
      simp only [V.k, V.n, V.s, V.l] at *
      subst h4; subst k4
      obtain ⟨_, rfl, rfl⟩ : (4 : Int) = 4 ∧ n = 0 ∧ l = [] := by rcases hcv.2 with ⟨h, _⟩ | ⟨h, _⟩ | ⟨h, _⟩ | h | ⟨h, _⟩ | ⟨h, _⟩ <;> first | exact h | exact absurd h (by decide)
      obtain ⟨_, rfl, rfl⟩ : (4 : Int) = 4 ∧ n' = 0 ∧ l' = [] := by rcases hcw.2 with ⟨h, _⟩ | ⟨h, _⟩ | ⟨h, _⟩ | h | ⟨h, _⟩ | ⟨h, _⟩ <;> first | exact h | exact absurd h (by decide)
      simp only [showV, quoteS] at e
      simp only [show ¬ ((4 : Int) = 1) by decide, show ¬ ((4 : Int) = 2) by decide, show ¬ ((4 : Int) = 3) by decide, if_false, if_true, List.cons_append, List.append_assoc, List.cons.injEq, true_and, List.nil_append] at e
      obtain ⟨q1, q2⟩ := qs_inj e
      exact ⟨by rw [q1], q2⟩
    · exfalso
      obtain ⟨c, t, e1, _, e2⟩ := show_head hw
      obtain ⟨k, n, s, l⟩ := v
      simp only [V.k] at h4
      subst h4
      rw [e1] at e
      simp [showV, quoteS] at e
      exact e2 k4 e.1.symm
  · by_cases k4 : w.k = 4
    · exfalso
      obtain ⟨c, t, e1, _, e2⟩ := show_head hv
      obtain ⟨k, n, s, l⟩ := w
      simp only [V.k] at k4
      subst k4
      rw [e1] at e
      simp [showV, quoteS] at e
      exact e2 h4 e.1
    · rw [show_tok hv h4, show_tok hw k4, List.append_assoc, List.append_assoc] at e
      obtain ⟨q1, q2⟩ := tok_split (tok_free hv h4) (tok_free hw k4) (rst_stop v r hr) (rst_stop w r' hr') e
      have hkk : v.k = w.k := by rw [← kind_tok hv h4, ← kind_tok hw k4, q1]
      obtain ⟨k, n, s, l⟩ := v
      obtain ⟨k', n', s', l'⟩ := w
      simp only [V.k, V.n, V.s, V.l] at *
      subst hkk
      simp only [tok] at q1
      simp only [rst] at q2
      have tails : ∀ (l l' : List V), formVs l = true → formVs l' = true → (∀ v ∈ l, ∀ (w : V) (r r' : Str), formV v = true → formV w = true → EndS r → EndS r' → showV v ++ r = showV w ++ r' → v = w ∧ r = r') →
          40 :: (showR true l ++ [41]) ++ r = 40 :: (showR true l' ++ [41]) ++ r' → l = l' ∧ r = r' := fun l l' f1 f2 ih e => by
        simp only [List.cons_append, List.append_assoc, List.cons.injEq, true_and, List.nil_append] at e
        exact showR_inj l ih true l' r r' f1 f2 e
      rcases hcv.2 with ⟨rfl, a1, a2, a3⟩ | ⟨rfl, a1, a2⟩ | ⟨rfl, a1, a2, a3⟩ | ⟨rfl, _⟩ | ⟨rfl, a1, a2⟩ | ⟨rfl, a1, a2⟩
      · obtain ⟨b1, b2, b3⟩ : (n' = 0 ∨ n' = 1) ∧ s' = [] ∧ l' = [] := by rcases hcw.2 with ⟨_, h⟩ | ⟨h, _⟩ | ⟨h, _⟩ | ⟨h, _⟩ | ⟨h, _⟩ | ⟨h, _⟩ <;> first | exact h | exact absurd h (by decide)
        subst a2; subst a3; subst b2; subst b3
        simp at q2
        refine ⟨?_, q2⟩
        rcases a1 with rfl | rfl <;> rcases b1 with rfl | rfl <;> first | rfl | exact absurd q1 (by decide)
      · obtain ⟨b1, b2⟩ : s' = [] ∧ l' = [] := by rcases hcw.2 with ⟨h, _⟩ | ⟨_, h⟩ | ⟨h, _⟩ | ⟨h, _⟩ | ⟨h, _⟩ | ⟨h, _⟩ <;> first | exact h | exact absurd h (by decide)
        subst a1; subst a2; subst b1; subst b2
        simp at q2 q1
        exact ⟨by rw [itoa_inj q1], q2⟩
      · obtain ⟨_, b2, b3⟩ : numS s' = true ∧ n' = 0 ∧ l' = [] := by rcases hcw.2 with ⟨h, _⟩ | ⟨h, _⟩ | ⟨_, h⟩ | ⟨h, _⟩ | ⟨h, _⟩ | ⟨h, _⟩ <;> first | exact h | exact absurd h (by decide)
        subst a2; subst a3; subst b2; subst b3
        simp at q2 q1
        exact ⟨by rw [q1], q2⟩
      · exact absurd rfl h4
      · obtain ⟨b1, b2⟩ : n' = 0 ∧ s' = [] := by rcases hcw.2 with ⟨h, _⟩ | ⟨h, _⟩ | ⟨h, _⟩ | ⟨h, _⟩ | ⟨_, h⟩ | ⟨h, _⟩ <;> first | exact h | exact absurd h (by decide)
        subst a1; subst a2; subst b1; subst b2
        rw [if_pos (.inl rfl), if_pos (.inl rfl)] at q2
        obtain ⟨q3, q4⟩ := tails l l' hcv.1 hcw.1 ih q2
        exact ⟨by rw [q3], q4⟩
      · obtain ⟨b1, _⟩ : n' = 0 ∧ namesS s' = true := by rcases hcw.2 with ⟨h, _⟩ | ⟨h, _⟩ | ⟨h, _⟩ | ⟨h, _⟩ | ⟨h, _⟩ | ⟨_, h⟩ <;> first | exact h | exact absurd h (by decide)
        subst a1; subst b1
        simp only [show ¬ ((6 : Int) = 1) by decide, show ¬ ((6 : Int) = 2) by decide, show ¬ ((6 : Int) = 3) by decide, show ¬ ((6 : Int) = 5) by decide, if_false] at q1
        simp only [show ¬ ((6 : Int) = 5) by decide, false_or, true_and] at q2
        subst q1
        by_cases c1 : l.length = 0 <;> by_cases c2 : l'.length = 0
        · rw [if_neg (by simpa using c1), if_neg (by simpa using c2)] at q2
          rw [List.length_eq_zero_iff.1 c1, List.length_eq_zero_iff.1 c2]
          exact ⟨rfl, q2⟩
        · rw [if_neg (by simpa using c1), if_pos c2, List.nil_append] at q2
          exact absurd q2 hr.ne40
        · rw [if_pos c1, if_neg (by simpa using c2), List.nil_append] at q2
          exact absurd q2.symm hr'.ne40
        · rw [if_pos c1, if_pos c2] at q2
          obtain ⟨q3, q4⟩ := tails l l' hcv.1 hcw.1 ih q2
          exact ⟨by rw [q3], q4⟩
end Sx
end

noncomputable section
set_option linter.unusedVariables false
set_option linter.unusedSimpArgs false
set_option maxRecDepth 10000
namespace Sx
open Go Go.Proofs
section
variable {C : Ctx} {H : Heap}
theorem copyCheck_ok {b : Nat} {p : Option (Nat × Nat)} {s : Sl} {K : Heap → Prop} (hb : H b = some (true, .trow tyB 0 [pv p, slv s])) (hp : p = none ∨ p = some (b, 0)) (k : K (H.put b (.trow tyB 0 [pv (some (b, 0)), slv s]))) : c_strings_Builder_copyCheck C (some (b, 0)) K H := by
  apply ad_strings_Builder_copyCheck
  unfold sh_strings_Builder_copyCheck
  refine ⟨_, rfl, p, by simp [rd, hb, GO.cells?], ?_⟩
  rcases hp with rfl | rfl
  · exact ift_pos rfl ⟨(b, 0), rfl, ⟨true, _, 0, _, hb, by simp⟩, ⟨true, 0, _, hb, rfl, rfl⟩, _, rfl, _, 0, _, hb, Nat.le_refl _, by simp, k⟩
  · refine ift_neg rfl ⟨_, rfl, some (b, 0), by simp [rd, hb, GO.cells?], (b, 0), rfl, rfl, ift_neg rfl ?_⟩
    have : H.put b (.trow tyB 0 [pv (some (b, 0)), slv s]) = H := Heap.put_id hb
    rw [this] at k; exact k

theorem rd_buf {H : Heap} {b : Nat} {p : Option (Nat × Nat)} {s : Sl} {t : TypeId} (hb : H b = some (true, .trow t 0 [pv p, slv s])) : rd H (b, 0 + 1) = some (slv s) := by simp [rd, hb, GO.cells?]

theorem WriteByte_ok {b : Nat} {bs : Str} {c : UInt8} {K : Value → Heap → Prop} (h : IsB tyB tyE H b bs) (hl : bs.length + 1 ≤ 140737488355328) (k : K .nilIface (H.put b (Bd (bs ++ [c])))) : c_strings_Builder_WriteByte C (some (b, 0)) (c.toNat : Int) K H := by
  apply c_strings_Builder_WriteByte.gh
  refine h.open_ fun p s H' ho => ?_
  refine ad_strings_Builder_WriteByte _ _ _ _ _ ?_
  unfold sh_strings_Builder_WriteByte
  refine copyCheck_ok ho.row ho.self ?_
  have ho2 := ho.setP (p2 := some (b, 0)) (.inr rfl)
  refine ⟨_, rfl, s, rd_buf ho2.row, ?_⟩
  refine ho2.apd (by obtain ⟨g, hg⟩ := h.some; exact ⟨_, hg⟩) (ys := [c]) (by simpa using hl) fun r H3 h3 hr => ?_
  exact ⟨_, rfl, _, 0, _, hr, Nat.zero_le _, by simp, _, Gh.hideB h3, k⟩

theorem WriteString_ok {b : Nat} {bs c : Str} {K : Int → Value → Heap → Prop} (h : IsB tyB tyE H b bs) (hl : bs.length + c.length ≤ 140737488355328) (k : K (c.length : Int) .nilIface (H.put b (Bd (bs ++ c)))) : c_strings_Builder_WriteString C (some (b, 0)) c K H := by
  apply c_strings_Builder_WriteString.gh
  refine h.open_ fun p s H' ho => ?_
  refine ad_strings_Builder_WriteString _ _ _ _ _ ?_
  unfold sh_strings_Builder_WriteString
  refine copyCheck_ok ho.row ho.self ?_
  have ho2 := ho.setP (p2 := some (b, 0)) (.inr rfl)
  refine ⟨_, rfl, s, rd_buf ho2.row, ?_⟩
  refine ho2.apd (by obtain ⟨g, hg⟩ := h.some; exact ⟨_, hg⟩) (ys := c) hl fun r H3 h3 hr => ?_
  exact ⟨_, rfl, _, 0, _, hr, Nat.zero_le _, by simp, _, Gh.hideB h3, k⟩

theorem String_ok {b : Nat} {bs : Str} {K : Str → Heap → Prop} (h : IsB tyB tyE H b bs) (hl : bs.length ≤ 9223372036854775807) (k : K bs (H.put b (Bd bs))) : c_strings_Builder_String C (some (b, 0)) K H := by
  apply c_strings_Builder_String.gh
  refine h.open_ fun p s H' ho => ?_
  refine ad_strings_Builder_String _ _ _ _ ?_
  unfold sh_strings_Builder_String
  obtain ⟨e1, e2, e3⟩ := ho.slen
  have hrd : rd (H'.hide s) (b, 0 + 1) = some (slv s) := by
    have : (H'.hide s) b = H' b := by
      unfold Heap.hide
      split
      · rename_i q hq; rw [if_neg (fun e => ho.ne q hq e.symm)]
      · rfl
    simp [rd, this, ho.row, GO.cells?]
  refine ⟨H'.hide s, Heap.hide_le _ _, _, rfl, s, hrd, ⟨e3, e2⟩, _, rfl, s, hrd, ?_⟩
  rcases ho.buf with ⟨rfl, rfl⟩ | ⟨g, kk, row, hg, rfl, hgr, hk, hr0, hrl, hcs⟩
  · exact .inl ⟨rfl, Heap.hide_le _ _, _, Gh.hideB ho, k⟩
  · by_cases h0 : bs = []
    · subst h0
      exact .inl ⟨rfl, Heap.hide_le _ _, _, Gh.hideB ho, k⟩
    · refine .inr ⟨g, kk, row, bs, rfl, hgr, rfl, h0, hl, hcs, fun x v hx => ?_, _, Gh.hideB (b := b) (T := tyB) (e := tyE) (bs := bs) (p := p) (s := ⟨some (g, 0), bs.length, row.length, none⟩) ?_, k⟩
      · have hxg : x ≠ g := fun e => by subst e; simp [Heap.hide] at hx
        rw [Heap.put_ne _ _ _ hxg]; exact (Heap.hide_le _ _) _ _ hx
      · refine ⟨ho.self, by rw [Heap.put_ne _ _ _ (Ne.symm hg)]; exact ho.row, .inr ⟨g, max kk bs.length, row, hg, rfl, Heap.put_same .., by omega, hr0, hrl, hcs⟩, ho.gnot, fun x v hx hv => ?_⟩
        have hxg : x ≠ g := fun e => by subst e; have := ho.gnot (x, 0) rfl; dsimp only at this; rw [this] at hv; cases hv
        rw [Heap.put_ne _ _ _ hxg]; exact ho.but x v hx hv
end
end Sx
end

noncomputable section
set_option linter.unusedVariables false
set_option linter.unusedSimpArgs false
set_option maxRecDepth 10000
namespace Sx
open Go Go.Proofs
section
variable {C : Ctx} {H : Heap}
theorem FormatBool_ok {b : Bool} {K : Str → Heap → Prop} (k : K (if b then trueS else falseS) H) : c_strconv_FormatBool C b K H := by
  apply ad_strconv_FormatBool
  unfold sh_strconv_FormatBool
  apply ad_internal_strconv_FormatBool
  unfold sh_internal_strconv_FormatBool
  cases b with
  | true => exact ift_pos rfl k
  | false => exact ift_neg rfl k
theorem hexS {k : Nat} (h : k < 16) : ([48, 49, 50, 51, 52, 53, 54, 55, 56, 57, 97, 98, 99, 100, 101, 102] : Str)[k]? = some (hexD k) := by
  have : ∀ k : Fin 16, ([48, 49, 50, 51, 52, 53, 54, 55, 56, 57, 97, 98, 99, 100, 101, 102] : Str)[k.val]? = some (hexD k.val) := by decide
  exact this ⟨k, h⟩
theorem shr4 : ∀ c : UInt8, sShr .u8 (c.toNat : Int) 4 = ((c.toNat / 16 : Nat) : Int) := by
  have : ∀ k : Fin 256, sShr .u8 (k.val : Int) 4 = ((k.val / 16 : Nat) : Int) := by decide +kernel
  exact fun c => this ⟨c.toNat, c.toNat_lt⟩
theorem and15 : ∀ c : UInt8, bAnd .u8 (c.toNat : Int) 15 = ((c.toNat % 16 : Nat) : Int) := by
  have : ∀ k : Fin 256, bAnd .u8 (k.val : Int) 15 = ((k.val % 16 : Nat) : Int) := by decide +kernel
  exact fun c => this ⟨c.toNat, c.toNat_lt⟩
/-- over A, of which b is not, the builder b holds bs -/
structure Wr (A B : Heap) (b : Nat) (bs : Str) : Prop where
  le : A.le B
  nb : A b = none
  bl : IsB tyB tyE B b bs
theorem Wr.up {A B D : Heap} {b : Nat} {bs : Str} (h : Wr A B b bs) (hle : B.le D) : Wr A D b bs := ⟨h.le.trans hle, h.nb, h.bl.le hle⟩
theorem Wr.byte {A B : Heap} {b : Nat} {bs : Str} {c : UInt8} {i : Int} {K : Value → Heap → Prop} (h : Wr A B b bs) (hi : i = (c.toNat : Int)) (hl : bs.length + 1 ≤ 140737488355328) (k : ∀ D, Wr A D b (bs ++ [c]) → K .nilIface D) : c_strings_Builder_WriteByte C (some (b, 0)) i K B := by
  subst hi
  exact WriteByte_ok h.bl hl (k _ ⟨h.le.put _ _ h.nb, h.nb, IsB.put⟩)
theorem Wr.str {A B : Heap} {b : Nat} {bs s : Str} {K : Int → Value → Heap → Prop} (h : Wr A B b bs) (hl : bs.length + s.length ≤ 140737488355328) (k : ∀ D, Wr A D b (bs ++ s) → K (s.length : Int) .nilIface D) : c_strings_Builder_WriteString C (some (b, 0)) s K B :=
  WriteString_ok h.bl hl (k _ ⟨h.le.put _ _ h.nb, h.nb, IsB.put⟩)
theorem qC_len (c : UInt8) : 1 ≤ (qC c).length ∧ (qC c).length ≤ 4 := by
  rcases qC_shape c with ⟨_, e⟩ | ⟨_, e⟩ | ⟨_, e⟩ | ⟨_, _, e⟩ | e <;> rw [e] <;> simp
theorem quote_ok {A B : Heap} {b : Nat} {bs s : Str} {K : Heap → Prop} (h : Wr A B b bs) (hl : bs.length + (quoteS s).length ≤ 140737488355328) (k : ∀ D, Wr A D b (bs ++ quoteS s) → K D) : c_value_quote C (some (b, 0)) s K B := by
  apply ad_value_quote
  unfold sh_value_quote
  have hql : (quoteS s).length = (s.flatMap qC).length + 2 := by simp [quoteS]
  have hpre : ∀ i, ((s.take i).flatMap qC).length ≤ (s.flatMap qC).length := fun i => by
    have := congrArg List.length (congrArg (List.flatMap qC) (List.take_append_drop i s))
    rw [List.flatMap_append, List.length_append] at this; omega
  have hsl : s.length ≤ (s.flatMap qC).length := by
    clear hl k hql hpre
    induction s with
    | nil => exact Nat.le_refl _
    | cons c s ih =>
      have := (qC_len c).1
      rw [List.flatMap_cons, List.length_append, List.length_cons]; omega
  refine h.byte (c := 34) rfl (by omega) fun B1 h1 => ?_
  refine ⟨fun x D => ∃ i : Nat, x = (i : Int) ∧ i ≤ s.length ∧ Wr A D b (bs ++ [34] ++ (s.take i).flatMap qC), fun x _ => s.length - x.toNat, ⟨0, rfl, Nat.zero_le _, by simpa using h1⟩, ?_⟩
  rintro _ D ⟨i, rfl, hi, hw⟩
  refine ift.of (fun hlt => ?_) (fun hlt => ?_)
  · have hlt : i < s.length := by have := of_decide_eq_true hlt; omega
    have hstep : (s.take (i + 1)).flatMap qC = (s.take i).flatMap qC ++ qC s[i] := by
      rw [List.take_add_one, List.getElem?_eq_getElem hlt, Option.toList_some, List.flatMap_append, List.flatMap_singleton]
    have hnl := hpre (i + 1)
    rw [hstep, List.length_append] at hnl
    have hcur : (bs ++ [34] ++ (s.take i).flatMap qC).length = bs.length + 1 + ((s.take i).flatMap qC).length := by simp only [List.length_append, List.length_singleton]
    refine ⟨fun _ E => Wr A E b (bs ++ [34] ++ (s.take (i + 1)).flatMap qC), ?_, ?_⟩
    · refine ⟨s[i], by omega, by rw [Int.toNat_natCast]; exact List.getElem?_eq_getElem hlt, ?_⟩
      rw [hstep, ← List.append_assoc]
      generalize s[i] = c at *
      generalize bs ++ [34] ++ (s.take i).flatMap qC = cur at *
      have e34 : ((c.toNat : Int) == 34) = decide (c = 34) := by
        rw [Bool.eq_iff_iff, beq_iff_eq, decide_eq_true_iff]
        exact ⟨fun h => u8_eq (by show c.toNat = 34; omega), fun h => by rw [h]; rfl⟩
      have e92 : ((c.toNat : Int) == 92) = decide (c = 92) := by
        rw [Bool.eq_iff_iff, beq_iff_eq, decide_eq_true_iff]
        exact ⟨fun h => u8_eq (by show c.toNat = 92; omega), fun h => by rw [h]; rfl⟩
      have e10 : ((c.toNat : Int) == 10) = decide (c = 10) := by
        rw [Bool.eq_iff_iff, beq_iff_eq, decide_eq_true_iff]
        exact ⟨fun h => u8_eq (by show c.toNat = 10; omega), fun h => by rw [h]; rfl⟩
      have e9 : ((c.toNat : Int) == 9) = decide (c = 9) := by
        rw [Bool.eq_iff_iff, beq_iff_eq, decide_eq_true_iff]
        exact ⟨fun h => u8_eq (by show c.toNat = 9; omega), fun h => by rw [h]; rfl⟩
      rw [e34, e92, e10, e9]
      have hq4 := (qC_len c).2
      refine ift.of (fun c1 => ?_) (fun c1 => ?_)
      · simp only [Bool.or_eq_true, decide_eq_true_eq] at c1
        have e : qC c = [92, c] := by unfold qC; rw [if_pos c1]
        rw [e] at hnl ⊢
        simp only [List.length_cons, List.length_nil] at hnl
        refine hw.byte (c := 92) rfl (by omega) fun D1 h2 => h2.byte (c := c) rfl (by simp; omega) fun D2 h3 => ?_
        simpa using h3
      simp only [Bool.or_eq_false_iff, decide_eq_false_iff_not] at c1
      have c1' : ¬ (c = 34 ∨ c = 92) := fun h => h.elim c1.1 c1.2
      refine ift.of (fun c2 => ?_) (fun c2 => ?_)
      · have c2 := of_decide_eq_true c2
        have e : qC c = [92, 110] := by unfold qC; rw [if_neg c1', if_pos c2]
        rw [e] at hnl ⊢
        simp only [List.length_cons, List.length_nil] at hnl
        exact hw.str (s := [92, 110]) (by simp; omega) fun D1 h2 => h2
      have c2 := of_decide_eq_false c2
      refine ift.of (fun c3 => ?_) (fun c3 => ?_)
      · have c3 := of_decide_eq_true c3
        have e : qC c = [92, 116] := by unfold qC; rw [if_neg c1', if_neg c2, if_pos c3]
        rw [e] at hnl ⊢
        simp only [List.length_cons, List.length_nil] at hnl
        exact hw.str (s := [92, 116]) (by simp; omega) fun D1 h2 => h2
      have c3 := of_decide_eq_false c3
      refine ift.of (fun c4 => ?_) (fun c4 => ?_)
      · simp only [Bool.and_eq_true, decide_eq_true_eq] at c4
        have e : qC c = [c] := by unfold qC; rw [if_neg c1', if_neg c2, if_neg c3, if_pos (by omega)]
        rw [e] at hnl ⊢
        simp only [List.length_cons, List.length_nil] at hnl
        exact hw.byte (c := c) rfl (by omega) fun D1 h2 => h2
      · simp only [Bool.and_eq_false_iff, decide_eq_false_iff_not] at c4
        have e : qC c = [92, 120, hexD (c.toNat / 16), hexD (c.toNat % 16)] := by unfold qC; rw [if_neg c1', if_neg c2, if_neg c3, if_neg (by omega)]
        rw [e] at hnl ⊢
        simp only [List.length_cons, List.length_nil] at hnl
        have hct := c.toNat_lt
        refine hw.str (s := [92, 120]) (by simp; omega) fun D1 h2 => ?_
        rw [shr4, and15]
        refine ⟨hexD (c.toNat / 16), by omega, by rw [Int.toNat_natCast]; exact hexS (by omega), ?_⟩
        refine h2.byte (c := hexD (c.toNat / 16)) rfl (by simp; omega) fun D2 h3 => ?_
        refine ⟨hexD (c.toNat % 16), by omega, by rw [Int.toNat_natCast]; exact hexS (by omega), ?_⟩
        refine h3.byte (c := hexD (c.toNat % 16)) rfl (by simp; omega) fun D3 h4 => ?_
        simpa using h4
    · rintro _ E hE
      rw [w_i64 (by omega) (by omega)]
      exact ⟨⟨i + 1, by omega, by omega, hE⟩, by first | omega | (dsimp only; omega)⟩
  · have hie : i = s.length := by have := of_decide_eq_false hlt; omega
    rw [hie, List.take_length] at hw
    refine hw.byte (c := 34) rfl (by simp only [List.length_append, List.length_singleton]; omega) fun E hE => k E ?_
    simpa [quoteS] using hE
/-- the two closures, each in the other's cell -/
structure Clo (C : Ctx) (A : Heap) (b p q : Nat) : Prop where
  list : ∃ x, rd A (p, 0) = some x ∧ ∀ (t : Sl) (B : Heap) (Φ : Value → Heap → Prop), c_value_Show_1 C t (b, 0) (q, 0) (fun D => Φ (.tuple #[]) D) B → callU Tryd.prog C x [slv t] B Φ
  show_ : ∃ x, rd A (q, 0) = some x ∧ ∀ (v : TV) (B : Heap) (Φ : Value → Heap → Prop), c_value_Show_2 C v (b, 0) (p, 0) (fun D => Φ (.tuple #[]) D) B → callU Tryd.prog C x [.agg (T_api_Value.c v).toArray] B Φ
variable {A B : Heap} {b p q : Nat}
theorem Clo.le {A1 : Heap} (h : Clo C A b p q) (hle : A.le A1) : Clo C A1 b p q := by
  obtain ⟨⟨x, h1, h2⟩, y, h3, h4⟩ := h
  exact ⟨⟨x, rd_le hle h1, h2⟩, y, rd_le hle h3, h4⟩
theorem Wr.box {bs : Str} {b1 : Nat} {x : TV} (h : Wr A B b bs) (n1 : B b1 = none) :
    Wr (A.put b1 (.row (T_api_Value.c x))) (B.put b1 (.row (T_api_Value.c x))) b bs ∧ A.le (A.put b1 (.row (T_api_Value.c x))) ∧ (A.put b1 (.row (T_api_Value.c x))) b1 = some (true, .row (T_api_Value.c x)) := by
  have hne : b ≠ b1 := fun e => by
    obtain ⟨g, hg⟩ := h.bl.some
    rw [e, n1] at hg; cases hg
  refine ⟨⟨fun z e hz => ?_, by rw [Heap.put_ne _ _ _ hne]; exact h.nb, h.bl.le (Heap.le_put n1)⟩, Heap.le_put (h.le.none n1), Heap.put_same ..⟩
  by_cases hzb : z = b1
  · subst hzb; rw [Heap.put_same] at hz ⊢; exact hz
  · rw [Heap.put_ne _ _ _ hzb] at hz ⊢; exact h.le _ _ hz
theorem Wr.base {A1 D : Heap} {bs : Str} (h : Wr A1 D b bs) (hle : A.le A1) : Wr A D b bs := ⟨hle.trans h.le, hle.none h.nb, h.bl⟩
theorem showV_eq (v : V) : showV v = if v.k = 1 then (if v.n = 1 then trueS else falseS) else if v.k = 2 then Lib.itoa v.n else if v.k = 3 then v.s ++ [98] else if v.k = 4 then quoteS v.s
    else if v.k = 5 then 40 :: (showR true v.l ++ [41]) else v.s ++ (if v.l.length = 0 then [] else 40 :: (showR true v.l ++ [41])) := by cases v; rfl
theorem list_ok {l : List V} (ih : ∀ w ∈ l, ∀ {A B : Heap} {x : TV} {bs : Str} {K : Heap → Prop}, Clo C A b p q → VIs A w x → VB w → Wr A B b bs → bs.length + (showV w).length ≤ 140737488355328 → (∀ D, Wr A D b (bs ++ showV w) → K D) → c_value_Show_2 C x (b, 0) (p, 0) K B)
    {A B : Heap} {t : Sl} {bs : Str} {K : Heap → Prop} (hC : Clo C A b p q) (hv : VRow A t l) (hl0 : l.length ≤ 140737488355328) (hB : VBs l) (h : Wr A B b bs) (hl : bs.length + (showR true l).length + 2 ≤ 140737488355328)
    (k : ∀ D, Wr A D b (bs ++ (40 :: (showR true l ++ [41]))) → K D) : c_value_Show_1 C t (b, 0) (q, 0) K B := by
  apply ad_value_Show_1
  unfold sh_value_Show_1
  refine h.byte (c := 40) rfl (by omega) fun B1 h1 => ?_
  rw [hv.len]
  refine ⟨fun x D => ∃ i : Nat, x = (i : Int) ∧ i ≤ l.length ∧ Wr A D b (bs ++ [40] ++ showR true (l.take i)), fun x _ => l.length - x.toNat, ⟨0, rfl, Nat.zero_le _, by simpa [showR] using h1⟩, ?_⟩
  rintro _ D ⟨i, rfl, hi, hw⟩
  refine ift.of (fun hlt => ?_) (fun hlt => ?_)
  · have hlt : i < l.length := by have := of_decide_eq_true hlt; omega
    have hm := List.getElem_mem hlt
    have hst := showR_take hlt
    have hpl := showR_pre l (i + 1)
    rw [hst] at hpl
    simp only [List.length_append] at hpl
    refine hv.ld hw.le rfl hlt fun x hx => ?_
    intro b14 n14
    refine ⟨_, Heap.put_same .., by simp [T_api_Value.c], ?_⟩
    rw [Heap.put_put]
    have hc : splice (T_api_Value.c T_api_Value.zero) (b14, 0).2 (T_api_Value.c x) = T_api_Value.c x := rfl
    rw [hc]
    obtain ⟨w1, w2, w3⟩ := hw.box (x := x) n14
    refine ⟨fun _ E => Wr (A.put b14 (.row (T_api_Value.c x))) E b (bs ++ [40] ++ showR true (l.take i) ++ (if i = 0 then [] else [44, 32])), ?_, ?_⟩
    · refine ift.of (fun h0 => ?_) (fun h0 => ?_)
      · have h0 : i ≠ 0 := by have := of_decide_eq_true h0; omega
        rw [if_neg h0] at hpl ⊢
        simp only [List.length_cons, List.length_nil] at hpl
        exact w1.str (s := [44, 32]) (by simp only [List.length_append, List.length_cons, List.length_nil]; omega) fun E hE => hE
      · have h0 : i = 0 := by have := of_decide_eq_false h0; omega
        rw [if_pos h0, List.append_nil]; exact w1
    · rintro _ E hE
      obtain ⟨y, y1, y2⟩ := (hC.le w2).show_
      refine ⟨y, rd_le hE.le y1, bxV (hE.le _ _ w3) (y2 _ _ _ (ih _ hm (hC.le w2) (hx.le w2) (hB.mem hm) hE ?_ fun F hF => ⟨rfl, ?_⟩))⟩
      · simp only [List.length_append, List.length_cons, List.length_nil]; omega
      · rw [w_i64 (by omega) (by omega)]
        refine ⟨⟨i + 1, by omega, by omega, ?_⟩, by first | omega | (dsimp only; omega)⟩
        rw [hst]
        have := hF.base w2
        simpa only [List.append_assoc] using this
  · have hie : i = l.length := by have := of_decide_eq_false hlt; omega
    rw [hie, List.take_length] at hw
    refine hw.byte (c := 41) rfl (by simp only [List.length_append, List.length_cons, List.length_nil]; omega) fun E hE => k E ?_
    simpa only [List.append_assoc, List.cons_append, List.nil_append] using hE
theorem show2_ok (hF : FmtC C) (v : V) : ∀ {A B : Heap} {x : TV} {bs : Str} {K : Heap → Prop}, Clo C A b p q → VIs A v x → VB v → Wr A B b bs → bs.length + (showV v).length ≤ 140737488355328 → (∀ D, Wr A D b (bs ++ showV v) → K D) → c_value_Show_2 C x (b, 0) (p, 0) K B := by
  refine V.rec_ (P := fun v => ∀ {A B : Heap} {x : TV} {bs : Str} {K : Heap → Prop}, Clo C A b p q → VIs A v x → VB v → Wr A B b bs → bs.length + (showV v).length ≤ 140737488355328 → (∀ D, Wr A D b (bs ++ showV v) → K D) → c_value_Show_2 C x (b, 0) (p, 0) K B) (fun v ih => ?_) v
  intro A B x bs K hC hv hB h hl k
  apply ad_value_Show_2
  unfold sh_value_Show_2
  intro b1 n1
  obtain ⟨w1, w2, w3⟩ := h.box (x := x) n1
  have hv1 := VIs_iff.1 hv
  have hb1 := w1.le _ _ w3
  have k1 : ∀ D, Wr (A.put b1 (.row (T_api_Value.c x))) D b (bs ++ showV v) → K D := fun D hD => k D (hD.base w2)
  rw [showV_eq] at hl k1
  have hC1 := hC.le w2
  have hrow := hv1.2.2.2.le w2
  generalize A.put b1 (.row (T_api_Value.c x)) = A1 at *
  generalize B.put b1 (.row (T_api_Value.c x)) = B1 at *
  refine bxK hb1 ?_
  rw [hv1.1]
  refine ift.of (fun h1 => ?_) (fun h1 => ?_)
  · have h1 : v.k = 1 := by simpa using h1
    rw [if_pos h1] at hl k1
    refine bxN hb1 (FormatBool_ok ?_)
    rw [hv1.2.1]
    have e : (if (v.n == 1) = true then trueS else falseS) = (if v.n = 1 then trueS else falseS) := by simp
    rw [e]
    exact w1.str hl k1
  have h1 : v.k ≠ 1 := by simpa using h1
  rw [if_neg h1] at hl k1
  refine ift.of (fun h2 => ?_) (fun h2 => ?_)
  · have h2 : v.k = 2 := by simpa using h2
    rw [if_pos h2] at hl k1
    refine bxN hb1 ?_
    rw [hv1.2.1]
    exact hF.ok hB.n.1 hB.n.2 (w1.str hl k1)
  have h2 : v.k ≠ 2 := by simpa using h2
  rw [if_neg h2] at hl k1
  refine ift.of (fun h3 => ?_) (fun h3 => ?_)
  · have h3 : v.k = 3 := by simpa using h3
    rw [if_pos h3] at hl k1
    simp only [List.length_append, List.length_cons, List.length_nil] at hl
    refine bxS hb1 ?_
    rw [hv1.2.2.1]
    refine w1.str (by omega) fun D hD => hD.byte (c := 98) rfl (by rw [List.length_append]; omega) fun E hE => k1 E ?_
    simpa only [List.append_assoc] using hE
  have h3 : v.k ≠ 3 := by simpa using h3
  rw [if_neg h3] at hl k1
  refine ift.of (fun h4 => ?_) (fun h4 => ?_)
  · have h4 : v.k = 4 := by simpa using h4
    rw [if_pos h4] at hl k1
    refine bxS hb1 ?_
    rw [hv1.2.2.1]
    exact quote_ok w1 hl k1
  have h4 : v.k ≠ 4 := by simpa using h4
  rw [if_neg h4] at hl k1
  obtain ⟨y, y1, y2⟩ := hC1.list
  refine ift.of (fun h5 => ?_) (fun h5 => ?_)
  · have h5 : v.k = 5 := by simpa using h5
    rw [if_pos h5] at hl k1
    simp only [List.length_append, List.length_cons, List.length_nil] at hl
    exact ⟨y, rd_le w1.le y1, bxL hb1 (y2 _ _ _ (list_ok ih hC1 hrow hB.l hB.ls w1 (by omega) fun D hD => ⟨rfl, k1 D hD⟩))⟩
  have h5 : v.k ≠ 5 := by simpa using h5
  rw [if_neg h5] at hl k1
  rw [List.length_append] at hl
  refine bxS hb1 ?_
  rw [hv1.2.2.1]
  refine w1.str (by omega) fun D hD => bxL (hD.le _ _ w3) ?_
  rw [hrow.len]
  refine ift.of (fun h6 => ?_) (fun h6 => ?_)
  · have h6 : v.l.length ≠ 0 := by have := of_decide_eq_true h6; omega
    rw [if_neg h6] at hl k1
    simp only [List.length_append, List.length_cons, List.length_nil] at hl
    refine ⟨y, rd_le hD.le y1, bxL (hD.le _ _ w3) (y2 _ _ _ (list_ok ih hC1 hrow hB.l hB.ls hD (by rw [List.length_append]; omega) fun E hE => ⟨rfl, k1 E ?_⟩))⟩
    rw [← List.append_assoc]; exact hE
  · have h6 : v.l.length = 0 := by have := of_decide_eq_false h6; omega
    rw [if_pos h6] at k1
    rw [List.append_nil] at k1
    exact k1 D hD
/-- the text of a value that may be -/
theorem Show_ok (hF : FmtC C) {v : V} {x : TV} {K : Str → Heap → Prop} (hv : VIs H v x) (hB : VB v) (hl : mayV v = true → (showV v).length ≤ 140737488355328) (k : ∀ H2, H.le H2 → K (if mayV v then showV v else []) H2) : c_value_Show C x K H := by
  apply ad_value_Show
  unfold sh_value_Show
  intro b1 n1
  have hle1 := Heap.le_put n1 (g := .row (T_api_Value.c x)) (m := true)
  have hb1 : (H.put b1 (.row (T_api_Value.c x))) b1 = some (true, .row (T_api_Value.c x)) := Heap.put_same ..
  have hv1 := hv.le hle1
  generalize H.put b1 (.row (T_api_Value.c x)) = H1 at *
  refine bxV hb1 (value_Check_ok hv1 hB ?_)
  rw [bne, mayV_dec]
  refine ift.of (fun h => ?_) (fun h => ?_)
  · have h : mayV v = false := by simpa using h
    have := k H1 hle1
    rw [h] at this; exact this
  have h : mayV v = true := by simpa using h
  intro b8 n8 b10 n10 b12 n12
  have l8 := Heap.le_put n8 (g := .trow tyB 0 [pv none, slv Sl.nil]) (m := true)
  have ne1 : b8 ≠ b10 := fun e => by rw [e, Heap.put_same] at n10; cases n10
  have ne2 : b8 ≠ b12 := fun e => by rw [← e, Heap.put_ne _ _ _ ne1, Heap.put_same] at n12; cases n12
  have ne3 : b10 ≠ b12 := fun e => by rw [e, Heap.put_same] at n12; cases n12
  refine ⟨[.nilFunc], Heap.put_same .., Nat.zero_lt_one, ?_⟩
  refine ⟨[.nilFunc], ?_, Nat.zero_lt_one, ?_⟩
  · show ((((H1.put b8 _).put b10 _).put b12 _).put b12 _) b10 = _
    rw [Heap.put_ne _ _ _ ne3, Heap.put_ne _ _ _ ne3, Heap.put_same]
  generalize hf24 : Value.func (Fn.func _) (List.toArray []) (List.toArray [pv (some (b8, 0)), pv (some (b10, 0))]) = F24
  generalize hf27 : Value.func (Fn.func _) (List.toArray []) (List.toArray [pv (some (b8, 0)), pv (some (b12, 0))]) = F27
  simp only [List.set_cons_zero]
  have n10' : H1 b10 = none := l8.none n10
  have n12' : H1 b12 = none := (l8.trans (Heap.le_put n10)).none n12
  generalize hD0 : ((((H1.put b8 (.trow tyB 0 [pv none, slv Sl.nil])).put b10 (.row [.nilFunc])).put b12 (.row [.nilFunc])).put b12 (.row [F24])).put b10 (.row [F27]) = D0
  have d8 : D0 b8 = some (true, .trow tyB 0 [pv none, slv Sl.nil]) := by
    rw [← hD0, Heap.put_ne _ _ _ ne1, Heap.put_ne _ _ _ ne2, Heap.put_ne _ _ _ ne2, Heap.put_ne _ _ _ ne1, Heap.put_same]
  have d10 : D0 b10 = some (true, .row [F27]) := by rw [← hD0, Heap.put_same]
  have d12 : D0 b12 = some (true, .row [F24]) := by rw [← hD0, Heap.put_ne _ _ _ (Ne.symm ne3), Heap.put_same]
  have dle : H1.le D0 := fun z e hz => by
    have z8 : z ≠ b8 := fun e' => by rw [e', n8] at hz; cases hz
    have z10 : z ≠ b10 := fun e' => by rw [e', n10'] at hz; cases hz
    have z12 : z ≠ b12 := fun e' => by rw [e', n12'] at hz; cases hz
    rw [← hD0, Heap.put_ne _ _ _ z10, Heap.put_ne _ _ _ z12, Heap.put_ne _ _ _ z12, Heap.put_ne _ _ _ z10, Heap.put_ne _ _ _ z8]; exact hz
  clear hD0
  let A : Heap := D0.del b8
  have hA8 : A b8 = none := Heap.del_same ..
  have hAle : A.le D0 := Heap.del_le D0 b8
  have hHA : H1.le A := fun z e hz => by
    have z8 : z ≠ b8 := fun e' => by rw [e', n8] at hz; cases hz
    show D0.del b8 z = _
    rw [Heap.del_ne _ z8]; exact dle _ _ hz
  have hw : Wr A D0 b8 [] := ⟨hAle, hA8, .inr ⟨rfl, d8⟩⟩
  have a10 : A b10 = some (true, .row [F27]) := by show D0.del b8 b10 = _; rw [Heap.del_ne _ (Ne.symm ne1)]; exact d10
  have a12 : A b12 = some (true, .row [F24]) := by show D0.del b8 b12 = _; rw [Heap.del_ne _ (Ne.symm ne2)]; exact d12
  have hC : Clo C A b8 b12 b10 := by
    refine ⟨⟨F24, by simp [rd, a12, GO.cells?], fun t B Φ hh => ?_⟩, F27, by simp [rd, a10, GO.cells?], fun w B Φ hh => ?_⟩
    · exact ⟨_, [], _, hf24.symm, ok_value_Show_1, Spec.mono hh fun u B2 ⟨e, h2⟩ => by rw [e]; exact h2⟩
    · exact ⟨_, [], _, hf27.symm, ok_value_Show_2, Spec.mono hh fun u B2 ⟨e, h2⟩ => by rw [e]; exact h2⟩
  obtain ⟨y, y1, y2⟩ := hC.show_
  refine ⟨y, rd_le hAle y1, bxV (dle _ _ hb1) (y2 _ _ _ (show2_ok hF v (bs := []) hC (hv1.le hHA) hB hw (by simpa using hl h) fun D hD => ⟨rfl, ?_⟩))⟩
  refine String_ok hD.bl (by rw [List.nil_append]; have := hl h; omega) ?_
  have := k (D.put b8 (Bd ([] ++ showV v))) ((hle1.trans hHA).trans (hD.le.put _ _ hA8))
  rw [h] at this
  exact this
end
theorem quoteS_len (s : Str) : (quoteS s).length ≤ 4 * s.length + 2 := by
  have : (s.flatMap qC).length ≤ 4 * s.length := by
    induction s with
    | nil => exact Nat.le_refl _
    | cons c s ih =>
      have := (qC_len c).2
      rw [List.flatMap_cons, List.length_append, List.length_cons]; omega
  simp only [quoteS, List.length_cons, List.length_append, List.length_nil]; omega
theorem showR_len : ∀ (l : List V) (f : Bool), (∀ v ∈ l, (showV v).length + 2 ≤ 17000 * vsize v) → (showR f l).length ≤ 17000 * vsizes l
  | [], f, _ => by simp [showR]
  | v :: l, f, h => by
    have h1 := h v (List.mem_cons_self ..)
    have h2 := showR_len l false fun w hw => h w (List.mem_cons_of_mem _ hw)
    simp only [showR, vsizes, List.length_append]
    have h3 : (if f = true then ([] : Str) else [44, 32]).length ≤ 2 := by cases f <;> simp
    omega
theorem showV_len (v : V) : VB v → formV v = true → fitsV v = true → (showV v).length + 2 ≤ 17000 * vsize v := by
  refine V.rec_ (P := fun v => VB v → formV v = true → fitsV v = true → (showV v).length + 2 ≤ 17000 * vsize v) (fun v ih => ?_) v
  intro hB hf hfit
  have hsz : vsize v = vsizes v.l + 1 := by cases v; rfl
  obtain ⟨hfs, hc⟩ := ok_cases hf
  rw [fitsV_eq, Bool.and_eq_true] at hfit
  have fm : ∀ {l : List V} {w : V}, w ∈ l → fitsVs l = true → fitsV w = true := by
    intro l
    induction l with
    | nil => intro w hw; cases hw
    | cons x l ihl =>
      intro w hw hl
      simp only [fitsVs, Bool.and_eq_true] at hl
      rcases List.mem_cons.1 hw with rfl | hw
      · exact hl.1
      · exact ihl hw hl.2
  have hR := showR_len v.l true fun w hw => ih w hw (hB.ls.mem hw) (formVs_mem hw hfs) (fm hw hfit.2)
  have hfN := hfit.1
  rw [showV_eq, hsz]
  unfold fitN at hfN
  rcases hc with ⟨h, _⟩ | ⟨h, _⟩ | ⟨h, hn, _⟩ | ⟨h, _⟩ | ⟨h, _⟩ | ⟨h, _, hn⟩
  · rw [if_pos h]
    have : (if v.n = 1 then trueS else falseS).length ≤ 5 := by split <;> decide
    omega
  · rw [if_neg (by omega), if_pos h]
    have := Lib.itoa_length_le v.n hB.n.1 hB.n.2
    omega
  · rw [if_neg (by omega), if_neg (by omega), if_pos h]
    rw [if_pos h] at hfN
    have hd := of_decide_eq_true hfN
    have := (numS_parts hn).2.2
    rw [List.length_append, List.length_singleton]; omega
  · rw [if_neg (by omega), if_neg (by omega), if_neg (by omega), if_pos h]
    rw [if_neg (by omega), if_pos h] at hfN
    have hd := of_decide_eq_true hfN
    have := quoteS_len v.s
    omega
  · rw [if_neg (by omega), if_neg (by omega), if_neg (by omega), if_neg (by omega), if_pos h]
    simp only [List.length_cons, List.length_append, List.length_nil]; omega
  · rw [if_neg (by omega), if_neg (by omega), if_neg (by omega), if_neg (by omega), if_neg (by omega)]
    have := (namesS_parts hn).2.2.2.1
    have h2 : (if v.l.length = 0 then ([] : Str) else 40 :: (showR true v.l ++ [41])).length ≤ (showR true v.l).length + 2 := by
      split
      · exact Nat.zero_le _
      · simp
    rw [List.length_append]; omega
theorem show_may {v : V} (hB : VB v) (h : mayV v = true) (hs : vsize v ≤ 1000000) : (showV v).length ≤ 140737488355328 := by
  have := showV_len v hB ((mayV_iff v).1 h).2.1 ((mayV_iff v).1 h).2.2
  omega
end Sx
end

noncomputable section
set_option linter.unusedVariables false
set_option linter.unusedSimpArgs false
namespace Sx
open Go Go.Proofs
/-- a value's place -/
def posV (v : V) : List V → Option Nat
  | [] => none
  | w :: l => if sameV w v then some 0 else (posV v l).map (· + 1)
theorem posV_none {v : V} : ∀ {l : List V}, posV v l = none → v ∉ l
  | [], _, h => by cases h
  | w :: l, hn, h => by
    simp only [posV] at hn
    split at hn
    · cases hn
    · rename_i hs
      rcases List.mem_cons.1 h with rfl | h
      · exact hs (sameV_iff.2 rfl)
      · exact posV_none (Option.map_eq_none_iff.1 hn) h
theorem posV_nin {v : V} : ∀ {l : List V}, v ∉ l → posV v l = none
  | [], _ => rfl
  | w :: l, h => by
    simp only [posV]
    rw [if_neg (fun e => h (by rw [sameV_iff.1 e]; exact List.mem_cons_self ..)), posV_nin fun e => h (List.mem_cons_of_mem _ e)]; rfl
theorem posV_snoc {v w : V} : ∀ {l : List V}, posV v l = none → posV w (l ++ [v]) = if sameV v w = true then some l.length else posV w l
  | [], _ => by
    simp only [List.nil_append, posV]
    by_cases e : sameV v w = true
    · rw [if_pos e, if_pos e]; rfl
    · rw [if_neg e, if_neg e]; rfl
  | u :: l, h => by
    simp only [posV] at h
    split at h
    · cases h
    rename_i hu
    have ih := posV_snoc (w := w) (Option.map_eq_none_iff.1 h)
    simp only [List.cons_append, posV, ih]
    by_cases hw : sameV u w = true
    · rw [if_pos hw, if_pos hw]
      rw [if_neg]
      intro e
      rw [sameV_iff.1 e] at hu
      exact hu hw
    · rw [if_neg hw, if_neg hw]
      by_cases e : sameV v w = true
      · rw [if_pos e, if_pos e]; rfl
      · rw [if_neg e, if_neg e]
theorem posV_of {v : V} : ∀ {l : List V} {n : Nat}, l.Nodup → l[n]? = some v → posV v l = some n
  | [], n, _, h => by simp at h
  | w :: l, 0, _, h => by
    simp at h; subst h
    simp only [posV]; rw [if_pos (sameV_iff.2 rfl)]
  | w :: l, n + 1, hn, h => by
    have hm : l[n]? = some v := by simpa using h
    have h1 := List.nodup_cons.1 hn
    simp only [posV]
    rw [if_neg, posV_of h1.2 hm]; rfl
    intro e
    have := sameV_iff.1 e
    subst this
    exact h1.1 (List.mem_of_getElem? hm)
/-- a value put -/
def putV (vs : List V) (v : V) : List V × Nat := match posV v vs with
  | some n => (vs, n)
  | none => (vs ++ [v], vs.length)
/-- the texts' numbers are the values' places -/
def KeyOf (l : List (Str × Int)) (vs : List V) : Prop := ∀ v, mayV v = true → lkL (showV v) l = (posV v vs).map fun n : Nat => (n : Int)
theorem showV_inj {v w : V} (hv : mayV v = true) (hw : mayV w = true) (h : showV v = showV w) : v = w :=
  (show_inj v w [] [] (mayV_form hv) (mayV_form hw) (.inl rfl) (.inl rfl) (by rw [h])).1
theorem KeyOf.nil : KeyOf [] [] := fun v _ => rfl
theorem KeyOf.add {l l2 : List (Str × Int)} {vs : List V} {v : V} (h : KeyOf l vs) (hv : mayV v = true) (hn : posV v vs = none) (h2 : ∀ k, lkL k l2 = if k = showV v then some (vs.length : Int) else lkL k l) : KeyOf l2 (vs ++ [v]) := fun w hw => by
  rw [h2, posV_snoc hn]
  by_cases e : sameV v w = true
  · rw [if_pos e, if_pos (by rw [sameV_iff.1 e])]; rfl
  · rw [if_neg (fun h => e (sameV_iff.2 (showV_inj hw hv h).symm)), if_neg e, h w hw]
/-- all may be, none twice -/
structure Vals (vs : List V) : Prop where
  may : ∀ v ∈ vs, mayV v = true
  vb : VBs vs
  nd : vs.Nodup
theorem Vals.nil : Vals [] := ⟨(fun v h => by cases h), trivial, List.nodup_nil⟩
theorem Vals.put {vs : List V} {v : V} (h : Vals vs) (hm : mayV v = true) (hB : VB v) : Vals (putV vs v).1 := by
  unfold putV
  split
  · exact h
  · rename_i hn
    refine ⟨fun w hw => ?_, VBs.of fun w hw => ?_, ?_⟩
    · rcases List.mem_append.1 hw with hw | hw
      · exact h.may w hw
      · rw [List.mem_singleton] at hw; rw [hw]; exact hm
    · rcases List.mem_append.1 hw with hw | hw
      · exact h.vb.mem hw
      · rw [List.mem_singleton] at hw; rw [hw]; exact hB
    · rw [List.nodup_append]
      refine ⟨h.nd, by simp, fun a ha b hb e => ?_⟩
      rw [List.mem_singleton] at hb
      rw [e, hb] at ha
      exact posV_none hn ha
theorem putV_len (vs : List V) (v : V) : (putV vs v).1.length ≤ vs.length + 1 ∧ vs.length ≤ (putV vs v).1.length := by
  unfold putV
  split <;> simp

/-- all that is not F's stays -/
def Keep (F : Nat → Prop) (H H2 : Heap) : Prop := ∀ c e, ¬ F c → H c = some e → H2 c = some e
theorem Keep.refl (F : Nat → Prop) (H : Heap) : Keep F H H := fun _ _ _ h => h
theorem Keep.le {F : Nat → Prop} {A H H2 : Heap} (h : Keep F H H2) (hA : A.le H) (hF : ∀ c, F c → A c = none) : A.le H2 := fun c e hc => h c e (fun hf => by rw [hF c hf] at hc; cases hc) (hA c e hc)
theorem Keep.of_le {F : Nat → Prop} {H H2 : Heap} (h : H.le H2) : Keep F H H2 := fun c e _ hc => h c e hc
theorem Keep.trans {F F2 : Nat → Prop} {H H2 H3 : Heap} (h : Keep F H H2) (h2 : Keep F2 H2 H3) (hF : ∀ c, F2 c → F c ∨ H c = none) : Keep F H H3 := fun c e hf hc => h2 c e (fun h3 => (hF c h3).elim hf fun h4 => by rw [h4] at hc; cases hc) (h c e hf hc)
end Sx
end

noncomputable section
set_option linter.unusedVariables false
set_option linter.unusedSimpArgs false
namespace Sx
open Go Go.Proofs
section
variable {C : Ctx} {H : Heap}
theorem iown_ok {A : Heap} {l : List V} {t : Sl} {H : Heap} {K : Sl → Heap → Prop} (hv : VRow A t l) (hle : A.le H) (hz : vsizes l ≤ 1000000) (k : ∀ t2 H2, Made H H2 l t2 → K t2 H2) : c_intern_own C t K H := by
  have main : ∀ v : V, ∀ (A : Heap) (t : Sl) (H : Heap) (K : Sl → Heap → Prop), VRow A t v.l → A.le H → vsizes v.l ≤ 1000000 → (∀ t2 H2, Made H H2 v.l t2 → K t2 H2) → c_intern_own C t K H := by
    refine fun v => V.rec_ (P := fun v => ∀ (A : Heap) (t : Sl) (H : Heap) (K : Sl → Heap → Prop), VRow A t v.l → A.le H → vsizes v.l ≤ 1000000 → (∀ t2 H2, Made H H2 v.l t2 → K t2 H2) → c_intern_own C t K H) (fun v ih => ?_) v
    intro A t H K hv hle hz k
    apply ad_intern_own
    unfold sh_intern_own
    have hl := hv.len
    have hll := vsizes_len v.l
    refine ift.of (fun h => ?_) (fun h => ?_)
    · simp only [beq_iff_eq] at h
      have : v.l = [] := List.length_eq_zero_iff.1 (by omega)
      refine k _ _ ?_
      rw [this]; exact Made.nil rfl
    · simp only [beq_eq_false_iff_ne] at h
      obtain ⟨xs, r1, r2, r3⟩ := hv
      have hf := flat4 xs
      rw [hl]
      refine ⟨by omega, Int.le_refl _, by omega, by omega, fun b nb => ?_⟩
      have hlen : (Sl.of (some (b, 0)) ((v.l.length : Nat) : Int).toNat ((v.l.length : Nat) : Int).toNat).len = v.l.length := by show ((v.l.length : Nat) : Int).toNat = _; omega
      have hB := Heap.le_put nb (g := .row (zeros (T_api_Value.c T_api_Value.zero) ((v.l.length : Nat) : Int).toNat)) (m := true)
      have hmin : Nat.min t.len (Sl.of (some (b, 0)) ((v.l.length : Nat) : Int).toNat ((v.l.length : Nat) : Int).toNat).len = v.l.length := by rw [hlen, hl]; exact Nat.min_self _
      refine ⟨xs.flatMap T_api_Value.c, rdsl_le (hle.trans hB) r1, by rw [hmin, hf]; omega, ?_, .inr ⟨(b, 0), _, rfl, rfl, Heap.put_same .., ?_, ?_⟩⟩
      · intro u hu
        obtain ⟨x, _, hx⟩ := List.mem_flatMap.1 hu
        simp only [T_api_Value.c, List.mem_cons, List.not_mem_nil, or_false] at hx
        rcases hx with rfl | rfl | rfl | rfl <;> rfl
      · rw [hf, zeros_length]
        show 0 + xs.length * 4 ≤ _ * 4
        omega
      rw [Heap.put_put]
      have hsp : splice (zeros (T_api_Value.c T_api_Value.zero) ((v.l.length : Nat) : Int).toNat) (b, 0).2 (xs.flatMap T_api_Value.c) = xs.flatMap T_api_Value.c ++ [] := by
        unfold splice
        rw [List.take_zero, List.nil_append, List.drop_of_length_le]
        rw [zeros_length, hf]
        show _ * 4 ≤ 0 + xs.length * 4
        omega
      rw [hsp]
      have hnat : ((v.l.length : Nat) : Int).toNat = v.l.length := by omega
      rw [hnat] at *
      refine ⟨fun x D => ∃ (i : Nat) (ys : List TV) (E : Heap), x = (i : Int) ∧ i ≤ v.l.length ∧ D = E.put b (.row (ys.flatMap T_api_Value.c ++ [])) ∧ Ow A H E b i v.l xs ys, fun x _ => v.l.length - x.toNat,
        ⟨0, xs, H, rfl, Nat.zero_le _, rfl, Heap.le.refl _, hle, nb, by omega, by omega, r3, fun _ _ => rfl, fun j v x hj => by omega⟩, ?_⟩
      rintro _ D ⟨i, ys, E, rfl, hi, rfl, ho⟩
      have hlen : (Sl.of (some (b, 0)) v.l.length v.l.length).len = v.l.length := rfl
      refine ift.of (fun h => ?_) (fun h => ?_)
      · have hlt : i < v.l.length := by have := of_decide_eq_true h; omega
        have hi2 : i < ys.length := by rw [ho.len]; exact hlt
        have hyx := ho.rest i (Nat.le_refl _)
        rw [List.getElem?_eq_getElem hi2] at hyx
        have hold := VIs_iff.1 (ho.old.get i _ _ (List.getElem?_eq_getElem hlt) hyx.symm)
        have hmem := List.getElem_mem hlt
        have hsz := vsize_mem hmem
        have hszl : vsize v.l[i] = vsizes v.l[i].l + 1 := by cases v.l[i]; rfl
        have e0 : 0 + ((i : Int).toNat) * 4 + 3 = i * 4 + 3 := by omega
        have hf := flat4 ys
        refine ⟨(b, 0), rfl, rfl, by omega, by rw [hlen]; omega, ?_⟩
        refine ⟨ys[i].L, ?_, ?_⟩
        · show rd _ (b, 0 + ((i : Int).toNat) * 4 + 3) = _
          rw [e0, rd_same, List.getElem?_append_left (by omega)]
          exact flat_get T_api_Value.c 4 TV.c_len ys i _ (List.getElem?_eq_getElem hi2) 3 _ rfl
        · refine ih _ hmem A _ _ _ hold.2.2.2 (ho.ale.trans (Heap.le_put ho.nb)) (by omega) fun t2 H2 hm => ?_
          obtain ⟨s1, s2⟩ := ho.step hlt hi2 hm
          refine ⟨(b, 0), rfl, rfl, by omega, by rw [hlen]; omega, ?_⟩
          refine ⟨_, hm.le _ _ (Heap.put_same ..), ?_, ?_⟩
          · show 0 + ((i : Int).toNat) * 4 + 3 < _
            rw [e0, List.length_append, hf]; omega
          · show _ ∧ _
            rw [w_i64 (by omega) (by omega)]
            refine ⟨⟨i + 1, _, _, by omega, by omega, ?_, s1⟩, by first | omega | (dsimp only; omega)⟩
            rw [← s2, ← set_L ys i hi2]
            show H2.put b (.row ((List.flatMap T_api_Value.c ys ++ []).set (0 + ((i : Int).toNat) * 4 + 3) (slv t2))) = _
            rw [e0]
      · have hie : i = v.l.length := by have := of_decide_eq_false h; omega
        refine k _ _ ?_
        have := ho.fin (sp := []) (cap := v.l.length) hie nb (by omega)
        rw [hie] at this
        exact this
  exact main (.mk 0 0 [] l) A t H K hv hle hz k
end
end Sx
end

noncomputable section
set_option linter.unusedVariables false
set_option linter.unusedSimpArgs false
set_option maxRecDepth 10000
namespace Sx
open Go Go.Proofs
abbrev encI : Int → Value := fun x : Int => (.int .i64 x : Value)
/-- the table tb, in the blocks F, holds vs -/
structure Tb (H : Heap) (F : Nat → Prop) (tb : Nat) (vs : List V) : Prop where
  ex : ∃ (R : Heap) (s : Sl) (m : Nat) (l : List (Str × Int)) (xs : List TV), H tb = some (true, .row [slv s, mv (some m)]) ∧ Own H 4 s (xs.flatMap T_api_Value.c) ∧ R.le H ∧ VsAre R vs xs ∧ MapIs encI H m l ∧ KeyOf l vs ∧
    tb ≠ m ∧ (R tb = none ∧ R m = none) ∧ (∀ p, s.p = some p → p.1 ≠ tb ∧ p.1 ≠ m ∧ R p.1 = none ∧ F p.1) ∧ (F tb ∧ F m) ∧ ∀ c, R c ≠ none → F c
  vals : Vals vs
  dom : ∀ c, F c → H c ≠ none
section
variable {C : Ctx} {H : Heap} {F : Nat → Prop} {tb : Nat} {vs : List V}
theorem Tb.le {H2 : Heap} (h : Tb H F tb vs) (hle : H.le H2) : Tb H2 F tb vs := by
  obtain ⟨⟨R, s, m, l, xs, h1, h2, h3, h4, h5, h6, h7, h8, h9, h10, h11⟩, hv, hd⟩ := h
  refine ⟨⟨R, s, m, l, xs, hle _ _ h1, h2.le hle, h3.trans hle, h4, h5.le hle, h6, h7, h8, h9, h10, h11⟩, hv, fun c hc e => hd c hc (hle.none e)⟩
theorem Tb.keep {F2 : Nat → Prop} {H2 : Heap} (h : Tb H F tb vs) (hk : Keep F2 H H2) (hF : ∀ c, F c → ¬ F2 c) : Tb H2 F tb vs := by
  obtain ⟨⟨R, s, m, l, xs, h1, h2, h3, h4, h5, h6, h7, h8, h9, h10, h11⟩, hv, hd⟩ := h
  have st : ∀ c e, F c → H c = some e → H2 c = some e := fun c e hc he => hk c e (hF c hc) he
  refine ⟨⟨R, s, m, l, xs, st _ _ h10.1 h1, ?_, fun c e hc => st c e (h11 c (by rw [hc]; simp)) (h3 c e hc), h4, ?_, h6, h7, h8, h9, h10, h11⟩, hv, fun c hc e => ?_⟩
  · obtain ⟨q1, q2, q3, q4 | ⟨b, sp, q4, q5, q6⟩⟩ := h2
    · exact ⟨q1, q2, q3, .inl q4⟩
    · exact ⟨q1, q2, q3, .inr ⟨b, sp, q4, st _ _ (h9 _ q4).2.2.2 q5, q6⟩⟩
  · obtain ⟨⟨es, ck, q1, q2⟩, q3⟩ := h5
    exact ⟨⟨es, ck, st _ _ h10.2 q1, q2⟩, q3⟩
  · cases hh : H c with
    | none => exact hd c hc hh
    | some x => rw [st c x hc hh] at e; cases e
theorem new_ok {K : Option (Nat × Nat) → Heap → Prop} (k : ∀ tb H2, H.le H2 → H tb = none → Tb H2 (fun c => H c = none ∧ H2 c ≠ none) tb [] → K (some (tb, 0)) H2) : c_intern_New C K H := by
  apply ad_intern_New
  unfold sh_intern_New
  intro b1 n1 b3 n3
  have l1 := Heap.le_put n1 (g := .obj (.map #[] 0)) (m := true)
  have l3 := Heap.le_put n3 (g := .row (T_intern_Table.c ⟨Sl.nil, some b1⟩)) (m := true)
  have ne : b3 ≠ b1 := fun e => by rw [e, Heap.put_same] at n3; cases n3
  have n3' : H b3 = none := l1.none n3
  refine k b3 _ (l1.trans l3) n3' ⟨⟨fun _ => none, Sl.nil, b1, [], [], Heap.put_same .., Own.nil _ 4, (fun c e h => by cases h), trivial, MapIs.new.le l3, KeyOf.nil, ne, ⟨rfl, rfl⟩, (fun p hp => by cases hp), ⟨⟨n3', ?_⟩, ⟨n1, ?_⟩⟩, fun c h => absurd rfl h⟩, Vals.nil, fun c h => h.2⟩
  · rw [Heap.put_same]; simp
  · rw [Heap.put_ne _ _ _ (Ne.symm ne), Heap.put_same]; simp
theorem Tb.all (h : Tb H F tb vs) : ∃ s : Sl, rd H (tb, 0) = some (slv s) ∧ VRow H s vs ∧ s.len = vs.length ∧ s.len ≤ s.cap ∧ s.x = none ∧ ∃ xs : List TV, rdsl H s (xs.flatMap T_api_Value.c) ∧ VsAre H vs xs := by
  obtain ⟨⟨R, s, m, l, xs, h1, h2, h3, h4, h5, h6, h7, h8, h9, h10, h11⟩, hv, hd⟩ := h
  have hl := h4.len
  have h20 := h2.1
  rw [flat4] at h20
  refine ⟨s, by simp [rd, h1, GO.cells?], ⟨xs, h2.rdsl, by omega, h4.le h3⟩, by omega, h2.2.2.1, h2.2.1, xs, h2.rdsl, h4.le h3⟩
theorem Len_ok {K : Int → Heap → Prop} (h : Tb H F tb vs) (k : K (vs.length : Int) H) : c_intern_Table_Len C (some (tb, 0)) K H := by
  obtain ⟨s, h1, _, h3, _⟩ := h.all
  apply ad_intern_Table_Len
  unfold sh_intern_Table_Len
  refine ift_neg rfl ⟨_, rfl, s, h1, ?_⟩
  dsimp only
  rw [h3]; exact k
theorem Find_ok (hF : FmtC C) {v : V} {x : TV} {K : Int → Bool → Heap → Prop} (h : Tb H F tb vs) (hv : VIs H v x) (hB : VB v) (hs : vsize v ≤ 1000000)
    (k0 : mayV v = false → ∀ H2, H.le H2 → K 0 false H2) (k1 : mayV v = true → ∀ H2, H.le H2 → K (((posV v vs).getD 0 : Nat) : Int) (posV v vs).isSome H2) : c_intern_Table_Find C (some (tb, 0)) x K H := by
  apply ad_intern_Table_Find
  unfold sh_intern_Table_Find
  intro b1 n1
  have l1 := Heap.le_put n1 (g := .row (T_api_Value.c x)) (m := true)
  have hb : (H.put b1 (.row (T_api_Value.c x))) b1 = some (true, .row (T_api_Value.c x)) := Heap.put_same ..
  have hv1 := hv.le l1
  have ht := h.le l1
  generalize H.put b1 (.row (T_api_Value.c x)) = H1 at *
  refine ⟨fun b E => E = H1 ∧ b = !mayV v, ?_, ?_⟩
  · refine ift_neg rfl (bxV hb (value_Check_ok hv1 hB ⟨rfl, ?_⟩))
    rw [bne, mayV_dec]
  rintro _ E ⟨rfl, rfl⟩
  refine ift.of (fun hm => k0 (by simpa using hm) _ l1) (fun hm => ?_)
  have hm : mayV v = true := by simpa using hm
  obtain ⟨⟨R, s, m, l, xs, h1, h2, h3, h4, h5, h6, _⟩, _, _⟩ := ht
  refine ⟨E, Heap.le.refl _, ⟨_, rfl, some m, by simp [rd, h1, GO.cells?], bxV hb (Show_ok hF hv1 hB (fun h => show_may hB h hs) fun H2 h2' => ⟨h2', ?_⟩)⟩⟩
  rw [if_pos hm]
  have hk := h6 v hm
  refine (h5.le h2').lk (fun n hn => ⟨h2', ?_⟩) (fun hn => ⟨h2', ?_⟩)
  · rw [hk] at hn
    obtain ⟨j, hj, rfl⟩ := Option.map_eq_some_iff.1 hn
    have := k1 hm H2 (l1.trans h2')
    rw [hj] at this; exact this
  · rw [hk] at hn
    have := k1 hm H2 (l1.trans h2')
    rw [Option.map_eq_none_iff.1 hn] at this; exact this
theorem Put_ok (hF : FmtC C) {A : Heap} {v : V} {x : TV} {K : Int → Int → Heap → Prop} (h : Tb H F tb vs) (hA : A.le H) (hAF : ∀ c, F c → A c = none) (hv : VIs A v x) (hB : VB v) (hs : vsize v ≤ 1000000) (hn : vs.length ≤ 1000000)
    (k0 : mayV v = false → ∀ H2, H.le H2 → K 0 (checkV v) H2) (k1 : mayV v = true → ∀ H2 F2, Tb H2 F2 tb (putV vs v).1 → Keep F H H2 → (∀ c, F2 c → F c ∨ H c = none) → K ((putV vs v).2 : Nat) 0 H2) : c_intern_Table_Put C (some (tb, 0)) x K H := by
  apply ad_intern_Table_Put
  unfold sh_intern_Table_Put
  intro b1 n1
  have l1 := Heap.le_put n1 (g := .row (T_api_Value.c x)) (m := true)
  have hb : (H.put b1 (.row (T_api_Value.c x))) b1 = some (true, .row (T_api_Value.c x)) := Heap.put_same ..
  have ht := h.le l1
  have hFb : ¬ F b1 := fun hf => h.dom b1 hf n1
  -- what is looked at and kept: A and the box
  let A1 : Heap := A.put b1 (.row (T_api_Value.c x))
  have hA1 : A1.le (H.put b1 (.row (T_api_Value.c x))) := fun c e hc => by
    by_cases hcb : c = b1
    · subst hcb
      have : A1 c = some (true, .row (T_api_Value.c x)) := Heap.put_same ..
      rw [this] at hc; rw [Heap.put_same]; exact hc
    · have : A1 c = A c := Heap.put_ne _ _ _ hcb
      rw [this] at hc
      rw [Heap.put_ne _ _ _ hcb]; exact hA _ _ hc
  have hAA1 : A.le A1 := Heap.le_put (hA.none n1)
  have hA1F : ∀ c, F c → A1 c = none := fun c hc => by
    have : c ≠ b1 := fun e => hFb (e ▸ hc)
    show (A.put b1 _) c = none
    rw [Heap.put_ne _ _ _ this]; exact hAF c hc
  have hb1 : A1 b1 = some (true, .row (T_api_Value.c x)) := Heap.put_same ..
  generalize H.put b1 (.row (T_api_Value.c x)) = H1 at *
  have hv1 := hv.le (hA.trans l1)
  refine ift_neg rfl (bxV hb (value_Check_ok hv1 hB ?_))
  rw [bne, mayV_dec]
  refine ift.of (fun hm => k0 (by simpa using hm) _ l1) (fun hm => ?_)
  have hm : mayV v = true := by simpa using hm
  refine bxV hb (Show_ok hF hv1 hB (fun h => show_may hB h hs) fun H2 l2 => ?_)
  rw [if_pos hm]
  have ht2 := ht.le l2
  have k1 := k1 hm
  obtain ⟨⟨R, s, m, l, xs, h1, h2, h3, h4, h5, h6, h7, h8, h9, h10, h11⟩, hvals, hdom⟩ := ht2
  have hl := h4.len
  have hfx := flat4 xs
  have hsl : s.len = vs.length := by have := h2.1; omega
  have rd0 : rd H2 (tb, 0) = some (slv s) := by simp [rd, h1, GO.cells?]
  have rd1 : rd H2 (tb, 1) = some (mv (some m)) := by simp [rd, h1, GO.cells?]
  refine ⟨_, rfl, some m, rd1, ?_⟩
  have hk := h6 v hm
  have lH2 : H.le H2 := l1.trans l2
  refine h5.lk (fun n hn' => ?_) (fun hn' => ?_)
  · rw [hk] at hn'
    obtain ⟨j, hj, rfl⟩ := Option.map_eq_some_iff.1 hn'
    have hput : putV vs v = (vs, j) := by unfold putV; rw [hj]
    refine ⟨fun r E => r = (j : Int) ∧ E = H2, ift_neg rfl ⟨rfl, rfl⟩, ?_⟩
    rintro _ _ ⟨rfl, rfl⟩
    rw [hput] at k1
    exact k1 _ F (h.le lH2) (Keep.of_le lH2) fun c hc => .inl hc
  · rw [hk] at hn'
    have hj := Option.map_eq_none_iff.1 hn'
    have hput : putV vs v = (vs ++ [v], vs.length) := by unfold putV; rw [hj]
    rw [hput] at k1
    refine ⟨fun r E => r = (vs.length : Int) ∧ ∃ F2, Tb E F2 tb (vs ++ [v]) ∧ Keep F H E ∧ ∀ c, F2 c → F c ∨ H c = none, ?_, ?_⟩
    · refine ift_pos rfl ⟨_, rfl, s, rd0, _, rfl, some m, rd1, m, l, rfl, h5, fun g l2' q1 q2 q3 => ?_⟩
      rw [hsl] at q2 ⊢
      have hkey := h6.add hm hj q2
      -- H3
      have s3 : ∀ c e, c ≠ m → H2 c = some e → (H2.put m g) c = some e := fun c e hc he => by rw [Heap.put_ne _ _ _ hc]; exact he
      have t3 : (H2.put m g) tb = some (true, .row [slv s, mv (some m)]) := s3 _ _ h7 h1
      have a3 : A1.le (H2.put m g) := fun c e hc => s3 c e (fun e' => by rw [e', hA1F m h10.2] at hc; cases hc) (l2 _ _ (hA1 _ _ hc))
      have m3 : MapIs encI (H2.put m g) m l2' := q1
      have hmn : (H2.put m g) m ≠ none := by rw [Heap.put_same]; simp
      have hdom3 : ∀ c, H2 c ≠ none → (H2.put m g) c ≠ none := fun c hc => by
        by_cases hcm : c = m
        · rw [hcm]; exact hmn
        · rw [Heap.put_ne _ _ _ hcm]; exact hc
      have hnone3 : ∀ c, (H2.put m g) c = none → H2 c = none := fun c hc => by
        cases hh : H2 c with
        | none => rfl
        | some y => exact absurd hc (hdom3 c (by rw [hh]; simp))
      generalize H2.put m g = H3 at *
      have off3 : ∀ c e, (∀ p, s.p = some p → p.1 ≠ c) → H3 c = some e → (H3.off s) c = some e := fun c e hc he => Heap.off_some he hc
      have sb1 : ∀ p, s.p = some p → p.1 ≠ b1 := fun p hp e => hFb (e ▸ (h9 p hp).2.2.2)
      refine ⟨H3.off s, Heap.off_le s H3, ⟨_, rfl, s, by simp [rd, off3 _ _ (fun p hp => (h9 p hp).1) t3, GO.cells?], bxV (off3 _ _ sb1 (a3 _ _ hb1)) ?_⟩⟩
      intro b43 n43
      have l43 := Heap.le_put n43 (g := .row (T_api_Value.c x ++ [])) (m := true)
      have row43 : VRow ((H3.put b43 (.row (T_api_Value.c x ++ [])))) (Sl.of (some (b43, 0)) 1 1) [v] := by
        refine ⟨[x], .inr ⟨rfl, _, rfl, rds_row (Heap.put_same ..) fun j u hj => ?_⟩, rfl, (hv.le hAA1).le (a3.trans l43), trivial⟩
        simpa using hj
      generalize hH4 : H3.put b43 (.row (T_api_Value.c x ++ [])) = H4 at *
      refine ⟨(Heap.off_le s H3).trans l43, iown_ok row43 (Heap.le.refl _) (by simp only [vsizes]; omega) fun t2 H5 hM => ⟨(Heap.off_le s H3).trans (l43.trans hM.le), ?_⟩⟩
      have l35 := l43.trans hM.le
      obtain ⟨ys, y1, y2, y3⟩ := hM.row
      have hyl := y3.len
      match ys, y1, y2, y3, hyl with
      | [y], y1, y2, y3, _ =>
        have o5 : Own H5 4 s (xs.flatMap T_api_Value.c) := by
          obtain ⟨p1, p2, p3, p4 | ⟨b, sp, p4, p5, p6⟩⟩ := h2
          · exact ⟨p1, p2, p3, .inl p4⟩
          · exact ⟨p1, p2, p3, .inr ⟨b, sp, p4, l35 _ _ (s3 _ _ (h9 _ p4).2.1 p5), p6⟩⟩
        have o5' := o5
        refine apS_ownF (zc := T_api_Value.c T_api_Value.zero) o5.off (rdsl_le (Heap.new_le _ _) y1) (by rw [y2]; simp [T_api_Value.c, T_api_Value.zero]) (fun u hu => ?_) (by rw [y2]; simp; omega) (by rw [y2]; simp; omega) fun r H6 ho hr => ?_
        · simp only [List.flatMap_cons, List.flatMap_nil, List.append_nil, T_api_Value.c, List.mem_cons, List.not_mem_nil, or_false] at hu
          rcases hu with rfl | rfl | rfl | rfl <;> rfl
        have st6 : ∀ c e, (∀ p, s.p = some p → p.1 ≠ c) → H5 c = some e → H6 c = some e := fun c e hc he => ho.le _ _ (Heap.off_some he hc)
        have t6 : H6 tb = some (true, .row [slv s, mv (some m)]) := st6 _ _ (fun p hp => (h9 p hp).1) (l35 _ _ t3)
        have l36 : (∀ p, s.p = some p → H3 p.1 ≠ none) := fun p hp => by
          obtain ⟨g', hg'⟩ := h2.mine hp
          exact hdom3 _ (by rw [hg']; simp)
        have offH5 : ∀ c e, (∀ p, s.p = some p → p.1 ≠ c) → H5 c = some e → (H5.off s) c = some e := fun c e hc he => Heap.off_some he hc
        refine ⟨fun c e hc => ?_, _, rfl, _, t6, by show 0 + 0 < 2; omega, ?_⟩
        · have hcs : ∀ p, s.p = some p → p.1 ≠ c := fun p hp e' => by
            have := Heap.off_fresh s H3 p hp
            rw [e', hc] at this; cases this
          exact st6 _ _ hcs (l35 _ _ (Heap.off_le s H3 _ _ hc))
        have hset : ([slv s, mv (some m)] : List Value).set (0 + 0) (slv r) = [slv r, mv (some m)] := rfl
        show _ = _ ∧ ∃ F2, Tb (H6.put tb (.row (([slv s, mv (some m)] : List Value).set (0 + 0) (slv r)))) F2 tb (vs ++ [v]) ∧ _
        rw [hset]
        let R2 : Heap := fun c => if (R c).isSome then R c else Heap.new H4 H5 c
        have hR2 : ∀ c e, R2 c = some e → (R c = some e) ∨ (H4 c = none ∧ H5 c = some e) := fun c e hc => by
          show _ ∨ _
          have hc : (if (R c).isSome then R c else Heap.new H4 H5 c) = some e := hc
          split at hc
          · exact .inl hc
          · exact .inr (Heap.new_inv hc)
        have h43 : ∀ c, H4 c = none → H3 c = none := fun c hc => l43.none hc
        have R2off : R2.le (H5.off s) := fun c e hc => by
          rcases hR2 c e hc with hc | ⟨n4, hc⟩
          · refine offH5 _ _ (fun p hp e' => ?_) (l35 _ _ (s3 _ _ (fun e' => by rw [e', h8.2] at hc; cases hc) (h3 _ _ hc)))
            have := (h9 p hp).2.2.1
            rw [e', hc] at this; cases this
          · exact offH5 _ _ (fun p hp e' => l36 p hp (by rw [e']; exact h43 _ n4)) hc
        have h4tb : (H4 tb).isSome = true := by rw [l43 _ _ t3]; rfl
        have h4m : (H4 m).isSome = true := by
          obtain ⟨⟨es, ck, w1, w2⟩, w3⟩ := m3
          rw [l43 _ _ w1]; rfl
        have R2tb : R2 tb = none := by
          show (if (R tb).isSome then R tb else Heap.new H4 H5 tb) = none
          rw [h8.1]; simp only [Option.isSome_none, Bool.false_eq_true, if_false]
          unfold Heap.new; rw [if_pos h4tb]
        have R2m : R2 m = none := by
          show (if (R m).isSome then R m else Heap.new H4 H5 m) = none
          rw [h8.2]; simp only [Option.isSome_none, Bool.false_eq_true, if_false]
          unfold Heap.new; rw [if_pos h4m]
        have R2le : R2.le (H6.put tb (.row [slv r, mv (some m)])) := fun c e hc => by
          have : c ≠ tb := fun e' => by rw [e', R2tb] at hc; cases hc
          rw [Heap.put_ne _ _ _ this]; exact ho.le _ _ (R2off _ _ hc)
        have rR : R.le R2 := fun c e hc => by
          show (if (R c).isSome then R c else Heap.new H4 H5 c) = _
          rw [hc]; rfl
        have nR : (Heap.new H4 H5).le R2 := fun c e hc => by
          show (if (R c).isSome then R c else Heap.new H4 H5 c) = _
          rw [if_neg]; exact hc
          intro hs
          cases hRc : R c with
          | none => rw [hRc] at hs; cases hs
          | some z =>
            have z2 := l43 _ _ (s3 _ _ (fun e' => by rw [e', h8.2] at hRc; cases hRc) (h3 _ _ hRc))
            rw [(Heap.new_inv hc).1] at z2; cases z2
        have hrtb : ∀ p, r.p = some p → p.1 ≠ tb := fun p hp e' => by
          have := ho.fresh p hp
          rw [e', offH5 _ _ (fun p hp => (h9 p hp).1) (l35 _ _ t3)] at this; cases this
        have hrm : ∀ p, r.p = some p → p.1 ≠ m := fun p hp e' => by
          obtain ⟨⟨es, ck, w1, w2⟩, w3⟩ := m3
          have := ho.fresh p hp
          rw [e', offH5 _ _ (fun p hp => (h9 p hp).2.1) (l35 _ _ w1)] at this; cases this
        have own7 : Own (H6.put tb (.row [slv r, mv (some m)])) 4 r ((xs ++ [y]).flatMap T_api_Value.c) := by
          rw [List.flatMap_append]
          obtain ⟨p1, p2, p3, p4 | ⟨b, sp, p4, p5, p6⟩⟩ := ho.own
          · exact ⟨p1, p2, p3, .inl p4⟩
          · exact ⟨p1, p2, p3, .inr ⟨b, sp, p4, by rw [Heap.put_ne _ _ _ (hrtb _ p4)]; exact p5, p6⟩⟩
        have hHn : ∀ c, H5 c = none → H c = none := fun c hc => by
          cases hh : H c with
          | none => rfl
          | some z =>
            have := l35.none hc
            have := hnone3 _ this
            rw [lH2 _ _ hh] at this; cases this
        have h7tb : (H6.put tb (.row [slv r, mv (some m)])) tb ≠ none := by rw [Heap.put_same]; simp
        have map7 : MapIs encI (H6.put tb (.row [slv r, mv (some m)])) m l2' := by
          obtain ⟨⟨es, ck, w1, w2⟩, w3⟩ := m3
          exact ⟨⟨es, ck, by rw [Heap.put_ne _ _ _ (Ne.symm h7)]; exact st6 _ _ (fun p hp => (h9 p hp).2.1) (l35 _ _ w1), w2⟩, w3⟩
        have h7m : (H6.put tb (.row [slv r, mv (some m)])) m ≠ none := by
          obtain ⟨g', hg'⟩ := map7.mine
          rw [hg']; simp
        refine ⟨rfl, fun c => (H6.put tb (.row [slv r, mv (some m)])) c ≠ none ∧ (F c ∨ H c = none), ⟨⟨R2, r, m, l2', xs ++ [y], Heap.put_same .., own7, R2le, ?_, map7, hkey, h7, ⟨R2tb, R2m⟩, fun p hp => ⟨hrtb p hp, hrm p hp, ?_, ?_, ?_⟩, ⟨⟨h7tb, .inl h10.1⟩, h7m, .inl h10.2⟩, fun c hc => ?_⟩, ?_, fun c hc => hc.1⟩, fun c e hf hc => ?_, fun c hc => hc.2⟩
        · refine VsAre.of (by simp; omega) fun i w z hw hz => ?_
          by_cases hi : i < vs.length
          · rw [List.getElem?_append_left hi] at hw
            rw [List.getElem?_append_left (by omega)] at hz
            exact (h4.get i w z hw hz).le rR
          · rw [List.getElem?_append_right (by omega)] at hw hz
            have hlt := (List.getElem?_eq_some_iff.1 hw).1
            simp only [List.length_singleton] at hlt
            have e1 : i - vs.length = 0 := by omega
            have e2 : i - xs.length = 0 := by omega
            rw [e1] at hw; rw [e2] at hz
            simp only [List.getElem?_cons_zero, Option.some.injEq] at hw hz
            subst hw; subst hz
            exact y3.1.le nR
        · exact R2off.none (ho.fresh p hp)
        · obtain ⟨g', hg'⟩ := own7.mine hp
          rw [hg']; simp
        · have hfr := ho.fresh p hp
          by_cases hsp : ∃ q, s.p = some q ∧ q.1 = p.1
          · obtain ⟨q, q1, q2⟩ := hsp
            exact .inl (q2 ▸ (h9 q q1).2.2.2)
          · refine .inr (hHn _ ?_)
            cases hh : H5 p.1 with
            | none => rfl
            | some z => rw [offH5 _ _ (fun q hq e' => hsp ⟨q, hq, e'⟩) hh] at hfr; cases hfr
        · cases hR : R2 c with
          | none => exact absurd hR hc
          | some z =>
            refine ⟨by rw [R2le _ _ hR]; simp, ?_⟩
            rcases hR2 c z hR with hR | ⟨n4, _⟩
            · exact .inl (h11 c (by rw [hR]; simp))
            · refine .inr ?_
              have := hnone3 _ (h43 _ n4)
              exact lH2.none this
        · have := hvals.put hm hB
          rw [hput] at this; exact this
        · have c1 : c ≠ m := fun e' => hf (e' ▸ h10.2)
          have c2 : c ≠ tb := fun e' => hf (e' ▸ h10.1)
          rw [Heap.put_ne _ _ _ c2]
          exact st6 _ _ (fun p hp e' => hf (e' ▸ (h9 p hp).2.2.2)) (l35 _ _ (s3 _ _ c1 (lH2 _ _ hc)))
      | [], _, _, _, hyl => simp at hyl
      | _ :: _ :: _, _, _, _, hyl => simp at hyl
    · rintro _ E ⟨rfl, F2, e1, e2, e3⟩
      exact k1 E F2 e1 e2 e3
end
end Sx
end

noncomputable section
set_option linter.unusedVariables false
set_option linter.unusedSimpArgs false
set_option maxRecDepth 10000
namespace Sx
open Go Go.Proofs
theorem rdsl_slv {H : Heap} {s t : Sl} {cs : List Value} (e : slv s = slv t) (h : rdsl H s cs) : rdsl H t cs := by
  simp only [slv, Value.slice.injEq] at e
  obtain ⟨e1, e2, e3⟩ := e
  rcases h with h | ⟨hx, p, hp, hr⟩
  · exact .inl h
  · unfold Sl.ad at e1
    rw [hp, hx] at e1
    cases ht : t.p with
    | none => rw [ht] at e1; cases e1
    | some q =>
      rw [ht] at e1
      simp only [Option.map_some, Option.some.injEq, Addr.mk.injEq] at e1
      obtain ⟨q1, q2, q3⟩ := e1
      have : q = p := by obtain ⟨a, b⟩ := q; obtain ⟨c, d⟩ := p; simp only at q1 q2; rw [q1, q2]
      exact .inr ⟨q3.symm, q, ht, by rw [this]; exact hr⟩
theorem Made.one {H H2 : Heap} {v : V} {t : Sl} (h : Made H H2 [v] t) : t.len = 1 ∧ ∃ y : TV, rdsl H2 t (T_api_Value.c y) ∧ VIs (Heap.new H H2) v y ∧ ∃ k, Sp (fun c => H c = none) H2 k y.L := by
  have hl := h.row.len
  obtain ⟨ys, y1, y2, y3⟩ := h.row
  obtain ⟨k, hk⟩ := h.sp
  refine ⟨by simpa using hl, ?_⟩
  have hyl := y3.len
  match ys, y1, y2, y3, hyl with
  | [y], y1, y2, y3, _ =>
    cases k with
    | zero => have : t.len = 0 := hk; simp at hl; omega
    | succ k =>
      rcases hk with h0 | ⟨b, xs, sp, q1, q2, q3, q4, q5, q6⟩
      · simp at hl; omega
      · simp at hl
        match xs, q4, q5, q6 with
        | [], _, q5, _ => simp at q5; omega
        | x0 :: xs, q4, q5, q6 =>
          have r0 : rdsl H2 t (T_api_Value.c x0) := .inr ⟨q3, _, q2, rds_row q4 fun j u hj => by
            rw [Nat.zero_add, List.flatMap_cons, List.append_assoc, List.getElem?_append_left (List.getElem?_eq_some_iff.1 hj).1]; exact hj⟩
          have r1 : rdsl H2 t (T_api_Value.c y) := by simpa using rdsl_le (Heap.new_le _ _) y1
          have same : T_api_Value.c y = T_api_Value.c x0 := by
            rcases r1 with r1 | ⟨_, p, hp, r1⟩
            · cases r1
            · rcases r0 with r0 | ⟨_, p', hp', r0⟩
              · cases r0
              · rw [hp] at hp'; injection hp' with hp'; subst hp'
                apply List.ext_getElem?
                intro j
                by_cases hj : j < 4
                · have a1 := rds_get r1 j _ (List.getElem?_eq_getElem (by rw [TV.c_len]; exact hj))
                  have a2 := rds_get r0 j _ (List.getElem?_eq_getElem (by rw [TV.c_len]; exact hj))
                  rw [List.getElem?_eq_getElem (by rw [TV.c_len]; exact hj), List.getElem?_eq_getElem (by rw [TV.c_len]; exact hj)]
                  rw [← a1, ← a2]
                · rw [List.getElem?_eq_none (by rw [TV.c_len]; omega), List.getElem?_eq_none (by rw [TV.c_len]; omega)]
          simp only [T_api_Value.c, List.cons.injEq, Value.int.injEq, true_and, and_true] at same
          obtain ⟨s1, s2, s3, s4⟩ := same
          have hy := VIs_iff.1 y3.1
          obtain ⟨zs, z1, z2, z3⟩ := hy.2.2.2
          refine ⟨x0, r0, VIs_iff.2 ⟨by rw [← s1]; exact hy.1, by rw [← s2]; exact hy.2.1, by rw [← sv_inj s3]; exact hy.2.2.1, zs, rdsl_slv s4 z1, ?_, z3⟩, k, q6 _ (List.mem_cons_self ..)⟩
          simp only [slv, Value.slice.injEq] at s4
          omega
  | [], _, _, _, hyl => simp at hyl
  | _ :: _ :: _, _, _, _, hyl => simp at hyl
theorem Od.stepR {H B B2 B4 : Heap} {l : List V} {s r t : Sl} {ys : List TV} {x : TV} (h : Od H B l s ys) (hi : ys.length < l.length) (hle : B.le B2) (hx : VIs (Heap.new B B2) l[ys.length] x) (hs : ∃ k, Sp (fun c => B c = none) B2 k x.L)
    (h4 : OwnF (B2.off s) B4 4 r (ys.flatMap T_api_Value.c ++ T_api_Value.c x)) : Od H B4 l r (ys ++ [x]) := by
  have hoff : (B.off s).le (B2.off s) := fun c e hc => by
    refine Heap.off_some (hle _ _ (Heap.off_le _ _ _ _ hc)) fun p hp e' => ?_
    have := Heap.off_fresh s B p hp
    rw [e', hc] at this; cases this
  have h34 : (B2.off s).le (B4.off r) := Heap.le_off h4.le h4.fresh
  have hch : ∀ c e, B c = none → B2 c = some e → H c = none ∧ (B4.off r) c = some e := fun c e hn he => by
    refine ⟨h.own.le.none hn, h34 _ _ (Heap.off_some he fun p hp e' => ?_)⟩
    obtain ⟨g', hg'⟩ := h.own.own.mine hp
    rw [e', hn] at hg'; cases hg'
  have hnn : (Heap.new H (B.off s)).le (Heap.new H (B4.off r)) := fun c e hc => by
    obtain ⟨a1, a2⟩ := Heap.new_inv hc
    exact Heap.new_some (h34 _ _ (hoff _ _ a2)) a1
  refine ⟨?_, by rw [List.length_append]; exact hi, fun j v y hv hy => ?_⟩
  · have e : (ys ++ [x]).flatMap T_api_Value.c = ys.flatMap T_api_Value.c ++ T_api_Value.c x := by rw [List.flatMap_append, List.flatMap_singleton]
    rw [e]
    exact h4.down (Heap.le_off (h.own.le.trans hle) h.own.fresh)
  · by_cases hj : j < ys.length
    · rw [List.getElem?_append_left hj] at hy
      obtain ⟨d1, k, d2⟩ := h.done j v y hv hy
      exact ⟨d1.le hnn, k, d2.to fun c e h he => ⟨h, h34 _ _ (hoff _ _ he)⟩⟩
    · have hjl := (List.getElem?_eq_some_iff.1 hy).1
      rw [List.length_append, List.length_singleton] at hjl
      have hje : j = ys.length := by omega
      subst hje
      rw [List.getElem?_append_right (Nat.le_refl _), Nat.sub_self] at hy
      simp only [List.getElem?_cons_zero, Option.some.injEq] at hy
      rw [List.getElem?_eq_getElem hi] at hv
      have hv := Option.some.inj hv
      subst hy; subst hv
      refine ⟨hx.le fun c e hc => ?_, ?_⟩
      · obtain ⟨a1, a2⟩ := Heap.new_inv hc
        obtain ⟨a3, a4⟩ := hch c e a1 a2
        exact Heap.new_some a4 a3
      · obtain ⟨k, hk⟩ := hs
        exact ⟨k, hk.to fun c e h he => hch c e h he⟩
abbrev V0 : V := .mk 0 0 [] []
def atV (vs : List V) (n : Int) : V := vs.getD n.toNat V0
section
variable {C : Ctx} {H : Heap} {F : Nat → Prop} {tb : Nat} {vs : List V}
theorem tRow_ok {A : Heap} {t : Sl} {ns : List Int} {K : Sl → Int → Heap → Prop} (h : Tb H F tb vs) (hA : A.le H) (ht : rdsl A t (ns.map encI)) (hl : t.len = ns.length) (hn : ns.length ≤ 1000000) (hvn : vs.length ≤ 1000000) (hvs : ∀ v ∈ vs, vsize v ≤ 1000000)
    (k1 : (∀ n ∈ ns, 0 ≤ n ∧ n < vs.length) → ∀ r H2, Made H H2 (ns.map (atV vs)) r → K r 0 H2) (k2 : (¬ ∀ n ∈ ns, 0 ≤ n ∧ n < vs.length) → ∀ H2, H.le H2 → K Sl.nil 5 H2) : c_intern_Table_Row C (some (tb, 0)) t K H := by
  apply ad_intern_Table_Row
  unfold sh_intern_Table_Row
  refine ift_neg rfl ?_
  rw [hl]
  refine ⟨fun x D => ∃ (s : Sl) (ys : List TV), x = (s, (ys.length : Int)) ∧ Od H D (ns.map (atV vs)) s ys ∧ ∀ n ∈ ns.take ys.length, 0 ≤ n ∧ n < vs.length, fun x _ => ns.length - x.2.toNat, ⟨Sl.nil, [], rfl, Od.nil, fun n hn => by simp at hn⟩, ?_⟩
  rintro _ D ⟨s, ys, rfl, ho, hall⟩
  have hole := ho.le
  rw [List.length_map] at hole
  refine ift.of (fun hlt => ?_) (fun hlt => ?_)
  · have hlt : ys.length < ns.length := by have := of_decide_eq_true hlt; dsimp only at this; omega
    refine ix_ldI (rdsl_le (hA.trans ho.own.le) ht) rfl (by omega) (x := ns[ys.length]) (by rw [List.getElem?_map, List.getElem?_eq_getElem hlt]; rfl) ?_
    have hT := h.le ho.own.le
    obtain ⟨sa, a1, a2, a3, a4, a5, xs, a6, a7⟩ := hT.all
    generalize hnn : ns[ys.length] = n
    have hmem : n ∈ ns := by rw [← hnn]; exact List.getElem_mem hlt
    refine ⟨fun b E => E = D ∧ (b = false → 0 ≤ n ∧ n < vs.length) ∧ (b = true → ¬ (0 ≤ n ∧ n < vs.length)), ?_, ?_⟩
    · refine ift.of (fun h0 => ⟨rfl, (fun h => by cases h), fun _ h => ?_⟩) (fun h0 => ⟨_, rfl, sa, a1, rfl, fun h1 => ?_, fun h1 => ?_⟩)
      · have := of_decide_eq_true h0; omega
      · have h0 := of_decide_eq_false h0; have h1 := of_decide_eq_false h1; omega
      · have h1 := of_decide_eq_true h1; omega
    rintro b E ⟨rfl, hb1, hb2⟩
    refine ift.of (fun hb => k2 (fun hall' => hb2 hb (hall' n hmem)) _ ho.own.le) (fun hb => ?_)
    obtain ⟨n0, n1⟩ := hb1 hb
    have w1 : w .i64 (n + 1) = n + 1 := w_i64 (by omega) (by omega)
    rw [w1]
    refine ⟨_, rfl, sa, a1, n0, by omega, by omega, by omega, _, rfl, ?_⟩
    have hnl : n.toNat < vs.length := by omega
    have hxl := a7.len
    have hsl1 := rdsl_slice a6 (lo := n) (hi := n + 1) (mx := (sa.cap : Int)) (z := 4) n0 (by omega) (by omega) (by rw [flat4]; omega)
    have e1 : (n + 1 - n).toNat * 4 = 4 := by omega
    rw [e1] at hsl1
    have hxn : n.toNat < xs.length := by omega
    have hcut : ((xs.flatMap T_api_Value.c).drop (n.toNat * 4)).take 4 = T_api_Value.c xs[n.toNat] := by
      have e2 : xs = xs.take n.toNat ++ xs[n.toNat] :: xs.drop (n.toNat + 1) := by rw [← List.drop_eq_getElem_cons hxn, List.take_append_drop]
      have e3 : ((xs.take n.toNat).flatMap T_api_Value.c).length = n.toNat * 4 := by rw [flat4, List.length_take]; omega
      have e4 : xs.flatMap T_api_Value.c = (xs.take n.toNat).flatMap T_api_Value.c ++ (T_api_Value.c xs[n.toNat] ++ (xs.drop (n.toNat + 1)).flatMap T_api_Value.c) := by
        rw [← List.flatMap_cons, ← List.flatMap_append, ← e2]
      rw [e4, ← e3, List.drop_left, List.take_append_of_le_length (by rw [TV.c_len]; exact Nat.le_refl _), List.take_of_length_le (by rw [TV.c_len]; exact Nat.le_refl _)]
    rw [hcut] at hsl1
    have hvv : VRow E ⟨if (sa.cap : Int) = n then sa.p else sa.p.map (fun p => (p.1, p.2 + n.toNat * 4)), (n + 1 - n).toNat, ((sa.cap : Int) - n).toNat, if (sa.cap : Int) = n ∨ n.toNat * 4 = 0 then sa.x else none⟩ [vs[n.toNat]] :=
      ⟨[xs[n.toNat]], by simpa using hsl1, by show (n + 1 - n).toNat = 1; omega, a7.get n.toNat _ _ (List.getElem?_eq_getElem hnl) (List.getElem?_eq_getElem hxn), trivial⟩
    have hvz := hvs _ (List.getElem_mem hnl)
    refine iown_ok hvv (Heap.le.refl _) (by simp only [vsizes]; omega) fun t2 B2 hM => ?_
    obtain ⟨m1, y, m2, m3, m4⟩ := hM.one
    have hat : (ns.map (atV vs))[ys.length]? = some vs[n.toNat] := by
      rw [List.getElem?_map, List.getElem?_eq_getElem hlt, hnn]
      simp only [Option.map_some, atV, List.getD_eq_getElem?_getD, List.getElem?_eq_getElem hnl, Option.getD_some]
    have hlt2 : ys.length < (ns.map (atV vs)).length := by rw [List.length_map]; exact hlt
    have hat2 : (ns.map (atV vs))[ys.length] = vs[n.toNat] := by
      rw [List.getElem?_eq_getElem hlt2] at hat
      exact Option.some.inj hat
    have hsl : s.len = ys.length := by have := ho.own.own.1; rw [flat4] at this; omega
    refine apS_ownF (zc := T_api_Value.c T_api_Value.zero) (ho.own.own.le hM.le).off m2 (by rw [m1]; rfl) (fun u hu => ?_) (by rw [m1]; dsimp only; omega) (by rw [m1]; dsimp only; omega) fun r B4 h4 hr => ?_
    · simp only [T_api_Value.c, List.mem_cons, List.not_mem_nil, or_false] at hu
      rcases hu with rfl | rfl | rfl | rfl <;> rfl
    rw [w_i64 (by dsimp only; omega) (by dsimp only; omega)]
    refine ⟨⟨r, ys ++ [y], by simp, ho.stepR (t := t2) hlt2 hM.le (by rw [hat2]; exact m3) m4 h4, fun m hm => ?_⟩, by first | omega | (dsimp only; omega)⟩
    rw [List.length_append, List.length_singleton, List.take_add_one, List.getElem?_eq_getElem hlt, hnn, Option.toList_some, List.mem_append, List.mem_singleton] at hm
    rcases hm with hm | rfl
    · exact hall m hm
    · exact ⟨n0, n1⟩
  · have hye : ys.length = ns.length := by have := of_decide_eq_false hlt; dsimp only at this; omega
    rw [hye, List.take_length] at hall
    exact k1 hall _ _ (ho.fin (by rw [List.length_map]; exact hye) (by rw [List.length_map]; exact hn))
theorem tAt_ok {n : Int} {K : TV → Int → Heap → Prop} (h : Tb H F tb vs) (hvn : vs.length ≤ 1000000) (hvs : ∀ v ∈ vs, vsize v ≤ 1000000)
    (k1 : 0 ≤ n ∧ n < vs.length → ∀ y H2, H.le H2 → VIs (Heap.new H H2) (atV vs n) y → (∃ k, Sp (fun c => H c = none) H2 k y.L) → K y 0 H2) (k2 : ¬ (0 ≤ n ∧ n < vs.length) → ∀ H2, H.le H2 → K ⟨0, 0, [], Sl.nil⟩ 5 H2) : c_intern_Table_At C (some (tb, 0)) n K H := by
  apply ad_intern_Table_At
  unfold sh_intern_Table_At
  intro b1 n1 b3 n3
  have l1 := Heap.le_put n1 (g := .row (T_api_Value.c T_api_Value.zero)) (m := true)
  have l3 := Heap.le_put n3 (g := .row [.int .i64 n]) (m := true)
  have hb : ((H.put b1 (.row (T_api_Value.c T_api_Value.zero))).put b3 (.row [.int .i64 n])) b1 = some (true, .row (T_api_Value.c T_api_Value.zero)) := l3 _ _ (Heap.put_same ..)
  have hr : rdsl ((H.put b1 (.row (T_api_Value.c T_api_Value.zero))).put b3 (.row [.int .i64 n])) (Sl.of (some (b3, 0)) 1 1) ([n].map encI) := .inr ⟨rfl, _, rfl, rds_row (Heap.put_same ..) fun j u hj => by simpa using hj⟩
  have l := l1.trans l3
  generalize (H.put b1 (.row (T_api_Value.c T_api_Value.zero))).put b3 (.row [.int .i64 n]) = H4 at *
  have stw : ∀ {D : Heap} {x y : TV} {K : Heap → Prop}, D b1 = some (true, .row (T_api_Value.c x)) → K (D.put b1 (.row (T_api_Value.c y))) → stT (b1, 0) (T_api_Value.c y) K D := fun {D x y K} hb k => by
    refine ⟨_, hb, by simp [T_api_Value.c], ?_⟩
    have e : splice (T_api_Value.c x) (b1, 0).2 (T_api_Value.c y) = T_api_Value.c y := rfl
    rw [e]; exact k
  refine tRow_ok (h.le l) (Heap.le.refl _) hr rfl (by simp) hvn hvs (fun hall r H7 hM => ?_) (fun hall H7 h7 => ?_)
  · have hn := hall n (List.mem_singleton.2 rfl)
    obtain ⟨m1, y, m2, m3, k, m4⟩ := hM.one
    refine ift_neg rfl ?_
    refine ixa_of m2 (by omega) (by rw [m1]; exact Int.zero_lt_one) (by simp [T_api_Value.c]) fun p hp hrd => ⟨y, ?_, ?_⟩
    · show rds H7 (p.1, p.2 + 0 * 4) _
      rw [Nat.zero_mul, Nat.add_zero]; exact hrd
    · have h7b := hM.le _ _ hb
      refine stw h7b (bxV (Heap.put_same ..) ?_)
      have hbn : H4 b1 ≠ none := by rw [hb]; simp
      have up : ∀ c e, H4 c = none → H7 c = some e → H c = none ∧ (H7.put b1 (.row (T_api_Value.c y))) c = some e := fun c e hc he => by
        have : c ≠ b1 := fun e' => hbn (e' ▸ hc)
        exact ⟨l.none hc, by rw [Heap.put_ne _ _ _ this]; exact he⟩
      refine k1 hn y _ (fun c e hc => ?_) (m3.le fun c e hc => ?_) ⟨k, m4.to fun c e hc he => up c e hc he⟩
      · have : c ≠ b1 := fun e' => by rw [e', n1] at hc; cases hc
        rw [Heap.put_ne _ _ _ this]; exact hM.le _ _ (l _ _ hc)
      · obtain ⟨q1, q2⟩ := Heap.new_inv hc
        obtain ⟨q3, q4⟩ := up c e q1 q2
        exact Heap.new_some q4 q3
  · refine ift_pos rfl (stw (h7 _ _ hb) (bxV (Heap.put_same ..) (k2 (fun hn => hall fun m hm => by rw [List.mem_singleton] at hm; rw [hm]; exact hn) _ fun c e hc => ?_)))
    have : c ≠ b1 := fun e' => by rw [e', n1] at hc; cases hc
    rw [Heap.put_ne _ _ _ this]; exact h7 _ _ (l _ _ hc)
end
end Sx
end

noncomputable section
set_option linter.unusedVariables false
set_option linter.unusedSimpArgs false
namespace Sx
open Go Go.Proofs
section
variable {C : Ctx} {H : Heap}
theorem Own_ok {A : Heap} {l : List V} {t : Sl} {H : Heap} {K : Sl → Heap → Prop} (hv : VRow A t l) (hle : A.le H) (hz : vsizes l ≤ 1000000) (k : ∀ t2 H2, Made H H2 l t2 → K t2 H2) : c_ref02_Own C t K H := by
  have main : ∀ v : V, ∀ (A : Heap) (t : Sl) (H : Heap) (K : Sl → Heap → Prop), VRow A t v.l → A.le H → vsizes v.l ≤ 1000000 → (∀ t2 H2, Made H H2 v.l t2 → K t2 H2) → c_ref02_Own C t K H := by
    refine fun v => V.rec_ (P := fun v => ∀ (A : Heap) (t : Sl) (H : Heap) (K : Sl → Heap → Prop), VRow A t v.l → A.le H → vsizes v.l ≤ 1000000 → (∀ t2 H2, Made H H2 v.l t2 → K t2 H2) → c_ref02_Own C t K H) (fun v ih => ?_) v
    intro A t H K hv hle hz k
    apply ad_ref02_Own
    unfold sh_ref02_Own
    have hl := hv.len
    have hll := vsizes_len v.l
    refine ⟨fun x D => ∃ (s : Sl) (ys : List TV), x = (s, (ys.length : Int)) ∧ Od H D v.l s ys, fun x _ => v.l.length - x.2.toNat,
      ⟨Sl.nil, [], rfl, Od.nil⟩, ?_⟩
    rintro _ D ⟨s, ys, rfl, ho⟩
    rw [hl]
    refine ift.of (fun h => ?_) (fun h => ?_)
    · have hlt : ys.length < v.l.length := by have := of_decide_eq_true h; dsimp only at this; omega
      have hleD := hle.trans ho.own.le
      refine hv.ld hleD rfl hlt fun x hx => ?_
      have hmem := List.getElem_mem hlt
      have hsz := vsize_mem hmem
      have hszl : vsize v.l[ys.length] = vsizes v.l[ys.length].l + 1 := by cases v.l[ys.length]; rfl
      have hxi := VIs_iff.1 hx
      intro b12 n12
      refine ⟨_, Heap.put_same .., by simp [T_api_Value.c], ?_⟩
      rw [Heap.put_put]
      have hc : splice (T_api_Value.c T_api_Value.zero) (b12, 0).2 (T_api_Value.c x) = T_api_Value.c x := rfl
      rw [hc]
      show ldL (D.put b12 (.row (T_api_Value.c x))) _ _
      refine ⟨x.L, by rw [rd_same]; rfl, ?_⟩
      refine ih _ hmem A _ _ _ hxi.2.2.2 (hleD.trans (Heap.le_put n12)) (by omega) fun t2 H2 hm => ?_
      refine ⟨_, hm.le _ _ (Heap.put_same ..), by show 0 + 3 < 4; omega, ?_⟩
      show ldT (H2.put b12 (.row ((T_api_Value.c x).set (0 + 3) (slv t2)))) T_api_Value.c (b12, 0) _
      have hc2 : (T_api_Value.c x).set (0 + 3) (slv t2) = T_api_Value.c { x with L := t2 } := rfl
      rw [hc2]
      refine ⟨{ x with L := t2 }, rds_row (Heap.put_same ..) fun j v hj => by simpa using hj, ?_⟩
      have hown : Own (H2.put b12 (.row (T_api_Value.c { x with L := t2 }))) 4 s (ys.flatMap T_api_Value.c) := by
        obtain ⟨q1, q2, q3, q4⟩ := ho.own.own
        refine ⟨q1, q2, q3, q4.imp id fun ⟨b, sp, p1, p2, p3⟩ => ⟨b, sp, p1, ?_, p3⟩⟩
        have hne : b ≠ b12 := fun e => by rw [e, n12] at p2; cases p2
        rw [Heap.put_ne _ _ _ hne]
        exact hm.le _ _ (by rw [Heap.put_ne _ _ _ hne]; exact p2)
      have hf := flat4 ys
      have hsl : s.len = ys.length := by have := ho.own.own.1; omega
      refine apd_ownF (zc := T_api_Value.c T_api_Value.zero) hown.off rfl (by dsimp only; omega) (by dsimp only; omega) fun r H3 h4 hr => ?_
      rw [w_i64 (by omega) (by omega)]
      have hs := ho.step n12 hlt hm (x := { x with L := t2 }) ⟨hxi.1, hxi.2.1, hxi.2.2.1⟩ rfl (fun z e hz he => by rw [Heap.put_ne _ _ _ hz]; exact he) h4
      refine ⟨⟨r, ys ++ [{ x with L := t2 }], ?_, hs⟩, by first | omega | (dsimp only; omega)⟩
      rw [List.length_append, List.length_singleton]; rfl
    · have hn : ys.length = v.l.length := by
        have := of_decide_eq_false h; dsimp only at this
        have := ho.le
        omega
      exact k _ _ (ho.fin hn (by omega))
  exact main (.mk 0 0 [] l) A t H K hv hle hz k
/-- what writes over: all that is not N's stays, and what may be written over may still be -/
theorem spoil_ok {N : Nat → Prop} {k : Nat} {t : Sl} {H : Heap} {K : Heap → Prop} (h : Sp N H k t)
    (hk : ∀ H2, (∀ c, ¬ N c → H2 c = H c) → (∀ k t, Sp N H k t → Sp N H2 k t) → K H2) : c_law04_spoil C t K H := by
  have nil : ∀ {t : Sl} {H : Heap} {K : Heap → Prop}, t.len = 0 → K H → c_law04_spoil C t K H := by
    intro t H K h0 hk
    apply ad_law04_spoil
    unfold sh_law04_spoil
    rw [h0]
    refine ⟨fun x D => x = 0 ∧ D = H, fun _ _ => 0, ⟨rfl, rfl⟩, ?_⟩
    rintro _ _ ⟨rfl, rfl⟩
    exact ift_neg rfl hk
  induction k generalizing t H K with
  | zero => exact nil h (hk H (fun _ _ => rfl) fun _ _ h => h)
  | succ k ih =>
    by_cases h0 : t.len = 0
    · exact nil h0 (hk H (fun _ _ => rfl) fun _ _ h => h)
    have cells : ∀ {D : Heap}, Sp N D (k + 1) t → ∃ (b : Nat) (xs : List TV) (sp : List Value), N b ∧ t.p = some (b, 0) ∧ t.x = none ∧ D b = some (true, .row (xs.flatMap T_api_Value.c ++ sp)) ∧ (t.len ≤ xs.length ∧ xs.length ≤ 1000000) ∧ ∀ x ∈ xs, Sp N D k x.L := fun h => h.elim (fun h => absurd h h0) id
    have hlen : t.len ≤ 1000000 := by obtain ⟨b, xs, sp, _, _, _, _, h5, _⟩ := cells h; omega
    apply ad_law04_spoil
    unfold sh_law04_spoil
    refine ⟨fun x D => ∃ i : Nat, x = (i : Int) ∧ i ≤ t.len ∧ (∀ c, ¬ N c → D c = H c) ∧ ∀ k t, Sp N H k t → Sp N D k t, fun x _ => t.len - x.toNat, ⟨0, rfl, Nat.zero_le _, fun _ _ => rfl, fun _ _ h => h⟩, ?_⟩
    rintro _ D ⟨i, rfl, hi, hD, hS⟩
    refine ift.of (fun hlt => ?_) (fun hlt => hk D hD hS)
    have hlt : i < t.len := by have := of_decide_eq_true hlt; omega
    obtain ⟨b, xs, sp, h1, h2, h3, h4, h5, h6⟩ := cells (hS _ _ h)
    have hix : i < xs.length := by omega
    have e0 : 0 + ((i : Int).toNat) * 4 + 3 = i * 4 + 3 := by omega
    have hf := flat4 xs
    refine ⟨(b, 0), h2, h3, by omega, by omega, xs[i].L, ?_, ?_⟩
    · show rd _ (b, 0 + ((i : Int).toNat) * 4 + 3) = _
      rw [e0]
      simp only [rd, h4, GO.cells?]
      show (List.flatMap T_api_Value.c xs ++ sp)[i * 4 + 3]? = _
      rw [List.getElem?_append_left (by omega)]
      exact flat_get T_api_Value.c 4 TV.c_len xs i _ (List.getElem?_eq_getElem hix) 3 _ rfl
    refine ih (h6 _ (List.getElem_mem hix)) fun D2 hD2 hS2 => ?_
    obtain ⟨b', xs2, sp2, g1, g2, g3, g4, g5, g6⟩ := cells (hS2 _ _ (hS _ _ h))
    have hb : b' = b := by rw [h2] at g2; injection g2 with g2; injection g2 with g2; exact g2.symm
    subst hb
    have hf2 := flat4 xs2
    have e1 : 0 + ((i : Int).toNat) * 4 = i * 4 := by omega
    refine ⟨(b', 0), h2, h3, by omega, by omega, _, g4, ?_, ?_⟩
    · show 0 + ((i : Int).toNat) * 4 + (T_api_Value.c _).length ≤ _
      rw [e1, TV.c_len, List.length_append, hf2]; omega
    rw [w_i64 (by omega) (by omega)]
    refine ⟨⟨i + 1, by omega, by omega, fun c hc => ?_, fun k t hs => ?_⟩, by first | omega | (dsimp only; omega)⟩
    · have hne : c ≠ b' := fun e => hc (e ▸ g1)
      rw [Heap.put_ne _ _ _ hne, hD2 c hc, hD c hc]
    · show Sp N (D2.put b' (.row (splice _ (0 + ((i : Int).toNat) * 4) _))) k t
      rw [e1]
      exact Sp.put g4 rfl (hS2 _ _ (hS _ _ hs))
end
end Sx
end

noncomputable section
set_option linter.unusedVariables false
set_option linter.unusedSimpArgs false
namespace Sx
open Go Go.Proofs
theorem vsizes_take {l : List V} {i : Nat} (h : i < l.length) : vsizes (l.take (i + 1)) = vsizes (l.take i) + vsize l[i] := by
  have e : ∀ a b : List V, vsizes (a ++ b) = vsizes a + vsizes b := by
    intro a
    induction a with
    | nil => intro b; simp [vsizes]
    | cons v a ih => intro b; simp only [List.cons_append, vsizes, ih]; omega
  rw [List.take_add_one, List.getElem?_eq_getElem h, Option.toList_some, e]; simp [vsizes]
section
variable {C : Ctx} {H : Heap}
theorem div50 {n : Nat} (h : n ≤ 140737488355328) : w .i64 (1 + w .i64 (Int.tdiv (n : Int) 50)) = ((1 + n / 50 : Nat) : Int) := by
  have e : Int.tdiv (n : Int) 50 = ((n / 50 : Nat) : Int) := by
    rw [Int.tdiv_eq_ediv_of_nonneg (by omega)]; omega
  rw [e, w_i64 (x := ((n / 50 : Nat) : Int)) (by omega) (by omega), w_i64 (by omega) (by omega)]; omega
theorem weight_ok {v : V} {x : TV} {H : Heap} {m : Nat} {K : Int → Heap → Prop} (hv : VIs H v x) (hB : VB v) (h0 : 1 ≤ m) (hm : m ≤ 1000000) (k : ∀ r : Nat, 1 ≤ r → r ≤ 8796093022208 + m → (r < m → vsize v ≤ r) → K r H) : c_law04_weight C x m K H := by
  refine V.rec_ (P := fun v => ∀ {x H} {m : Nat} {K : Int → Heap → Prop}, VIs H v x → VB v → 1 ≤ m → m ≤ 1000000 → (∀ r : Nat, 1 ≤ r → r ≤ 8796093022208 + m → (r < m → vsize v ≤ r) → K r H) → c_law04_weight C x m K H) (fun v ih => ?_) v hv hB h0 hm k
  clear hv hB h0 hm k m
  intro x H m K hv hB h0 hm k
  apply c_law04_weight.gh
  apply ad_law04_weight
  unfold sh_law04_weight
  intro b1 n1
  have hr := hv.row
  have hl := hr.len
  have hbl := hB.l
  have hbs := hB.s
  have hsz : vsize v = vsizes v.l + 1 := by obtain ⟨k, n, s, l⟩ := v; rfl
  have hb1 : (H.put b1 (.row (T_api_Value.c x))) b1 = some (true, .row (T_api_Value.c x)) := Heap.put_same ..
  have hle1 := Heap.le_put n1 (g := .row (T_api_Value.c x)) (m := true)
  generalize H.put b1 (.row (T_api_Value.c x)) = H1 at *
  refine bxS hb1 ?_
  rw [hv.txt, div50 hbs]
  have hd : v.s.length / 50 ≤ 2814749767107 := by omega
  refine ⟨fun y A => A = H1 ∧ ∃ i n : Nat, y = ((n : Int), (i : Int)) ∧ i ≤ v.l.length ∧ 1 ≤ n ∧ n ≤ 8796093022208 + m ∧ (n < m → 1 + vsizes (v.l.take i) ≤ n), fun y _ => v.l.length - y.2.toNat,
    ⟨rfl, 0, _, rfl, Nat.zero_le _, by omega, by omega, fun _ => by simp [vsizes]⟩, ?_⟩
  rintro _ A ⟨rfl, i, n, rfl, hi, hn1, hn2, hn3⟩
  refine bxL hb1 ?_
  rw [hl]
  refine ift.of (fun h => ?_) (fun h => ?_)
  · simp only [Bool.and_eq_true, decide_eq_true_eq] at h
    have hlt : i < v.l.length := by omega
    have hnm : n < m := by omega
    have hmem := List.getElem_mem hlt
    refine bxL hb1 ?_
    refine hr.ld hle1 rfl hlt fun y hy => ?_
    rw [w_i64 (x := (m : Int) - n) (by omega) (by omega), show (m : Int) - n = ((m - n : Nat) : Int) by omega]
    refine ih _ hmem (hy.le hle1) (hB.ls.mem hmem) (by omega) (by omega) fun r r1 r2 r3 => ?_
    rw [w_i64 (by omega) (by omega), w_i64 (by omega) (by omega)]
    refine ⟨⟨rfl, i + 1, n + r, by simp, by omega, by omega, by omega, fun hh => ?_⟩, by first | omega | (dsimp only; omega)⟩
    rw [vsizes_take hlt]
    have := r3 (by omega)
    have := hn3 hnm
    omega
  · refine ⟨H, Gh.le hle1, k n hn1 hn2 fun hh => ?_⟩
    have hie : i = v.l.length := by
      have hnm := hh
      simp only [Bool.and_eq_false_iff, decide_eq_false_iff_not] at h
      omega
    have := hn3 hh
    rw [hie, List.take_length] at this
    omega

end
end Sx
end

noncomputable section
set_option linter.unusedVariables false
set_option linter.unusedSimpArgs false
namespace Sx
open Go Go.Proofs
theorem find_first {α : Type} {p : α → Bool} {l : List α} {i : Nat} (h : i < l.length) (h1 : ∀ v ∈ l.take i, p v = false) (h2 : p l[i] = true) : l.find? p = some l[i] := by
  obtain ⟨x, hx⟩ : ∃ x, x = l[i] := ⟨_, rfl⟩
  rw [← hx] at h2 ⊢
  have e : l = l.take i ++ x :: l.drop (i + 1) := by rw [hx, ← List.drop_eq_getElem_cons h, List.take_append_drop]
  rw [e, List.find?_append, List.find?_eq_none.2 (fun v hv => by simp [h1 v hv]), Option.none_or, List.find?_cons_of_pos h2]
/-- rows put -/
def putsV (vs l : List V) : List V × List Nat := l.foldl (fun a v => ((putV a.1 v).1, a.2 ++ [(putV a.1 v).2])) (vs, [])
theorem putsV_snoc (vs l : List V) (v : V) : putsV vs (l ++ [v]) = ((putV (putsV vs l).1 v).1, (putsV vs l).2 ++ [(putV (putsV vs l).1 v).2]) := by
  unfold putsV; rw [List.foldl_append]; rfl
theorem putV_mem {vs : List V} {v w : V} (h : w ∈ (putV vs v).1) : w ∈ vs ∨ w = v := by
  unfold putV at h
  split at h
  · exact .inl h
  · simpa using h
theorem putsV_len (vs : List V) : ∀ (l : List V), (putsV vs l).1.length ≤ vs.length + l.length ∧ vs.length ≤ (putsV vs l).1.length ∧ (putsV vs l).2.length = l.length := by
  intro l
  have : ∀ n, ∀ l : List V, l.length = n → (putsV vs l).1.length ≤ vs.length + l.length ∧ vs.length ≤ (putsV vs l).1.length ∧ (putsV vs l).2.length = l.length := by
    intro n
    induction n with
    | zero => intro l hl; have := List.length_eq_zero_iff.1 hl; subst this; exact ⟨Nat.le_refl _, Nat.le_refl _, rfl⟩
    | succ n ih =>
      intro l hl
      have hne : l ≠ [] := fun e => by rw [e] at hl; cases hl
      have e := List.dropLast_concat_getLast hne
      have h1 := ih l.dropLast (by rw [List.length_dropLast]; omega)
      have h2 := putV_len (putsV vs l.dropLast).1 (l.getLast hne)
      rw [← e, putsV_snoc]
      simp only [List.length_append, List.length_singleton]
      omega
  exact this _ l rfl
theorem putsV_mem {vs : List V} {w : V} : ∀ (n : Nat) (l : List V), l.length = n → w ∈ (putsV vs l).1 → w ∈ vs ∨ w ∈ l := by
  intro n
  induction n with
  | zero => intro l hl h; have := List.length_eq_zero_iff.1 hl; subst this; exact .inl h
  | succ n ih =>
    intro l hl h
    have hne : l ≠ [] := fun e => by rw [e] at hl; cases hl
    have e := List.dropLast_concat_getLast hne
    rw [← e, putsV_snoc] at h
    rcases putV_mem h with h | h
    · exact (ih _ (by rw [List.length_dropLast]; omega) h).imp id (fun h => List.dropLast_subset l h)
    · rw [h]; exact .inr (List.getLast_mem hne)

theorem VsAre.snoc {H : Heap} {v : V} {x : TV} (hx : VIs H v x) : ∀ {l : List V} {xs : List TV}, VsAre H l xs → VsAre H (l ++ [v]) (xs ++ [x])
  | [], [], _ => ⟨hx, trivial⟩
  | w :: l, y :: xs, ⟨h1, h2⟩ => ⟨h1, VsAre.snoc hx h2⟩
/-- a slice's block -/
def Bl (s : Sl) : Nat → Prop := fun c => ∃ p, s.p = some p ∧ p.1 = c
theorem OwnF.grow {H H2 : Heap} {z : Nat} {s r : Sl} {cs : List Value} (h : OwnF (H.off s) H2 z r cs) : Keep (Bl s) H H2 ∧ ∀ c, Bl r c → Bl s c ∨ H c = none := by
  refine ⟨fun c e hn hc => h.le _ _ (Heap.off_some hc fun p hp e' => hn ⟨p, hp, e'⟩), ?_⟩
  rintro _ ⟨p, hp, rfl⟩
  have := h.fresh p hp
  unfold Heap.off at this
  split at this
  · rename_i hh
    obtain ⟨q, hq, e⟩ := Option.map_eq_some_iff.1 hh
    exact .inl ⟨q, hq, e⟩
  · exact .inr this
theorem Own.keep {F : Nat → Prop} {H H2 : Heap} {z : Nat} {s : Sl} {cs : List Value} (h : Own H z s cs) (hk : Keep F H H2) (hF : ∀ c, Bl s c → ¬ F c) : Own H2 z s cs := by
  obtain ⟨q1, q2, q3, q4 | ⟨b, sp, q4, q5, q6⟩⟩ := h
  · exact ⟨q1, q2, q3, .inl q4⟩
  · exact ⟨q1, q2, q3, .inr ⟨b, sp, q4, hk _ _ (hF _ ⟨_, q4, rfl⟩) q5, q6⟩⟩
theorem Own.bl {H : Heap} {z : Nat} {s : Sl} {cs : List Value} (h : Own H z s cs) {c : Nat} (hc : Bl s c) : H c ≠ none := by
  obtain ⟨p, hp, rfl⟩ := hc
  obtain ⟨g, hg⟩ := h.mine hp
  rw [hg]; simp
theorem Keep.some {F : Nat → Prop} {H H2 : Heap} (h : Keep F H H2) {c : Nat} (hF : ¬ F c) (hc : H c ≠ none) : H2 c ≠ none := by
  cases hh : H c with
  | none => exact absurd hh hc
  | some e => rw [h c e hF hh]; simp
section
variable {C : Ctx} {H : Heap} {F : Nat → Prop} {tb : Nat} {vs : List V}
theorem nwV {x : TV} {b : Nat} {K : Heap → Prop} (k : K (H.put b (.row (T_api_Value.c x)))) : stT (b, 0) (T_api_Value.c x) K (H.put b (.row (T_api_Value.c T_api_Value.zero))) := by
  refine ⟨_, Heap.put_same .., by simp [T_api_Value.c], ?_⟩
  rw [Heap.put_put]
  have e : splice (T_api_Value.c T_api_Value.zero) (b, 0).2 (T_api_Value.c x) = T_api_Value.c x := rfl
  rw [e]; exact k
theorem PutRow_ok (hF : FmtC C) {A : Heap} {t : Sl} {l : List V} {K : Sl → Int → Heap → Prop} (h : Tb H F tb vs) (hA : A.le H) (hAF : ∀ c, F c → A c = none) (hv : VRow A t l) (hB : VBs l) (hs : vsizes l ≤ 1000000) (hn : vs.length + l.length ≤ 1000000)
    (k0 : (¬ ∀ v ∈ l, mayV v = true) → ∀ H2, H.le H2 → K Sl.nil (((l.find? fun v => !mayV v).map checkV).getD 0) H2)
    (k1 : (∀ v ∈ l, mayV v = true) → ∀ t2 H2 F2, Tb H2 F2 tb (putsV vs l).1 → Keep F H H2 → (∀ c, F2 c → F c ∨ H c = none) → Own H2 1 t2 ((putsV vs l).2.map fun n : Nat => encI n) → (∀ c, Bl t2 c → (F c ∨ H c = none) ∧ ¬ F2 c) → K t2 0 H2) : c_intern_Table_PutRow C (some (tb, 0)) t K H := by
  apply ad_intern_Table_PutRow
  unfold sh_intern_Table_PutRow
  refine ift_neg rfl ?_
  rw [hv.len]
  have hll := vsizes_len l
  refine ⟨fun x D => H.le D ∧ ∃ i : Nat, x = (i : Int) ∧ i ≤ l.length ∧ ∀ v ∈ l.take i, mayV v = true, fun x _ => l.length - x.toNat, ⟨Heap.le.refl _, 0, rfl, Nat.zero_le _, fun v hv => by simp at hv⟩, ?_⟩
  rintro _ D ⟨hD, i, rfl, hi, hall⟩
  refine ift.of (fun hlt => ?_) (fun hlt => ?_)
  · have hlt : i < l.length := by have := of_decide_eq_true hlt; omega
    refine hv.ld (hA.trans hD) rfl hlt fun x hx => ?_
    intro b nb
    refine nwV (bxV (Heap.put_same ..) ?_)
    have lb := Heap.le_put nb (g := .row (T_api_Value.c x)) (m := true)
    refine value_Check_ok (hx.le ((hA.trans hD).trans lb)) (hB.mem (List.getElem_mem hlt)) ?_
    rw [bne, mayV_dec]
    refine ift.of (fun hm => ?_) (fun hm => ?_)
    · have hm : mayV l[i] = false := by simpa using hm
      have hf : l.find? (fun v => !mayV v) = some l[i] := by
        exact find_first hlt (fun v hv => by simp [hall v hv]) (by simp [hm])
      have := k0 (fun h => by rw [h _ (List.getElem_mem hlt)] at hm; cases hm) _ (hD.trans lb)
      rw [hf] at this; exact this
    · have hm : mayV l[i] = true := by simpa using hm
      rw [w_i64 (by omega) (by omega)]
      refine ⟨⟨hD.trans lb, i + 1, by omega, by omega, fun v hv => ?_⟩, by first | omega | (dsimp only; omega)⟩
      rw [List.take_add_one, List.getElem?_eq_getElem hlt, Option.toList_some, List.mem_append, List.mem_singleton] at hv
      rcases hv with hv | rfl
      · exact hall v hv
      · exact hm
  have hie : i = l.length := by have := of_decide_eq_false hlt; omega
  subst hie
  rw [List.take_length] at hall
  have k1 := k1 hall
  refine ⟨fun x D => ∃ (i : Nat) (s : Sl) (F2 : Nat → Prop), x = (s, (i : Int)) ∧ i ≤ l.length ∧ Tb D F2 tb (putsV vs (l.take i)).1 ∧ Keep F H D ∧ (∀ c, F2 c → F c ∨ H c = none) ∧ Own D 1 s ((putsV vs (l.take i)).2.map fun n : Nat => encI n) ∧ ∀ c, Bl s c → (F c ∨ H c = none) ∧ ¬ F2 c, fun x _ => l.length - x.2.toNat,
    ⟨0, Sl.nil, F, rfl, Nat.zero_le _, h.le hD, Keep.of_le hD, (fun c hc => .inl hc), Own.nil _ 1, fun c ⟨p, hp, _⟩ => by cases hp⟩, ?_⟩
  clear hD hlt hi
  rintro _ D ⟨i, s, F2, rfl, hi, hT, hK, hF2, hO, hS⟩
  refine ift.of (fun hlt => ?_) (fun hlt => ?_)
  · have hlt : i < l.length := by have := of_decide_eq_true hlt; omega
    have hAD : A.le D := hK.le hA hAF
    have hAF2 : ∀ c, F2 c → A c = none := fun c hc => (hF2 c hc).elim (hAF c) hA.none
    refine hv.ld hAD rfl hlt fun x hx => ?_
    intro b nb
    refine nwV (bxV (Heap.put_same ..) ?_)
    have lb := Heap.le_put nb (g := .row (T_api_Value.c x)) (m := true)
    generalize D.put b (.row (T_api_Value.c x)) = D1 at *
    have hsz := vsize_mem (List.getElem_mem hlt)
    have hpl := putsV_len vs (l.take i)
    rw [List.length_take] at hpl
    refine Put_ok hF (hT.le lb) (hAD.trans lb) hAF2 hx (hB.mem (List.getElem_mem hlt)) (by omega) (by omega) (fun hm => by rw [hall _ (List.getElem_mem hlt)] at hm; cases hm) fun _ D2 F3 hT3 hK3 hF3 => ?_
    have e1 : putsV vs (l.take (i + 1)) = ((putV (putsV vs (l.take i)).1 l[i]).1, (putsV vs (l.take i)).2 ++ [(putV (putsV vs (l.take i)).1 l[i]).2]) := by
      rw [List.take_add_one, List.getElem?_eq_getElem hlt, Option.toList_some, putsV_snoc]
    have hK2 : Keep F H D2 := (hK.trans (Keep.of_le (F := fun _ => False) lb) fun c hc => hc.elim).trans hK3 hF2
    have hO2 : Own D2 1 s ((putsV vs (l.take i)).2.map fun n : Nat => encI n) := (hO.le lb).keep hK3 fun c hc => (hS c hc).2
    have hsl : s.len = i := by have := hO.1; simp at this; omega
    refine apd_ownF (zc := [.int .i64 0]) hO2.off rfl (by dsimp only; omega) (by dsimp only; omega) fun r D3 hr hrl => ?_
    obtain ⟨g1, g2⟩ := hr.grow
    have hbs : ∀ c, Bl s c → ¬ F3 c := fun c hc h3 => (hF3 c h3).elim (hS c hc).2 fun h1 => hO.bl hc (lb.none h1)
    rw [w_i64 (by dsimp only; omega) (by dsimp only; omega)]
    refine ⟨⟨i + 1, r, F3, by simp, by omega, ?_, hK2.trans g1 fun c hc => (hS c hc).1, fun c hc => (hF3 c hc).elim (hF2 c) fun h1 => ?_, ?_, fun c hc => ⟨(g2 c hc).elim (fun h => (hS c h).1) fun h2 => ?_, fun h3 => (g2 c hc).elim (fun h => hbs c h h3) fun h2 => hT3.dom c h3 h2⟩⟩, by first | omega | (dsimp only; omega)⟩
    · rw [e1]; exact hT3.keep g1 fun c hc hb => hbs c hb hc
    · by_cases hf : F c
      · exact .inl hf
      · refine .inr ?_
        cases hh : H c with
        | none => rfl
        | some e => have := hK c e hf hh; rw [lb.none h1] at this; cases this
    · rw [e1, List.map_append, List.map_singleton]; exact hr.own
    · by_cases hf : F c
      · exact .inl hf
      · refine .inr ?_
        cases hh : H c with
        | none => rfl
        | some e => have := hK2 c e hf hh; rw [h2] at this; cases this
  · have hie : i = l.length := by have := of_decide_eq_false hlt; omega
    subst hie
    rw [List.take_length] at hT hO
    exact k1 s D F2 hT hK hF2 hO hS
end
end Sx
end

noncomputable section
set_option linter.unusedVariables false
set_option linter.unusedSimpArgs false
namespace Sx
open Go Go.Proofs
section
variable {C : Ctx} {H : Heap}
theorem ints_ok {a b : List Int} {s t : Sl} {K : Bool → Heap → Prop} (hs : rdsl H s (a.map encI)) (hsl : s.len = a.length) (ht : rdsl H t (b.map encI)) (htl : t.len = b.length) (hn : a.length ≤ 1000000) (k : K (decide (a = b)) H) : c_ref04_Ints C s t K H := by
  apply ad_ref04_Ints
  unfold sh_ref04_Ints
  rw [hsl, htl]
  refine ift.of (fun h => ?_) (fun h => ?_)
  · have : a ≠ b := fun e => by subst e; simp at h
    rw [decide_eq_false this] at k; exact k
  have hl : a.length = b.length := Int.ofNat.inj (show (a.length : Int) = b.length by simpa using h)
  refine ⟨fun x D => D = H ∧ ∃ i : Nat, x = (i : Int) ∧ i ≤ a.length ∧ a.take i = b.take i, fun x _ => a.length - x.toNat, ⟨rfl, 0, rfl, Nat.zero_le _, rfl⟩, ?_⟩
  rintro _ D ⟨rfl, i, rfl, hi, he⟩
  refine ift.of (fun h => ?_) (fun h => ?_)
  · have hlt : i < a.length := by have := of_decide_eq_true h; omega
    have hlt2 : i < b.length := by omega
    refine ix_ldI hs rfl (by omega) (x := a[i]) (by rw [List.getElem?_map, List.getElem?_eq_getElem hlt]; rfl) ?_
    refine ix_ldI ht rfl (by omega) (x := b[i]) (by rw [List.getElem?_map, List.getElem?_eq_getElem hlt2]; rfl) ?_
    refine ift.of (fun h => ?_) (fun h => ?_)
    · have : a ≠ b := fun e => by subst e; simp at h
      rw [decide_eq_false this] at k; exact k
    rw [w_i64 (by omega) (by omega)]
    refine ⟨⟨rfl, i + 1, by omega, by omega, ?_⟩, by first | omega | (dsimp only; omega)⟩
    rw [List.take_add_one, List.take_add_one, he, List.getElem?_eq_getElem hlt, List.getElem?_eq_getElem hlt2]
    have : a[i] = b[i] := by simpa using h
    rw [this]
  · have hie : i = a.length := by have := of_decide_eq_false h; omega
    have : a = b := by
      rw [hie, List.take_length, hl, List.take_length] at he; exact he
    rw [decide_eq_true this] at k; exact k
theorem stV {b : Nat} {x y : TV} {K : Heap → Prop} (hb : H b = some (true, .row (T_api_Value.c x))) (k : K (H.put b (.row (T_api_Value.c y)))) : stT (b, 0) (T_api_Value.c y) K H := by
  refine ⟨_, hb, by simp [T_api_Value.c], ?_⟩
  have e : splice (T_api_Value.c x) (b, 0).2 (T_api_Value.c y) = T_api_Value.c y := rfl
  rw [e]; exact k
def eF : V := .mk 2 5 [] []
def eA : V := .mk 4 0 [97] []
def eY : V := .mk 1 1 [] []
theorem e_may : mayV eF = true ∧ mayV eA = true ∧ mayV eY = true := by decide +kernel
theorem e_vb : VB eF ∧ VB eA ∧ VB eY := by
  refine ⟨?_, ?_, ?_⟩ <;> simp [eF, eA, eY, VB, VBs]
theorem e_same : sameV eF eA = false ∧ sameV eF eY = false ∧ sameV eA eY = false ∧ sameV eA eF = false ∧ sameV eY eF = false ∧ sameV eY eA = false := by decide +kernel
theorem e_put : putV [] eF = ([eF], 0) ∧ putV [eF] eA = ([eF, eA], 1) ∧ putV [eF, eA] eF = ([eF, eA], 0) ∧ putsV [eF, eA] [eA, eY, eF] = ([eF, eA, eY], [1, 2, 0]) := by
  have s0 : ∀ v, sameV v v = true := fun v => sameV_iff.2 rfl
  obtain ⟨s1, s2, s3, s4, s5, s6⟩ := e_same
  refine ⟨?_, ?_, ?_, ?_⟩ <;> simp [putV, posV, putsV, s0, s1, s2, s3, s4, s5, s6]
theorem awake_ok (hF : FmtC C) {K : Bool → Heap → Prop} (k : ∀ H2, H.le H2 → K true H2) : c_law04_awake C K H := by
  obtain ⟨mF, mA, mY⟩ := e_may
  obtain ⟨bF, bA, bY⟩ := e_vb
  obtain ⟨p1, p2, p3, p4⟩ := e_put
  apply ad_law04_awake
  unfold sh_law04_awake
  intro b1 n1 b3 n3 b5 n5
  have ne13 : b1 ≠ b3 := fun e => by rw [e, Heap.put_same] at n3; cases n3
  have ne15 : b1 ≠ b5 := fun e => by rw [← e, Heap.put_ne _ _ _ ne13, Heap.put_same] at n5; cases n5
  have ne35 : b3 ≠ b5 := fun e => by rw [e, Heap.put_same] at n5; cases n5
  have m3 : H b3 = none := by rw [Heap.put_ne _ _ _ (Ne.symm ne13)] at n3; exact n3
  have m5 : H b5 = none := by rw [Heap.put_ne _ _ _ (Ne.symm ne35), Heap.put_ne _ _ _ (Ne.symm ne15)] at n5; exact n5
  refine stV (x := T_api_Value.zero) (by rw [Heap.put_ne _ _ _ ne15, Heap.put_ne _ _ _ ne13, Heap.put_same]) ?_
  refine stV (x := T_api_Value.zero) (by rw [Heap.put_ne _ _ _ (Ne.symm ne13), Heap.put_ne _ _ _ ne35, Heap.put_same]) ?_
  refine stV (x := T_api_Value.zero) (by rw [Heap.put_ne _ _ _ (Ne.symm ne35), Heap.put_ne _ _ _ (Ne.symm ne15), Heap.put_same]) ?_
  generalize hH9 : ((((((H.put b1 (.row (T_api_Value.c T_api_Value.zero))).put b3 (.row (T_api_Value.c T_api_Value.zero))).put b5 (.row (T_api_Value.c T_api_Value.zero))).put b1 (.row (T_api_Value.c ⟨2, 5, [], Sl.nil⟩))).put b3 (.row (T_api_Value.c ⟨4, 0, [97], Sl.nil⟩))).put b5 (.row (T_api_Value.c ⟨1, 1, [], Sl.nil⟩))) = H9
  have l9 : H.le H9 := fun z e hz => by
    have z1 : z ≠ b1 := fun e' => by rw [e', n1] at hz; cases hz
    have z3 : z ≠ b3 := fun e' => by rw [e', m3] at hz; cases hz
    have z5 : z ≠ b5 := fun e' => by rw [e', m5] at hz; cases hz
    rw [← hH9, Heap.put_ne _ _ _ z5, Heap.put_ne _ _ _ z3, Heap.put_ne _ _ _ z1, Heap.put_ne _ _ _ z5, Heap.put_ne _ _ _ z3, Heap.put_ne _ _ _ z1]; exact hz
  have h1 : H9 b1 = some (true, .row (T_api_Value.c ⟨2, 5, [], Sl.nil⟩)) := by rw [← hH9, Heap.put_ne _ _ _ ne15, Heap.put_ne _ _ _ ne13, Heap.put_same]
  have h3 : H9 b3 = some (true, .row (T_api_Value.c ⟨4, 0, [97], Sl.nil⟩)) := by rw [← hH9, Heap.put_ne _ _ _ ne35, Heap.put_same]
  have h5 : H9 b5 = some (true, .row (T_api_Value.c ⟨1, 1, [], Sl.nil⟩)) := by rw [← hH9, Heap.put_same]
  clear hH9 n1 n3 n5 m3 m5
  have iF : ∀ D : Heap, VIs D eF ⟨2, 5, [], Sl.nil⟩ := fun D => ⟨rfl, rfl, rfl, [], .inl rfl, rfl, trivial⟩
  have iA : ∀ D : Heap, VIs D eA ⟨4, 0, [97], Sl.nil⟩ := fun D => ⟨rfl, rfl, rfl, [], .inl rfl, rfl, trivial⟩
  have iY : ∀ D : Heap, VIs D eY ⟨1, 1, [], Sl.nil⟩ := fun D => ⟨rfl, rfl, rfl, [], .inl rfl, rfl, trivial⟩
  have zF : vsize eF ≤ 1000000 := by simp [eF, vsize, vsizes]
  have zA : vsize eA ≤ 1000000 := by simp [eA, vsize, vsizes]
  have zY : vsize eY ≤ 1000000 := by simp [eY, vsize, vsizes]
  refine new_ok fun tb H11 l11 ntb hT => ?_
  have f0 : ∀ c, (fun c => H9 c = none ∧ H11 c ≠ none) c → H9 c = none := fun c hc => hc.1
  generalize (fun c => H9 c = none ∧ H11 c ≠ none) = F0 at hT f0
  refine bxV (l11 _ _ h1) (Put_ok hF hT l11 f0 (iF _) bF zF (by simp) (fun h => by rw [mF] at h; cases h) fun _ H16 F1 hT1 hK1 hF1 => ?_)
  rw [p1] at hT1 ⊢
  have l16 : H9.le H16 := hK1.le l11 f0
  have f1 : ∀ c, F1 c → H9 c = none := fun c hc => (hF1 c hc).elim (f0 c) l11.none
  refine bxV (l16 _ _ h3) (Put_ok hF hT1 l16 f1 (iA _) bA zA (by simp) (fun h => by rw [mA] at h; cases h) fun _ H21 F2 hT2 hK2 hF2 => ?_)
  rw [p2] at hT2 ⊢
  have l21 : H9.le H21 := hK2.le l16 f1
  have f2 : ∀ c, F2 c → H9 c = none := fun c hc => (hF2 c hc).elim (f1 c) l16.none
  refine bxV (l21 _ _ h1) (Put_ok hF hT2 l21 f2 (iF _) bF zF (by simp) (fun h => by rw [mF] at h; cases h) fun _ H26 F3 hT3 hK3 hF3 => ?_)
  rw [p3] at hT3 ⊢
  have l26 : H9.le H26 := hK3.le l21 f2
  have f3 : ∀ c, F3 c → H9 c = none := fun c hc => (hF3 c hc).elim (f2 c) l21.none
  refine bxV (l26 _ _ h3) (bxV (l26 _ _ h5) (bxV (l26 _ _ h1) ?_))
  intro b33 n33
  have l33 := Heap.le_put n33 (g := .row (T_api_Value.c ⟨4, 0, [97], Sl.nil⟩ ++ T_api_Value.c ⟨1, 1, [], Sl.nil⟩ ++ T_api_Value.c ⟨2, 5, [], Sl.nil⟩ ++ [])) (m := true)
  have hT4 := hT3.le l33
  have lA := l26.puts b33 (.row (T_api_Value.c ⟨4, 0, [97], Sl.nil⟩ ++ T_api_Value.c ⟨1, 1, [], Sl.nil⟩ ++ T_api_Value.c ⟨2, 5, [], Sl.nil⟩ ++ [])) true
  have fA : ∀ c, F3 c → (H9.put b33 (.row (T_api_Value.c ⟨4, 0, [97], Sl.nil⟩ ++ T_api_Value.c ⟨1, 1, [], Sl.nil⟩ ++ T_api_Value.c ⟨2, 5, [], Sl.nil⟩ ++ []))) c = none := fun c hc => by
    have : c ≠ b33 := fun e => by rw [e] at hc; exact hT3.dom _ hc n33
    rw [Heap.put_ne _ _ _ this]; exact f3 c hc
  have row : VRow (H9.put b33 (.row (T_api_Value.c ⟨4, 0, [97], Sl.nil⟩ ++ T_api_Value.c ⟨1, 1, [], Sl.nil⟩ ++ T_api_Value.c ⟨2, 5, [], Sl.nil⟩ ++ []))) (Sl.of (some (b33, 0)) 3 3) [eA, eY, eF] :=
    ⟨[⟨4, 0, [97], Sl.nil⟩, ⟨1, 1, [], Sl.nil⟩, ⟨2, 5, [], Sl.nil⟩], .inr ⟨rfl, _, rfl, rds_row (Heap.put_same ..) fun j v hj => by rw [Nat.zero_add]; exact hj⟩, rfl, iA _, iY _, iF _, trivial⟩
  refine PutRow_ok hF hT4 lA fA row ⟨bA, bY, bF, trivial⟩ (by simp [vsizes, vsize, eA, eY, eF]) (by simp) (fun h => absurd (fun v hv => ?_) h) fun _ t2 H37 F4 hT5 hK5 hF5 hO hB5 => ?_
  · simp only [List.mem_cons, List.not_mem_nil, or_false] at hv
    rcases hv with rfl | rfl | rfl <;> assumption
  rw [p4] at hT5 hO
  have n33' : H9 b33 = none := l26.none n33
  have l37 : H9.le H37 := (Heap.le_put n33').trans (hK5.le lA fA)
  have hvs : ∀ v ∈ [eF, eA, eY], vsize v ≤ 1000000 := fun v hv => by
    simp only [List.mem_cons, List.not_mem_nil, or_false] at hv
    rcases hv with rfl | rfl | rfl <;> assumption
  refine tAt_ok hT5 (by simp) hvs (fun _ y H40 l40 iy _ => ?_) (fun h => absurd (by decide) h)
  have iy : VIs H40 eY y := iy.le (Heap.new_le _ _)
  intro b41 n41
  refine nwV ?_
  have l42 := Heap.le_put n41 (g := .row (T_api_Value.c y)) (m := true)
  have h41 : (H40.put b41 (.row (T_api_Value.c y))) b41 = some (true, .row (T_api_Value.c y)) := Heap.put_same ..
  generalize H40.put b41 (.row (T_api_Value.c y)) = H42 at *
  refine tAt_ok (hT5.le (l40.trans l42)) (by simp) hvs (fun h => absurd h (by decide)) (fun _ H46 l46 => ?_)
  intro b47 n47
  refine nwV ?_
  have l48 := Heap.le_put n47 (g := .row (T_api_Value.c ⟨0, 0, [], Sl.nil⟩)) (m := true)
  generalize H46.put b47 (.row (T_api_Value.c ⟨0, 0, [], Sl.nil⟩)) = H48 at *
  have l4 : H37.le H48 := ((l40.trans l42).trans l46).trans l48
  refine ⟨fun b D => b = true ∧ H48.le D, ?_, ?_⟩
  · refine ift_pos rfl ?_
    intro b62 n62
    have l62 := Heap.le_put n62 (g := .row [.int .i64 1, .int .i64 2, .int .i64 0]) (m := true)
    refine ints_ok (a := [1, 2, 0]) (b := [1, 2, 0]) (rdsl_le (l4.trans l62) hO.rdsl) (by have := hO.1; simpa using this.symm) (.inr ⟨rfl, _, rfl, rds_row (Heap.put_same ..) fun j v hj => by rw [Nat.zero_add]; exact hj⟩) rfl (by simp) ⟨by decide, l62⟩
  rintro _ D ⟨rfl, lD⟩
  refine ⟨fun b E => b = true ∧ D.le E, ?_, ?_⟩
  · refine ift_pos rfl (bxV (lD _ _ (l48 _ _ (l46 _ _ h41))) (bxV (lD _ _ (l4 _ _ (l37 _ _ h5))) (Same_ok (iy.le (((l42.trans l46).trans l48).trans lD)) (iY _) bY ⟨sameV_iff.2 rfl, Heap.le.refl _⟩)))
  rintro _ E ⟨rfl, lE⟩
  refine ⟨fun b G => b = true ∧ E.le G, ?_, ?_⟩
  · exact ift_pos rfl (Len_ok (hT5.le ((l4.trans lD).trans lE)) ⟨rfl, Heap.le.refl _⟩)
  rintro _ G ⟨rfl, lG⟩
  exact k _ ((((l9.trans l37).trans l4).trans lD).trans (lE.trans lG))
end
end Sx
end

noncomputable section
set_option linter.unusedVariables false
set_option linter.unusedSimpArgs false
set_option maxRecDepth 10000
namespace Sx
open Go Go.Proofs
/-- the document's table tb, in the blocks F, holds vs -/
structure Td (H : Heap) (F : Nat → Prop) (tb : Nat) (vs : List V) : Prop where
  ex : ∃ (R : Heap) (s : Sl) (xs : List TV), H tb = some (true, .row [slv s]) ∧ Own H 4 s (xs.flatMap T_api_Value.c) ∧ R.le H ∧ VsAre R vs xs ∧ R tb = none ∧
    (∀ p, s.p = some p → p.1 ≠ tb ∧ R p.1 = none ∧ F p.1) ∧ F tb ∧ ∀ c, R c ≠ none → F c
  vals : Vals vs
  dom : ∀ c, F c → H c ≠ none
theorem splice_mid (a m sp m' : List Value) (h : m'.length = m.length) : splice (a ++ m ++ sp) a.length m' = a ++ m' ++ sp := by
  unfold splice
  rw [List.append_assoc a m sp, List.take_left, ← List.drop_drop, List.drop_left, h, List.drop_left]
section
variable {C : Ctx} {H : Heap} {F : Nat → Prop} {tb : Nat} {vs : List V}
theorem Td.le {H2 : Heap} (h : Td H F tb vs) (hle : H.le H2) : Td H2 F tb vs := by
  obtain ⟨⟨R, s, xs, h1, h2, h3, h4, h5, h6, h7, h8⟩, hv, hd⟩ := h
  exact ⟨⟨R, s, xs, hle _ _ h1, h2.le hle, h3.trans hle, h4, h5, h6, h7, h8⟩, hv, fun c hc e => hd c hc (hle.none e)⟩
theorem Td.keep {F2 : Nat → Prop} {H2 : Heap} (h : Td H F tb vs) (hk : Keep F2 H H2) (hF : ∀ c, F c → ¬ F2 c) : Td H2 F tb vs := by
  obtain ⟨⟨R, s, xs, h1, h2, h3, h4, h5, h6, h7, h8⟩, hv, hd⟩ := h
  have st : ∀ c e, F c → H c = some e → H2 c = some e := fun c e hc he => hk c e (hF c hc) he
  refine ⟨⟨R, s, xs, st _ _ h7 h1, h2.keep hk fun c ⟨p, hp, e⟩ => e ▸ hF _ (h6 p hp).2.2, fun c e hc => st c e (h8 c (by rw [hc]; simp)) (h3 c e hc), h4, h5, h6, h7, h8⟩, hv, fun c hc e => ?_⟩
  cases hh : H c with
  | none => exact hd c hc hh
  | some x => rw [st c x hc hh] at e; cases e
theorem Td.all (h : Td H F tb vs) : ∃ s : Sl, rd H (tb, 0) = some (slv s) ∧ VRow H s vs ∧ s.len = vs.length := by
  obtain ⟨⟨R, s, xs, h1, h2, h3, h4, h5, h6, h7, h8⟩, hv, hd⟩ := h
  have hl := h4.len
  have h20 := h2.1
  rw [flat4] at h20
  exact ⟨s, by simp [rd, h1, GO.cells?], ⟨xs, h2.rdsl, by omega, h4.le h3⟩, by omega⟩
theorem Td.new {b : Nat} (n : H b = none) : Td (H.put b (.row (T_ref04_Table.c (⟨Sl.nil⟩ : T_ref04_Table)))) (fun c => c = b) b [] :=
  ⟨⟨fun _ => none, Sl.nil, [], Heap.put_same .., Own.nil _ 4, (fun c e h => by cases h), trivial, rfl, (fun p hp => by cases hp), rfl, fun c h => absurd rfl h⟩, Vals.nil, fun c h => by rw [h, Heap.put_same]; simp⟩
theorem dFind_ok {v : V} {x : TV} {K : Int → Bool → Heap → Prop} (h : Td H F tb vs) (hv : VIs H v x) (k : ∀ H2, H.le H2 → K (((posV v vs).getD 0 : Nat) : Int) (posV v vs).isSome H2) (hn : vs.length ≤ 1000000) : c_ref04_Table_Find C (some (tb, 0)) x K H := by
  apply ad_ref04_Table_Find
  unfold sh_ref04_Table_Find
  intro b1 n1
  have l1 := Heap.le_put n1 (g := .row (T_api_Value.c x)) (m := true)
  have hb : (H.put b1 (.row (T_api_Value.c x))) b1 = some (true, .row (T_api_Value.c x)) := Heap.put_same ..
  have hv1 := hv.le l1
  have ht := h.le l1
  generalize H.put b1 (.row (T_api_Value.c x)) = H1 at *
  obtain ⟨s, a1, a2, a3⟩ := ht.all
  refine ⟨fun y D => D = H1 ∧ ∃ i : Nat, y = (i : Int) ∧ i ≤ vs.length ∧ ∀ w ∈ vs.take i, w ≠ v, fun y _ => vs.length - y.toNat, ⟨rfl, 0, rfl, Nat.zero_le _, fun w hw => by simp at hw⟩, ?_⟩
  rintro _ D ⟨rfl, i, rfl, hi, hall⟩
  refine ⟨_, rfl, s, a1, ?_⟩
  dsimp only
  rw [a3]
  refine ift.of (fun hlt => ?_) (fun hlt => ?_)
  · have hlt : i < vs.length := by have := of_decide_eq_true hlt; omega
    refine ⟨D, Heap.le.refl _, _, rfl, s, a1, a2.ld (Heap.le.refl _) rfl hlt fun y hy => bxV hb (Same_ok hy hv1 (h.vals.vb.mem (List.getElem_mem hlt)) ⟨Heap.le.refl _, ?_⟩)⟩
    refine ift.of (fun hs => ?_) (fun hs => ?_)
    · have he : vs[i] = v := sameV_iff.1 hs
      have := posV_of h.vals.nd (v := v) (n := i) (by rw [List.getElem?_eq_getElem hlt, he])
      have := k D l1
      rw [‹posV v vs = some i›] at this; exact this
    · rw [w_i64 (by omega) (by omega)]
      refine ⟨⟨rfl, i + 1, by omega, by omega, fun w hw => ?_⟩, by first | omega | (dsimp only; omega)⟩
      rw [List.take_add_one, List.getElem?_eq_getElem hlt, Option.toList_some, List.mem_append, List.mem_singleton] at hw
      rcases hw with hw | rfl
      · exact hall w hw
      · intro e; rw [sameV_iff.2 e] at hs; cases hs
  · have hie : i = vs.length := by have := of_decide_eq_false hlt; omega
    rw [hie, List.take_length] at hall
    have := k D l1
    rw [posV_nin fun h => hall v h rfl] at this; exact this
theorem dPut_ok {A : Heap} {v : V} {x : TV} {K : Int → Int → Heap → Prop} (h : Td H F tb vs) (hA : A.le H) (hv : VIs A v x) (hB : VB v) (hs : vsize v ≤ 1000000) (hn : vs.length ≤ 1000000)
    (k0 : mayV v = false → ∀ H2, H.le H2 → K 0 (checkV v) H2) (k1 : mayV v = true → ∀ H2 F2, Td H2 F2 tb (putV vs v).1 → Keep F H H2 → (∀ c, F2 c → F c ∨ H c = none) → K ((putV vs v).2 : Nat) 0 H2) : c_ref04_Table_Put C (some (tb, 0)) x K H := by
  apply ad_ref04_Table_Put
  unfold sh_ref04_Table_Put
  intro b1 n1
  have l1 := Heap.le_put n1 (g := .row (T_api_Value.c x)) (m := true)
  have hb : (H.put b1 (.row (T_api_Value.c x))) b1 = some (true, .row (T_api_Value.c x)) := Heap.put_same ..
  have ht := h.le l1
  have hFb : ¬ F b1 := fun hf => h.dom b1 hf n1
  have hv1 := hv.le (hA.trans l1)
  generalize H.put b1 (.row (T_api_Value.c x)) = H1 at *
  refine bxV hb (ref02_Check_ok hv1 hB (by omega) ?_)
  rw [bne, mayV_dec]
  refine ift.of (fun hm => k0 (by simpa using hm) _ l1) (fun hm => ?_)
  have hm : mayV v = true := by simpa using hm
  have k1 := k1 hm
  refine bxV hb (dFind_ok ht hv1 (fun H2 l2 => ?_) hn)
  have hv2 := hv1.le l2
  have hb2 := l2 _ _ hb
  have ht2 := ht.le l2
  have lH := l1.trans l2
  cases hj : posV v vs with
  | some j =>
    have hput : putV vs v = (vs, j) := by unfold putV; rw [hj]
    rw [hput] at k1
    exact ift_pos rfl (k1 _ F (h.le lH) (Keep.of_le lH) fun c hc => .inl hc)
  | none =>
  have hput : putV vs v = (vs ++ [v], vs.length) := by unfold putV; rw [hj]
  rw [hput] at k1
  refine ift_neg rfl ?_
  obtain ⟨J, hJ⟩ : ∃ J : Unit → Heap → Prop, J = fun _ E => ∃ F2, Td E F2 tb (vs ++ [v]) ∧ Keep F H E ∧ ∀ c, F2 c → F c ∨ H c = none := ⟨_, rfl⟩
  refine ⟨J, ?_, ?_⟩
  · obtain ⟨⟨R, s, xs, h1, h2, h3, h4, h5, h6, h7, h8⟩, hvals, hdom⟩ := ht2
    have hl := h4.len
    have hfx := flat4 xs
    have hsl : s.len = vs.length := by have := h2.1; omega
    have hnb : ∀ c, Bl s c → H2 c ≠ none := fun c hc => h2.bl hc
    have off2 : ∀ c e, (∀ p, s.p = some p → p.1 ≠ c) → H2 c = some e → (H2.off s) c = some e := fun c e hc he => Heap.off_some he hc
    have offb : (H2.off s) b1 = some (true, .row (T_api_Value.c x)) := off2 _ _ (fun p hp e => hFb (e ▸ (h6 p hp).2.2)) hb2
    have offt : (H2.off s) tb = some (true, .row [slv s]) := off2 _ _ (fun p hp => (h6 p hp).1) h1
    let Hz : Heap := fun c => if c = tb then none else (H2.off s) c
    have hzle : Hz.le (H2.off s) := fun c e hc => by
      have hc : (if c = tb then none else (H2.off s) c) = some e := hc
      split at hc
      · cases hc
      · exact hc
    have hzn : Hz tb = none := by show (if tb = tb then none else _) = none; rw [if_pos rfl]
    have hzs : ∀ c, Bl s c → Hz c = none := fun c ⟨p, hp, e⟩ => by
      have := Heap.off_fresh s H2 p hp
      rw [e] at this
      exact hzle.none this
    refine ⟨H2.off s, Hz, Heap.off_le s H2, hzle, _, rfl, s, by simp [rd, offt, GO.cells?], bxV offb ?_⟩
    have fin : ∀ (D : Heap) (bz : Nat) (y : TV), H2.le D → D bz = some (true, .row (T_api_Value.c ⟨0, 0, [], Sl.nil⟩ ++ [])) → VIs (Heap.new H2 D) v y →
        apS (T_api_Value.c T_api_Value.zero) 56 s (Sl.of (some (bz, 0)) 1 1) (fun r46 H47 =>
          Heap.le (H2.off s) H47 ∧
          ixa r46 (Sl.len s : Int) fun p48 =>
          nck (some (tb, 0)) fun p53 =>
          (stT (p48.1, p48.2 + ((Sl.len s : Int) : Int).toNat * 4) (T_api_Value.c y) (fun H56 =>
          Heap.le (H2.off s) H56 ∧
          Sx.st (p53.1, p53.2 + 0) (slv r46) (fun H58 =>
          Heap.le Hz H58 ∧
          J () H58) H56) H47) ∧
          (Sx.st (p53.1, p53.2 + 0) (slv r46) (fun H60 =>
          Heap.le Hz H60 ∧
          stT (p48.1, p48.2 + ((Sl.len s : Int) : Int).toNat * 4) (T_api_Value.c y) (fun H62 =>
          Heap.le Hz H62 ∧
          J () H62) H60) H47)) D := by
      intro D bz y hD hbz hy
      have oD := h2.le hD
      refine apS_ownF (zc := T_api_Value.c T_api_Value.zero) (ys := T_api_Value.c ⟨0, 0, [], Sl.nil⟩) oD.off (.inr ⟨rfl, _, rfl, rds_row hbz fun j u hj => by rw [Nat.zero_add]; simpa using hj⟩) rfl (fun u hu => ?_) (by show (s.len + 1) * 56 ≤ _; omega) (by show s.len + 1 ≤ _; omega) fun r D2 ho hr => ?_
      · simp only [T_api_Value.c, List.mem_cons, List.not_mem_nil, or_false] at hu
        rcases hu with rfl | rfl | rfl | rfl <;> rfl
      have hr : r.len = s.len + 1 := hr
      obtain ⟨q1, q2, q3, q4 | ⟨b, sp, p1, p2, p3⟩⟩ := ho.own
      · obtain ⟨_, hc0⟩ := q4; omega
      have offle : (H2.off s).le (D.off s) := fun c e hc => by
        refine Heap.off_some (hD _ _ (Heap.off_le _ _ _ _ hc)) fun p hp e' => ?_
        have := Heap.off_fresh s H2 p hp
        rw [e', hc] at this; cases this
      have hle2 := offle.trans ho.le
      have hfr : (D.off s) b = none := ho.fresh _ p1
      have hbt : b ≠ tb := fun e => by rw [e, offle _ _ offt] at hfr; cases hfr
      have hbs : (H2.off s) b = none := offle.none hfr
      have t2 : D2 tb = some (true, .row [slv s]) := hle2 _ _ offt
      have hsp : splice (xs.flatMap T_api_Value.c ++ T_api_Value.c ⟨0, 0, [], Sl.nil⟩ ++ sp) (0 + s.len * 4) (T_api_Value.c y) = xs.flatMap T_api_Value.c ++ T_api_Value.c y ++ sp := by
        have e1 : 0 + s.len * 4 = (xs.flatMap T_api_Value.c).length := by rw [hfx]; omega
        rw [e1]; exact splice_mid _ _ _ _ rfl
      have e0 : ((Sl.len s : Int) : Int).toNat = s.len := by omega
      have hlen : (b, 0).2 + s.len * 4 + (T_api_Value.c y).length ≤ (xs.flatMap T_api_Value.c ++ T_api_Value.c ⟨0, 0, [], Sl.nil⟩ ++ sp).length := by
        rw [List.length_append, List.length_append, hfx]
        simp only [T_api_Value.c, List.length_cons, List.length_nil]; omega
      have hJE : J () ((D2.put b (.row (xs.flatMap T_api_Value.c ++ T_api_Value.c y ++ sp))).put tb (.row [slv r])) := by
        rw [hJ]
        generalize hE : (D2.put b (.row (xs.flatMap T_api_Value.c ++ T_api_Value.c y ++ sp))).put tb (.row [slv r]) = E
        have Et : E tb = some (true, .row [slv r]) := by rw [← hE, Heap.put_same]
        have Eb : E b = some (true, .row (xs.flatMap T_api_Value.c ++ T_api_Value.c y ++ sp)) := by rw [← hE, Heap.put_ne _ _ _ hbt, Heap.put_same]
        have Eo : ∀ c e, c ≠ tb → (D.off s) c = some e → E c = some e := fun c e hc he => by
          have : c ≠ b := fun e' => by rw [e', hfr] at he; cases he
          rw [← hE, Heap.put_ne _ _ _ hc, Heap.put_ne _ _ _ this]; exact ho.le _ _ he
        let R2 : Heap := fun c => if (R c).isSome then R c else Heap.new H2 D c
        have hR2 : ∀ c e, R2 c = some e → (R c = some e) ∨ (H2 c = none ∧ D c = some e) := fun c e hc => by
          have hc : (if (R c).isSome then R c else Heap.new H2 D c) = some e := hc
          split at hc
          · exact .inl hc
          · exact .inr (Heap.new_inv hc)
        have R2off : ∀ c e, R2 c = some e → (D.off s) c = some e ∧ c ≠ tb := fun c e hc => by
          rcases hR2 c e hc with hc | ⟨n2, hc⟩
          · refine ⟨Heap.off_some (hD _ _ (h3 _ _ hc)) fun p hp e' => ?_, fun e' => by rw [e', h5] at hc; cases hc⟩
            have := (h6 p hp).2.1
            rw [e', hc] at this; cases this
          · refine ⟨Heap.off_some hc fun p hp e' => hnb c ⟨p, hp, e'⟩ n2, fun e' => by rw [e', h1] at n2; cases n2⟩
        have R2le : R2.le E := fun c e hc => Eo c e (R2off c e hc).2 (R2off c e hc).1
        have rR : R.le R2 := fun c e hc => by
          show (if (R c).isSome then R c else Heap.new H2 D c) = _
          rw [hc]; rfl
        have nR : (Heap.new H2 D).le R2 := fun c e hc => by
          show (if (R c).isSome then R c else Heap.new H2 D c) = _
          rw [if_neg]; exact hc
          intro hs
          cases hRc : R c with
          | none => rw [hRc] at hs; cases hs
          | some z => have := (Heap.new_inv hc).1; rw [h3 _ _ hRc] at this; cases this
        refine ⟨fun c => E c ≠ none ∧ (c = tb ∨ Bl r c ∨ R2 c ≠ none), ⟨⟨R2, r, xs ++ [y], Et, ?_, R2le, VsAre.snoc (hy.le nR) (h4.le rR), ?_, fun p hp => ?_, ⟨by rw [Et]; simp, .inl rfl⟩, fun c hc => ⟨?_, .inr (.inr hc)⟩⟩, ?_, fun c hc => hc.1⟩, fun c e hf hc => ?_, fun c hc => ?_⟩
        · rw [List.flatMap_append, List.flatMap_singleton]
          exact ⟨by rw [hr]; rw [List.length_append, hfx]; simp [T_api_Value.c]; omega, q2, q3, .inr ⟨b, sp, p1, Eb, by simpa [T_api_Value.c] using p3⟩⟩
        · cases hR : R2 tb with
          | none => rfl
          | some z => exact absurd rfl (R2off _ _ hR).2
        · rw [p1] at hp; injection hp with hp; subst hp
          refine ⟨hbt, ?_, by rw [Eb]; simp, .inr (.inl ⟨_, p1, rfl⟩)⟩
          cases hR : R2 b with
          | none => rfl
          | some z => rw [(R2off _ _ hR).1] at hfr; cases hfr
        · cases hR : R2 c with
          | none => exact absurd hR hc
          | some z => rw [R2le _ _ hR]; simp
        · have := h.vals.put hm hB
          rw [hput] at this; exact this
        · have c2 : c ≠ tb := fun e' => hf (e' ▸ h7)
          exact Eo c e c2 (Heap.off_some (hD _ _ (lH _ _ hc)) fun p hp e' => hf (e' ▸ (h6 p hp).2.2))
        · rcases hc.2 with hc | ⟨p, hp, hc⟩ | hc
          · exact .inl (hc ▸ h7)
          · rw [p1] at hp; injection hp with hp; subst hp
            subst hc
            by_cases hbl : Bl s b
            · obtain ⟨p, hp, e'⟩ := hbl
              exact .inl (e' ▸ (h6 p hp).2.2)
            · refine .inr ?_
              cases hh : H b with
              | none => rfl
              | some z =>
                have := Heap.off_some (s := s) (hD _ _ (lH _ _ hh)) fun p hp e' => hbl ⟨p, hp, e'⟩
                rw [hfr] at this; cases this
          · cases hR : R2 c with
            | none => exact absurd hR hc
            | some z =>
              rcases hR2 c z hR with hR | ⟨n2, _⟩
              · exact .inl (h8 c (by rw [hR]; simp))
              · exact .inr (lH.none n2)
      have hzD : ∀ D3 : Heap, (∀ c, c ≠ b → c ≠ tb → D3 c = D2 c) → Hz.le D3 := fun D3 hd c e hc => by
        have hcb : c ≠ b := fun e' => by rw [e', hzle.none hbs] at hc; cases hc
        have hct : c ≠ tb := fun e' => by rw [e', hzn] at hc; cases hc
        rw [hd c hcb hct]; exact hle2 _ _ (hzle _ _ hc)
      refine ⟨hle2, (b, 0), p1, q2, by omega, by omega, (tb, 0), rfl, ?_, ?_⟩
      · rw [e0]
        refine ⟨_, p2, hlen, fun c e hc => ?_, _, by rw [Heap.put_ne _ _ _ (Ne.symm hbt)]; exact t2, by show 0 + 0 < 1; omega, ?_, ?_⟩
        · have hcb : c ≠ b := fun e' => by rw [e', hbs] at hc; cases hc
          rw [Heap.put_ne _ _ _ hcb]; exact hle2 _ _ hc
        · exact hzD _ fun c h1 h2 => by rw [Heap.put_ne _ _ _ h2, Heap.put_ne _ _ _ h1]
        · dsimp only
          rw [hsp]; exact hJE
      · rw [e0]
        refine ⟨_, t2, by show 0 + 0 < 1; omega, hzD _ fun c h1 h2 => by rw [Heap.put_ne _ _ _ h2], _, by rw [Heap.put_ne _ _ _ hbt]; exact p2, hlen, ?_, ?_⟩
        · exact hzD _ fun c h1 h2 => by rw [Heap.put_ne _ _ _ h1, Heap.put_ne _ _ _ h2]
        · dsimp only
          rw [hsp, Heap.put_comm _ _ _ _ _ (Ne.symm hbt)]; exact hJE
    have new2 : ∀ {A B D : Heap} {y : TV}, H2.le A → B.le D → VIs (Heap.new A B) v y → VIs (Heap.new H2 D) v y := fun {A B D y} ha hb hy => hy.le fun c e hc => by
      obtain ⟨q1, q2⟩ := Heap.new_inv hc
      exact Heap.new_some (hb _ _ q2) (ha.none q1)
    have row : ∀ {D : Heap} {b : Nat}, H2.le D → D b = some (true, .row (T_api_Value.c x ++ [])) → VRow D (Sl.of (some (b, 0)) 1 1) [v] := fun {D b} hD hb => ⟨[x], .inr ⟨rfl, _, rfl, rds_row hb fun j u hj => by rw [Nat.zero_add]; simpa using hj⟩, rfl, hv2.le hD, trivial⟩
    have hsz : vsizes [v] ≤ 1000000 := by simp only [vsizes]; omega
    have off := Heap.off_le s H2
    refine ⟨?_, ?_⟩
    · intro b29 n29
      have l30 := Heap.le_put n29 (g := .row (T_api_Value.c x ++ [])) (m := true)
      have h30 : (H2.put b29 (.row (T_api_Value.c x ++ []))) b29 = some (true, .row (T_api_Value.c x ++ [])) := Heap.put_same ..
      generalize H2.put b29 (.row (T_api_Value.c x ++ [])) = H30 at *
      refine ⟨off.trans l30, ?_, ?_⟩
      · refine Own_ok (row l30 h30) (Heap.le.refl _) hsz fun t2 H33 hM => ⟨off.trans (l30.trans hM.le), ?_⟩
        obtain ⟨m1, y, m2, m3, _⟩ := hM.one
        have l33 := l30.trans hM.le
        refine ixa_of m2 (Int.le_refl _) (by omega) (by simp [T_api_Value.c]) fun p hp hrd => ⟨⟨y, ?_, off.trans l33, ?_⟩, ?_⟩
        · rw [show (0 : Int).toNat * 4 = 0 from rfl, Nat.add_zero]; exact hrd
        · intro b43 n43
          have l43 := Heap.le_put n43 (g := .row (T_api_Value.c ⟨0, 0, [], Sl.nil⟩ ++ [])) (m := true)
          exact ⟨off.trans (l33.trans l43), fin _ b43 y (l33.trans l43) (Heap.put_same ..) (new2 l30 l43 m3)⟩
        · intro b64 n64
          have l64 := Heap.le_put n64 (g := .row (T_api_Value.c ⟨0, 0, [], Sl.nil⟩ ++ [])) (m := true)
          refine ⟨off.trans (l33.trans l64), y, ?_, off.trans (l33.trans l64), fin _ b64 y (l33.trans l64) (Heap.put_same ..) (new2 l30 l64 m3)⟩
          rw [show (0 : Int).toNat * 4 = 0 from rfl, Nat.add_zero]; exact rds_le l64 hrd
      · intro b82 n82
        have l82 := Heap.le_put n82 (g := .row (T_api_Value.c ⟨0, 0, [], Sl.nil⟩ ++ [])) (m := true)
        have h82 : (H30.put b82 (.row (T_api_Value.c ⟨0, 0, [], Sl.nil⟩ ++ []))) b82 = some (true, .row (T_api_Value.c ⟨0, 0, [], Sl.nil⟩ ++ [])) := Heap.put_same ..
        have h30' := l82 _ _ h30
        have lA := l30.trans l82
        generalize H30.put b82 (.row (T_api_Value.c ⟨0, 0, [], Sl.nil⟩ ++ [])) = H83 at *
        refine ⟨off.trans lA, Own_ok (row lA h30') (Heap.le.refl _) hsz fun t2 H86 hM => ⟨off.trans (lA.trans hM.le), ?_⟩⟩
        obtain ⟨m1, y, m2, m3, _⟩ := hM.one
        have l86 := lA.trans hM.le
        refine ixa_of m2 (Int.le_refl _) (by omega) (by simp [T_api_Value.c]) fun p hp hrd => ⟨y, ?_, off.trans l86, fin _ b82 y l86 (hM.le _ _ h82) (new2 lA (Heap.le.refl _) m3)⟩
        rw [show (0 : Int).toNat * 4 = 0 from rfl, Nat.add_zero]; exact hrd
    · intro b120 n120
      have l120 := Heap.le_put n120 (g := .row (T_api_Value.c ⟨0, 0, [], Sl.nil⟩ ++ [])) (m := true)
      have h120 : (H2.put b120 (.row (T_api_Value.c ⟨0, 0, [], Sl.nil⟩ ++ []))) b120 = some (true, .row (T_api_Value.c ⟨0, 0, [], Sl.nil⟩ ++ [])) := Heap.put_same ..
      generalize H2.put b120 (.row (T_api_Value.c ⟨0, 0, [], Sl.nil⟩ ++ [])) = H121 at *
      refine ⟨off.trans l120, ?_⟩
      intro b123 n123
      have l123 := Heap.le_put n123 (g := .row (T_api_Value.c x ++ [])) (m := true)
      have h123 : (H121.put b123 (.row (T_api_Value.c x ++ []))) b123 = some (true, .row (T_api_Value.c x ++ [])) := Heap.put_same ..
      have h120' := l123 _ _ h120
      have lA := l120.trans l123
      generalize H121.put b123 (.row (T_api_Value.c x ++ [])) = H124 at *
      refine ⟨off.trans lA, Own_ok (row lA h123) (Heap.le.refl _) hsz fun t2 H127 hM => ⟨off.trans (lA.trans hM.le), ?_⟩⟩
      obtain ⟨m1, y, m2, m3, _⟩ := hM.one
      have l127 := lA.trans hM.le
      refine ixa_of m2 (Int.le_refl _) (by omega) (by simp [T_api_Value.c]) fun p hp hrd => ⟨y, ?_, off.trans l127, fin _ b120 y l127 (hM.le _ _ h120') (new2 lA (Heap.le.refl _) m3)⟩
      rw [show (0 : Int).toNat * 4 = 0 from rfl, Nat.add_zero]; exact hrd
  · rw [hJ]
    rintro _ E ⟨F2, e1, e2, e3⟩
    obtain ⟨s', a1, a2, a3⟩ := e1.all
    refine ⟨_, rfl, s', a1, ?_⟩
    dsimp only
    rw [a3, List.length_append, List.length_singleton, w_i64 (by omega) (by omega)]
    have := k1 E F2 e1 e2 e3
    have e4 : ((vs.length + 1 : Nat) : Int) - 1 = (vs.length : Int) := by omega
    rw [e4]; exact this
end
end Sx
end

noncomputable section
set_option linter.unusedVariables false
set_option linter.unusedSimpArgs false
set_option maxRecDepth 10000
namespace Sx
open Go Go.Proofs
section
variable {C : Ctx} {H : Heap} {F : Nat → Prop} {tb : Nat} {vs : List V}
theorem dPutRow_ok {A : Heap} {t : Sl} {l : List V} {K : Sl → Int → Heap → Prop} (h : Td H F tb vs) (hA : A.le H) (hAF : ∀ c, F c → A c = none) (hv : VRow A t l) (hB : VBs l) (hs : vsizes l ≤ 1000000) (hn : vs.length + l.length ≤ 1000000)
    (k0 : (¬ ∀ v ∈ l, mayV v = true) → ∀ H2, H.le H2 → K Sl.nil (((l.find? fun v => !mayV v).map checkV).getD 0) H2)
    (k1 : (∀ v ∈ l, mayV v = true) → ∀ t2 H2 F2, Td H2 F2 tb (putsV vs l).1 → Keep F H H2 → (∀ c, F2 c → F c ∨ H c = none) → Own H2 1 t2 ((putsV vs l).2.map fun n : Nat => encI n) → (∀ c, Bl t2 c → (F c ∨ H c = none) ∧ ¬ F2 c) → K t2 0 H2) : c_ref04_Table_PutRow C (some (tb, 0)) t K H := by
  apply ad_ref04_Table_PutRow
  unfold sh_ref04_Table_PutRow
  rw [hv.len]
  have hll := vsizes_len l
  refine ⟨fun x D => H.le D ∧ ∃ i : Nat, x = (i : Int) ∧ i ≤ l.length ∧ ∀ v ∈ l.take i, mayV v = true, fun x _ => l.length - x.toNat, ⟨Heap.le.refl _, 0, rfl, Nat.zero_le _, fun v hv => by simp at hv⟩, ?_⟩
  rintro _ D ⟨hD, i, rfl, hi, hall⟩
  refine ift.of (fun hlt => ?_) (fun hlt => ?_)
  · have hlt : i < l.length := by have := of_decide_eq_true hlt; omega
    have hsz := vsize_mem (List.getElem_mem hlt)
    refine hv.ld (hA.trans hD) rfl hlt fun x hx => ?_
    refine ref02_Check_ok (hx.le (hA.trans hD)) (hB.mem (List.getElem_mem hlt)) (by omega) ?_
    rw [bne, mayV_dec]
    refine ift.of (fun hm => ?_) (fun hm => ?_)
    · have hm : mayV l[i] = false := by simpa using hm
      have hf : l.find? (fun v => !mayV v) = some l[i] := find_first hlt (fun v hv => by simp [hall v hv]) (by simp [hm])
      have := k0 (fun h => by rw [h _ (List.getElem_mem hlt)] at hm; cases hm) _ hD
      rw [hf] at this; exact this
    · have hm : mayV l[i] = true := by simpa using hm
      rw [w_i64 (by omega) (by omega)]
      refine ⟨⟨hD, i + 1, by omega, by omega, fun v hv => ?_⟩, by first | omega | (dsimp only; omega)⟩
      rw [List.take_add_one, List.getElem?_eq_getElem hlt, Option.toList_some, List.mem_append, List.mem_singleton] at hv
      rcases hv with hv | rfl
      · exact hall v hv
      · exact hm
  have hie : i = l.length := by have := of_decide_eq_false hlt; omega
  subst hie
  rw [List.take_length] at hall
  have k1 := k1 hall
  refine ⟨fun x D => ∃ (i : Nat) (s : Sl) (F2 : Nat → Prop), x = (s, (i : Int)) ∧ i ≤ l.length ∧ Td D F2 tb (putsV vs (l.take i)).1 ∧ Keep F H D ∧ (∀ c, F2 c → F c ∨ H c = none) ∧ Own D 1 s ((putsV vs (l.take i)).2.map fun n : Nat => encI n) ∧ ∀ c, Bl s c → (F c ∨ H c = none) ∧ ¬ F2 c, fun x _ => l.length - x.2.toNat,
    ⟨0, Sl.nil, F, rfl, Nat.zero_le _, h.le hD, Keep.of_le hD, (fun c hc => .inl hc), Own.nil _ 1, fun c ⟨p, hp, _⟩ => by cases hp⟩, ?_⟩
  clear hD hlt hi
  rintro _ D ⟨i, s, F2, rfl, hi, hT, hK, hF2, hO, hS⟩
  refine ift.of (fun hlt => ?_) (fun hlt => ?_)
  · have hlt : i < l.length := by have := of_decide_eq_true hlt; omega
    have hAD : A.le D := hK.le hA hAF
    refine hv.ld hAD rfl hlt fun x hx => ?_
    have hsz := vsize_mem (List.getElem_mem hlt)
    have hpl := putsV_len vs (l.take i)
    rw [List.length_take] at hpl
    refine dPut_ok hT hAD hx (hB.mem (List.getElem_mem hlt)) (by omega) (by omega) (fun hm => by rw [hall _ (List.getElem_mem hlt)] at hm; cases hm) fun _ D2 F3 hT3 hK3 hF3 => ?_
    have e1 : putsV vs (l.take (i + 1)) = ((putV (putsV vs (l.take i)).1 l[i]).1, (putsV vs (l.take i)).2 ++ [(putV (putsV vs (l.take i)).1 l[i]).2]) := by
      rw [List.take_add_one, List.getElem?_eq_getElem hlt, Option.toList_some, putsV_snoc]
    have hK2 : Keep F H D2 := hK.trans hK3 hF2
    have hO2 : Own D2 1 s ((putsV vs (l.take i)).2.map fun n : Nat => encI n) := hO.keep hK3 fun c hc => (hS c hc).2
    have hsl : s.len = i := by have := hO.1; simp at this; omega
    refine apd_ownF (zc := [.int .i64 0]) hO2.off rfl (by dsimp only; omega) (by dsimp only; omega) fun r D3 hr hrl => ?_
    obtain ⟨g1, g2⟩ := hr.grow
    have hbs : ∀ c, Bl s c → ¬ F3 c := fun c hc h3 => (hF3 c h3).elim (hS c hc).2 fun h1 => hO.bl hc h1
    rw [w_i64 (by dsimp only; omega) (by dsimp only; omega)]
    refine ⟨⟨i + 1, r, F3, by simp, by omega, ?_, hK2.trans g1 fun c hc => (hS c hc).1, fun c hc => (hF3 c hc).elim (hF2 c) fun h1 => ?_, ?_, fun c hc => ⟨(g2 c hc).elim (fun h => (hS c h).1) fun h2 => ?_, fun h3 => (g2 c hc).elim (fun h => hbs c h h3) fun h2 => hT3.dom c h3 h2⟩⟩, by first | omega | (dsimp only; omega)⟩
    · rw [e1]; exact hT3.keep g1 fun c hc hb => hbs c hb hc
    · by_cases hf : F c
      · exact .inl hf
      · refine .inr ?_
        cases hh : H c with
        | none => rfl
        | some e => have := hK c e hf hh; rw [h1] at this; cases this
    · rw [e1, List.map_append, List.map_singleton]; exact hr.own
    · by_cases hf : F c
      · exact .inl hf
      · refine .inr ?_
        cases hh : H c with
        | none => rfl
        | some e => have := hK2 c e hf hh; rw [h2] at this; cases this
  · have hie : i = l.length := by have := of_decide_eq_false hlt; omega
    subst hie
    rw [List.take_length] at hT hO
    exact k1 s D F2 hT hK hF2 hO hS
theorem dRow_ok {A : Heap} {t : Sl} {ns : List Int} {K : Sl → Int → Heap → Prop} (h : Td H F tb vs) (hA : A.le H) (ht : rdsl A t (ns.map encI)) (hl : t.len = ns.length) (hn : ns.length ≤ 1000000) (hvn : vs.length ≤ 1000000)
    (k1 : (∀ n ∈ ns, 0 ≤ n ∧ n < vs.length) → ∀ r H2, H.le H2 → VRow H2 r (ns.map (atV vs)) → K r 0 H2) (k2 : (¬ ∀ n ∈ ns, 0 ≤ n ∧ n < vs.length) → ∀ H2, H.le H2 → K Sl.nil 5 H2) : c_ref04_Table_Row C (some (tb, 0)) t K H := by
  apply ad_ref04_Table_Row
  unfold sh_ref04_Table_Row
  rw [hl]
  obtain ⟨sa, a1, a2, a3⟩ := h.all
  obtain ⟨xa, b1, b2, b3⟩ := a2
  have hxl := b3.len
  refine ⟨fun x D => ∃ (s : Sl) (ys : List TV), x = (s, (ys.length : Int)) ∧ OwnF H D 4 s (ys.flatMap T_api_Value.c) ∧ ys.length ≤ ns.length ∧ VsAre H ((ns.take ys.length).map (atV vs)) ys ∧ ∀ n ∈ ns.take ys.length, 0 ≤ n ∧ n < vs.length, fun x _ => ns.length - x.2.toNat, ⟨Sl.nil, [], rfl, OwnF.nil H 4, Nat.zero_le _, trivial, fun n hn => by simp at hn⟩, ?_⟩
  rintro _ D ⟨s, ys, rfl, ho, hyl, hva, hall⟩
  refine ift.of (fun hlt => ?_) (fun hlt => ?_)
  · have hlt : ys.length < ns.length := by have := of_decide_eq_true hlt; dsimp only at this; omega
    have hat : (ns.map encI)[ys.length]? = some (encI ns[ys.length]) := by rw [List.getElem?_map, List.getElem?_eq_getElem hlt]; rfl
    have hta := List.take_add_one (l := ns) (i := ys.length)
    rw [List.getElem?_eq_getElem hlt, Option.toList_some] at hta
    have hmem : ns[ys.length] ∈ ns := List.getElem_mem hlt
    generalize ns[ys.length] = n at *
    refine ⟨fun b E => E = D ∧ (b = false → 0 ≤ n ∧ n < vs.length) ∧ (b = true → ¬ (0 ≤ n ∧ n < vs.length)), ?_, ?_⟩
    · refine ⟨H, ho.le, ix_ldI (rdsl_le hA ht) rfl (by omega) hat ?_⟩
      refine ift.of (fun h0 => ⟨rfl, (fun h => by cases h), fun _ h => ?_⟩) (fun h0 => ix_ldI (rdsl_le hA ht) rfl (by omega) hat ⟨_, rfl, sa, a1, rfl, fun h1 => ?_, fun h1 => ?_⟩)
      · have := of_decide_eq_true h0; omega
      · have h0 := of_decide_eq_false h0; have h1 := of_decide_eq_false h1; omega
      · have h1 := of_decide_eq_true h1; omega
    rintro b E ⟨rfl, hb1, hb2⟩
    refine ift.of (fun hb => k2 (fun hall' => hb2 hb (hall' n hmem)) _ ho.le) (fun hb => ?_)
    obtain ⟨n0, n1⟩ := hb1 hb
    have hnl : n.toNat < vs.length := by omega
    have hxn : n.toNat < xa.length := by omega
    refine ⟨H, ho.le, _, rfl, sa, a1, ix_ldI (rdsl_le hA ht) rfl (by omega) hat ?_⟩
    have hrow : VRow H sa vs := ⟨xa, b1, b2, b3⟩
    refine hrow.ld (Heap.le.refl _) (i := n.toNat) (by omega) hnl fun y hy => ?_
    intro b52 n52
    have l52 := Heap.le_put n52 (g := .row (T_api_Value.c y ++ [])) (m := true)
    refine ⟨ho.le.trans l52, ?_⟩
    have hsl : s.len = ys.length := by have := ho.own.1; rw [flat4] at this; omega
    refine apS_ownF (zc := T_api_Value.c T_api_Value.zero) (ys := T_api_Value.c y) (ho.up l52) (.inr ⟨rfl, _, rfl, rds_row (Heap.put_same ..) fun j u hj => by rw [Nat.zero_add]; simpa using hj⟩) rfl (fun u hu => ?_) (by show (s.len + 1) * 56 ≤ _; omega) (by show s.len + 1 ≤ _; omega) fun r D2 h4 hr => ⟨h4.le, ?_⟩
    · simp only [T_api_Value.c, List.mem_cons, List.not_mem_nil, or_false] at hu
      rcases hu with rfl | rfl | rfl | rfl <;> rfl
    rw [w_i64 (by dsimp only; omega) (by dsimp only; omega)]
    have hav : atV vs n = vs[n.toNat] := by simp [atV, hnl]
    refine ⟨⟨r, ys ++ [y], by simp, by rw [List.flatMap_append, List.flatMap_singleton]; exact h4, by rw [List.length_append, List.length_singleton]; omega, ?_, fun m hm => ?_⟩, by first | omega | (dsimp only; omega)⟩
    · rw [List.length_append, List.length_singleton, hta, List.map_append, List.map_singleton, hav]
      exact VsAre.snoc hy hva
    · rw [List.length_append, List.length_singleton, hta, List.mem_append, List.mem_singleton] at hm
      rcases hm with hm | rfl
      · exact hall m hm
      · exact ⟨n0, n1⟩
  · have hye : ys.length = ns.length := by have := of_decide_eq_false hlt; dsimp only at this; omega
    rw [hye, List.take_length] at hall hva
    exact k1 hall _ _ ho.le ⟨ys, ho.own.rdsl, by have := ho.own.1; rw [flat4] at this; dsimp only; omega, hva.le ho.le⟩
end
end Sx
end

noncomputable section
set_option linter.unusedVariables false
set_option linter.unusedSimpArgs false
set_option maxRecDepth 10000
namespace Sx
open Go Go.Proofs
structure OpV where
  k : Int
  row : List V
  ns : List Int
def OpIs (A : Heap) (o : OpV) (x : T_law04_Op) : Prop := x.Kind = o.k ∧ VRow A x.Row o.row ∧ rdsl A x.Numbers (o.ns.map encI) ∧ x.Numbers.len = o.ns.length
def Ops (A : Heap) (s : Sl) (l : List OpV) : Prop := ∃ xs : List T_law04_Op, rdsl A s (xs.flatMap T_law04_Op.c) ∧ s.len = xs.length ∧ xs.length = l.length ∧ ∀ (i : Nat) (x : T_law04_Op) (o : OpV), xs[i]? = some x → l[i]? = some o → OpIs A o x
theorem OpIs.le {A B : Heap} {o : OpV} {x : T_law04_Op} (h : OpIs A o x) (hle : A.le B) : OpIs B o x := ⟨h.1, h.2.1.le hle, rdsl_le hle h.2.2.1, h.2.2.2⟩
theorem opc_len (x : T_law04_Op) : (T_law04_Op.c x).length = 3 := rfl
theorem Ops.len {A : Heap} {s : Sl} {l : List OpV} (h : Ops A s l) : s.len = l.length := by obtain ⟨xs, h1, h2, h3, _⟩ := h; omega
theorem Ops.at_ {A H : Heap} {s : Sl} {l : List OpV} (h : Ops A s l) (hle : A.le H) {i : Nat} {x : Int} {K : Nat × Nat → Prop} (hx : x = i) (hi : i < l.length) (k : ∀ p y, OpIs A l[i] y → (∀ j v, (T_law04_Op.c y)[j]? = some v → rd H (p.1, p.2 + x.toNat * 3 + j) = some v) → K p) : ixa s x K := by
  obtain ⟨xs, h1, h2, h3, h4⟩ := h
  have hi2 : i < xs.length := by omega
  have hg := List.getElem?_eq_getElem hi2
  subst hx
  refine ixa_of (rdsl_le hle h1) (by omega) (by omega) (fun e => ?_) fun p _ hp => k p xs[i] (h4 i _ _ hg (List.getElem?_eq_getElem hi)) fun j v hj => ?_
  · have := flat_get T_law04_Op.c 3 opc_len xs i _ hg 0 _ rfl
    rw [e] at this; simp at this
  · have := rds_get hp _ _ (flat_get T_law04_Op.c 3 opc_len xs i _ hg j v hj)
    rw [show p.2 + (i : Int).toNat * 3 + j = p.2 + (i * 3 + j) by omega]; exact this
theorem Ops.ld {A H : Heap} {s : Sl} {l : List OpV} (h : Ops A s l) (hle : A.le H) {i : Nat} {x : Int} {K : T_law04_Op → Prop} (hx : x = i) (hi : i < l.length) (k : ∀ y, OpIs A l[i] y → K y) : ixa s x fun p => ldT H T_law04_Op.c (p.1, p.2 + x.toNat * 3) K :=
  h.at_ hle hx hi fun p y hy hr => ⟨y, rds_of fun j v hj => hr j v hj, k y hy⟩
theorem Ops.row {A H : Heap} {s : Sl} {l : List OpV} (h : Ops A s l) (hle : A.le H) {i : Nat} {x : Int} {K : Sl → Prop} (hx : x = i) (hi : i < l.length) (k : ∀ t, VRow A t l[i].row → K t) : ixa s x fun p => ldL H ((p.1, p.2 + x.toNat * 3).1, (p.1, p.2 + x.toNat * 3).2 + 1) K :=
  h.at_ hle hx hi fun p y hy hr => ⟨y.Row, hr 1 _ rfl, k _ hy.2.1⟩
theorem Ops.num {A H : Heap} {s : Sl} {l : List OpV} (h : Ops A s l) (hle : A.le H) {i : Nat} {x : Int} {K : Sl → Prop} (hx : x = i) (hi : i < l.length) (k : ∀ t : Sl, t.len = l[i].ns.length → K t) : ixa s x fun p => ldL H ((p.1, p.2 + x.toNat * 3).1, (p.1, p.2 + x.toNat * 3).2 + 2) K :=
  h.at_ hle hx hi fun p y hy hr => ⟨y.Numbers, hr 2 _ rfl, k _ hy.2.2.2⟩
def opw (l : List OpV) : Nat := (l.map fun o => o.ns.length + vsizes o.row).sum
theorem opw_take {l : List OpV} {i : Nat} (h : i < l.length) : opw (l.take (i + 1)) = opw (l.take i) + (l[i].ns.length + vsizes l[i].row) := by
  unfold opw
  rw [List.take_add_one, List.getElem?_eq_getElem h, Option.toList_some, List.map_append, List.sum_append]; simp
/-- both tables -/
structure PQ (A H : Heap) (t x : Nat) (F G : Nat → Prop) (vs ws : List V) : Prop where
  tb : Tb H F t vs
  td : Td H G x ws
  le : A.le H
  f : ∀ c, F c → A c = none
  g : ∀ c, G c → A c = none
  fg : ∀ c, F c → ¬ G c
theorem PQ.up {A H H2 : Heap} {t x : Nat} {F G : Nat → Prop} {vs ws : List V} (h : PQ A H t x F G vs ws) (hle : H.le H2) : PQ A H2 t x F G vs ws := ⟨h.tb.le hle, h.td.le hle, h.le.trans hle, h.f, h.g, h.fg⟩
theorem PQ.t {A H H2 : Heap} {t x : Nat} {F G F2 : Nat → Prop} {vs ws vs2 : List V} (h : PQ A H t x F G vs ws) (hT : Tb H2 F2 t vs2) (hK : Keep F H H2) (hF : ∀ c, F2 c → F c ∨ H c = none) : PQ A H2 t x F2 G vs2 ws :=
  ⟨hT, h.td.keep hK fun c hg hf => h.fg c hf hg, hK.le h.le h.f, fun c hc => (hF c hc).elim (h.f c) h.le.none, h.g, fun c hf hg => (hF c hf).elim (fun h1 => h.fg c h1 hg) fun h1 => h.td.dom c hg h1⟩
theorem PQ.d {A H H2 : Heap} {t x : Nat} {F G G2 : Nat → Prop} {vs ws ws2 : List V} (h : PQ A H t x F G vs ws) (hT : Td H2 G2 x ws2) (hK : Keep G H H2) (hG : ∀ c, G2 c → G c ∨ H c = none) : PQ A H2 t x F G2 vs ws2 :=
  ⟨h.tb.keep hK h.fg, hT, hK.le h.le h.g, h.f, fun c hc => (hG c hc).elim (h.g c) h.le.none, fun c hf hg => (hG c hg).elim (h.fg c hf) fun h1 => h.tb.dom c hf h1⟩
theorem PQ.keep {A B H H2 : Heap} {t x : Nat} {F G N : Nat → Prop} {vs ws : List V} (h : PQ A H t x F G vs ws) (hK : Keep N H H2) (hf : ∀ c, F c → ¬ N c) (hg : ∀ c, G c → ¬ N c) (hB : B.le A) (hN : ∀ c, N c → B c = none) : PQ B H2 t x F G vs ws :=
  ⟨h.tb.keep hK hf, h.td.keep hK hg, hK.le (hB.trans h.le) hN, fun c hc => hB.none (h.f c hc), fun c hc => hB.none (h.g c hc), h.fg⟩
/-- both hold the same -/
def Pl (A H : Heap) (t x : Nat) (vs : List V) : Prop := ∃ F G, PQ A H t x F G vs vs
open Classical in
noncomputable def Heap.wo (P : Nat → Prop) (H : Heap) : Heap := fun c => if P c then none else H c
theorem Heap.wo_le (P : Nat → Prop) (H : Heap) : (Heap.wo P H).le H := fun c e h => by
  unfold Heap.wo at h
  split at h
  · cases h
  · exact h
theorem Heap.wo_none {P : Nat → Prop} {H : Heap} {c : Nat} (h : P c) : Heap.wo P H c = none := by unfold Heap.wo; rw [if_pos h]
theorem Heap.wo_some {P : Nat → Prop} {H : Heap} {c : Nat} {e : Bool × GO} (h : H c = some e) (hp : ¬ P c) : Heap.wo P H c = some e := by unfold Heap.wo; rw [if_neg hp]; exact h
/-- what steps keep -/
structure Few (vs : List V) (n z : Nat) : Prop where
  len : vs.length ≤ n
  sz : ∀ v ∈ vs, vsize v ≤ z
theorem Few.put {vs : List V} {n z : Nat} (h : Few vs n z) {v : V} (hv : vsize v ≤ z) : Few (putV vs v).1 (n + 1) z :=
  ⟨by have := (putV_len vs v).1; have := h.len; omega, fun w hw => (putV_mem hw).elim (h.sz w) fun e => e ▸ hv⟩
theorem Few.puts {vs l : List V} {n z : Nat} (h : Few vs n z) (hl : ∀ v ∈ l, vsize v ≤ z) : Few (putsV vs l).1 (n + l.length) z :=
  ⟨by have := (putsV_len vs l).1; have := h.len; omega, fun w hw => (putsV_mem _ l rfl hw).elim (h.sz w) (hl w)⟩
theorem Few.up {vs : List V} {n m z : Nat} (h : Few vs n z) (hm : n ≤ m) : Few vs m z := ⟨by have := h.len; omega, h.sz⟩
theorem encI_map (l : List Nat) : (l.map fun n : Nat => encI n) = (l.map fun n : Nat => (n : Int)).map encI := by rw [List.map_map]; rfl
theorem V0_is (H : Heap) : VIs H V0 ⟨0, 0, [], Sl.nil⟩ := ⟨rfl, rfl, rfl, [], .inl rfl, rfl, trivial⟩
theorem V0_vb : VB V0 := by simp [V0, VB, VBs]
theorem nil_row (H : Heap) : VRow H Sl.nil [] := ⟨[], .inl rfl, rfl, trivial⟩
theorem atV_mem {vs : List V} {n : Int} (h : 0 ≤ n ∧ n < vs.length) : atV vs n ∈ vs := by
  have : n.toNat < vs.length := by omega
  simp only [atV, List.getD_eq_getElem?_getD, List.getElem?_eq_getElem this, Option.getD_some]
  exact List.getElem_mem _
section
variable {C : Ctx} {H : Heap}
theorem large_ok {l : List OpV} {s : Sl} {K : Bool → Heap → Prop} (hv : Ops H s l) (hl : l.length ≤ 140737488355328) (hB : ∀ o ∈ l, VBs o.row ∧ o.row.length ≤ 140737488355328 ∧ o.ns.length ≤ 140737488355328) (k : ∀ b : Bool, (b = false → l.length + opw l ≤ 1500) → K b H) : c_law04_large C s K H := by
  apply ad_law04_large
  unfold sh_law04_large
  rw [hv.len]
  refine ⟨fun y A => A = H ∧ ∃ i n : Nat, y = ((n : Int), (i : Int)) ∧ i ≤ l.length ∧ n ≤ 200000000000000 ∧ (n < 1500 → l.length + opw (l.take i) ≤ n), fun y _ => l.length - y.2.toNat,
    ⟨rfl, 0, l.length, rfl, Nat.zero_le _, by omega, fun _ => by simp [opw]⟩, ?_⟩
  rintro _ A ⟨rfl, i, n, rfl, hi, hn2, hn3⟩
  refine ift.of (fun h => ?_) (fun h => ?_)
  · simp only [Bool.and_eq_true, decide_eq_true_eq] at h
    have hlt : i < l.length := by omega
    have hnm : n < 1500 := by omega
    obtain ⟨b1, b2, b3⟩ := hB _ (List.getElem_mem hlt)
    refine hv.num (Heap.le.refl _) rfl hlt fun t ht => ?_
    rw [ht]
    dsimp only
    rw [w_i64 (by omega) (by omega)]
    refine ⟨fun y E => E = A ∧ ∃ k m : Nat, y = ((m : Int), (k : Int)) ∧ k ≤ l[i].row.length ∧ m ≤ 200000000000000 ∧ (m < 1500 → n + l[i].ns.length + vsizes (l[i].row.take k) ≤ m), fun y _ => l[i].row.length - y.2.toNat,
      ⟨rfl, 0, n + l[i].ns.length, by simp, Nat.zero_le _, by omega, fun _ => by simp [vsizes]⟩, ?_⟩
    rintro _ E ⟨rfl, k, m, rfl, hk, hm2, hm3⟩
    refine hv.row (Heap.le.refl _) rfl hlt fun t ht => ?_
    rw [ht.len]
    refine ift.of (fun h2 => ?_) (fun h2 => ?_)
    · simp only [Bool.and_eq_true, decide_eq_true_eq] at h2
      have hkt : k < l[i].row.length := by omega
      have hmm : m < 1500 := by omega
      refine hv.row (Heap.le.refl _) rfl hlt fun t ht => ?_
      refine ht.ld (Heap.le.refl _) rfl hkt fun y hy => ?_
      refine weight_ok (m := 1500) hy (b1.mem (List.getElem_mem hkt)) (by omega) (by omega) fun r r1 r2 r3 => ?_
      dsimp only
      rw [w_i64 (by omega) (by omega), w_i64 (by omega) (by omega)]
      refine ⟨⟨rfl, k + 1, m + r, by simp, by omega, by omega, fun hh => ?_⟩, by first | omega | (dsimp only; omega)⟩
      rw [vsizes_take hkt]
      have := r3 (by omega)
      have := hm3 hmm
      omega
    · dsimp only
      rw [w_i64 (by omega) (by omega)]
      refine ⟨⟨rfl, i + 1, m, by simp, by omega, by omega, fun hh => ?_⟩, by first | omega | (dsimp only; omega)⟩
      have hke : k = l[i].row.length := by
        simp only [Bool.and_eq_false_iff, decide_eq_false_iff_not] at h2
        omega
      have := hm3 hh
      rw [hke, List.take_length] at this
      rw [opw_take hlt]
      have := hn3 hnm
      omega
  · refine k _ fun hh => ?_
    have hh := of_decide_eq_false hh
    dsimp only at hh
    have hie : i = l.length := by
      simp only [Bool.and_eq_false_iff, decide_eq_false_iff_not] at h
      omega
    have := hn3 (by omega)
    rw [hie, List.take_length] at this
    omega
end
end Sx
end

noncomputable section
set_option linter.unusedVariables false
set_option linter.unusedSimpArgs false
set_option maxRecDepth 10000
namespace Sx
open Go Go.Proofs
theorem headD_get {α : Type} {d : α} : ∀ {l : List α} (h : 0 < l.length), l.headD d = l[0]
  | _ :: _, _ => rfl
section
variable {C : Ctx} {H : Heap}
theorem opR {B : Heap} {b : Nat} {m : Bool} {y : T_law04_Op} {K : Sl → Prop} (h : B b = some (m, .row (T_law04_Op.c y))) (k : K y.Row) : ldL B ((b, 0).1, (b, 0).2 + 1) K := ⟨_, by rw [rd_row h]; rfl, k⟩
theorem opN {B : Heap} {b : Nat} {m : Bool} {y : T_law04_Op} {K : Sl → Prop} (h : B b = some (m, .row (T_law04_Op.c y))) (k : K y.Numbers) : ldL B ((b, 0).1, (b, 0).2 + 2) K := ⟨_, by rw [rd_row h]; rfl, k⟩
theorem opK {B : Heap} {b : Nat} {m : Bool} {y : T_law04_Op} {K : Int → Prop} (h : B b = some (m, .row (T_law04_Op.c y))) (k : K y.Kind) : ldI B .u8 ((b, 0).1, (b, 0).2 + 0) K := ⟨_, by rw [rd_row h]; rfl, k⟩
theorem do_ok (hF : FmtC C) {A : Heap} {o : OpV} {p_o : T_law04_Op} {t x : Nat} {vs : List V} {n : Nat} {K : Bool → Heap → Prop} (hI : Pl A H t x vs) (ho : OpIs A o p_o) (hB : VBs o.row) (hz : vsizes o.row ≤ 2000) (hl : o.ns.length ≤ 2000) (hV : Few vs n 2000) (hn : n ≤ 10000)
    (k : ∀ H2 vs2, Pl A H2 t x vs2 → Few vs2 (n + o.row.length + 1) 2000 → K true H2) : c_law04_Op_do C p_o (some (t, 0)) (some (x, 0)) K H := by
  obtain ⟨F, G, hP⟩ := hI
  have hll := vsizes_len o.row
  have hvz : ∀ v ∈ vs, vsize v ≤ 1000000 := fun v hv => by have := hV.sz v hv; omega
  have hvn : vs.length ≤ 10000 := by have := hV.len; omega
  apply ad_law04_Op_do
  unfold sh_law04_Op_do
  intro b1 n1
  have l2 := Heap.le_put n1 (g := .row (T_law04_Op.c p_o)) (m := true)
  have hb1 : (H.put b1 (.row (T_law04_Op.c p_o))) b1 = some (true, .row (T_law04_Op.c p_o)) := Heap.put_same ..
  generalize H.put b1 (.row (T_law04_Op.c p_o)) = H2 at *
  refine opR hb1 (Own_ok (ho.2.1.le (hP.le.trans l2)) (Heap.le.refl _) (by omega) fun t2 H6 hM => ?_)
  have l6 := l2.trans hM.le
  intro b7 n7
  have l8 := Heap.le_put n7 (g := .row []) (m := true)
  have lA8 := (hP.le.trans l6).trans l8
  refine opN (l8 _ _ (hM.le _ _ hb1)) ?_
  refine apS_ownF (zc := [.int .i64 0]) (ownF_empty n7) (rdsl_le lA8 ho.2.2.1) (by rw [List.length_map, ho.2.2.2]; simp) (fun u hu => by obtain ⟨_, _, rfl⟩ := List.mem_map.1 hu; rfl) (by rw [ho.2.2.2]; show (0 + o.ns.length) * 8 ≤ _; omega) (by rw [ho.2.2.2]; show 0 + o.ns.length ≤ _; omega) fun r11 H12 ho11 hr11 => ?_
  rw [List.nil_append] at ho11
  have l12 : H6.le H12 := ho11.le
  intro b13 n13
  have l14 := Heap.le_put n13 (g := .row (T_api_Value.c T_api_Value.zero)) (m := true)
  have hD0 := (l6.trans l12)
  have d6 : ∀ c e, H6 c = some e → (H12.put b13 (.row (T_api_Value.c T_api_Value.zero))) c = some e := fun c e h => l14 _ _ (l12 _ _ h)
  obtain ⟨one, hone⟩ : ∃ one : V, one = o.row.headD V0 := ⟨_, rfl⟩
  have hoB : VB one := by
    rw [hone]
    cases hr : o.row with
    | nil => exact V0_vb
    | cons a l => exact hB.mem (by rw [hr]; exact List.mem_cons_self ..)
  have hoz : vsize one ≤ 2000 := by
    rw [hone]
    cases hr : o.row with
    | nil => simp [V0, vsize, vsizes]
    | cons a l => have := vsize_mem (v := a) (l := o.row) (by rw [hr]; exact List.mem_cons_self ..); show vsize a ≤ 2000; omega
  have in6 := hM.row
  refine ⟨fun _ E => ∃ y, E = H12.put b13 (.row (T_api_Value.c y)) ∧ VIs (Heap.new H2 H6) one y, ?_, ?_⟩
  · have hlen := in6.len
    rw [hlen]
    refine ift.of (fun h => ?_) (fun h => ⟨_, rfl, ?_⟩)
    · have h0 : 0 < o.row.length := by have := of_decide_eq_true h; omega
      refine in6.ld (fun c e hc => d6 c e (Heap.new_le _ _ _ _ hc)) (i := 0) rfl h0 fun y hy => nwV ⟨y, rfl, ?_⟩
      have : one = o.row[0] := by rw [hone]; exact headD_get h0
      rw [this]; exact hy
    · have h0 : o.row = [] := List.length_eq_zero_iff.1 (by have := of_decide_eq_false h; omega)
      rw [hone, h0]; exact V0_is _
  rintro _ D ⟨y, hDe, hy⟩
  have d6 : ∀ c e, H6 c = some e → D c = some e := fun c e h => by
    have : c ≠ b13 := fun e' => by rw [e', l12.none n13] at h; cases h
    rw [hDe, Heap.put_ne _ _ _ this]; exact l12 _ _ h
  have d12 : ∀ c e, H12 c = some e → D c = some e := fun c e h => by
    have : c ≠ b13 := fun e' => by rw [e', n13] at h; cases h
    rw [hDe, Heap.put_ne _ _ _ this]; exact h
  have hDb : D b13 = some (true, .row (T_api_Value.c y)) := by rw [hDe, Heap.put_same]
  have lD : H.le D := fun c e h => d6 _ _ (l6 _ _ h)
  -- what no table has
  obtain ⟨A1, hA1⟩ : ∃ A1, A1 = Heap.wo (fun c => F c ∨ G c) D := ⟨_, rfl⟩
  have a1F : ∀ c, F c → A1 c = none := fun c h => by rw [hA1]; exact Heap.wo_none (.inl h)
  have a1G : ∀ c, G c → A1 c = none := fun c h => by rw [hA1]; exact Heap.wo_none (.inr h)
  have a1D : A1.le D := by rw [hA1]; exact Heap.wo_le _ _
  have nF : ∀ c, H c = none → ¬ (F c ∨ G c) := fun c hc h => h.elim (fun h => hP.tb.dom c h hc) fun h => hP.td.dom c h hc
  have a1n : ∀ c e, H c = none → D c = some e → A1 c = some e := fun c e hc hd => by rw [hA1]; exact Heap.wo_some hd (nF c hc)
  have a1A : A.le A1 := fun c e hc => by rw [hA1]; exact Heap.wo_some (lD _ _ (hP.le _ _ hc)) fun h => h.elim (fun h => by rw [hP.f c h] at hc; cases hc) fun h => by rw [hP.g c h] at hc; cases hc
  have a1b : A1 b1 = some (true, .row (T_law04_Op.c p_o)) := a1n _ _ n1 (d6 _ _ (hM.le _ _ hb1))
  have a1m : (Heap.new H2 H6).le A1 := fun c e hc => by
    obtain ⟨q1, q2⟩ := Heap.new_inv hc
    exact a1n _ _ (l2.none q1) (d6 _ _ q2)
  have a1x : A1 b13 = some (true, .row (T_api_Value.c y)) := a1n _ _ (l6.none (l12.none n13)) hDb
  have a1r : rdsl A1 r11 (o.ns.map encI) := by
    obtain ⟨q1, q2, q3, ⟨_, q4⟩ | ⟨b, sp, q4, q5, q6⟩⟩ := ho11.own
    · refine .inl (List.length_eq_zero_iff.1 ?_)
      simp at q1; rw [List.length_map]; omega
    · have : H6 b = none := ho11.fresh _ q4
      exact Own.rdsl ⟨q1, q2, q3, .inr ⟨b, sp, q4, a1n _ _ (l6.none this) (d12 _ _ q5), q6⟩⟩
  have hr11l : r11.len = o.ns.length := by have := ho11.own.1; simp at this; omega
  have vin : VRow A1 t2 o.row := in6.le a1m
  have varg : VRow A1 p_o.Row o.row := ho.2.1.le a1A
  have narg : rdsl A1 p_o.Numbers (o.ns.map encI) := rdsl_le a1A ho.2.2.1
  have hnl : p_o.Numbers.len = o.ns.length := ho.2.2.2
  have hxy : VIs A1 one y := hy.le a1m
  have hkind : p_o.Kind = o.k := ho.1
  have hPQ : PQ A1 D t x F G vs vs := ⟨hP.tb.le lD, hP.td.le lD, a1D, a1F, a1G, hP.fg⟩
  -- what is spoilt at the end
  obtain ⟨kk, hsp⟩ := hM.sp
  have hsp1 : Sp (fun c => H2 c = none ∧ H6 c ≠ none) A1 kk t2 := hsp.to fun c e hc he => ⟨⟨hc, by rw [he]; simp⟩, a1n _ _ (l2.none hc) (d6 _ _ he)⟩
  have hNA : ∀ c, (H2 c = none ∧ H6 c ≠ none) → A1 c ≠ none := fun c ⟨h1, h2⟩ => by
    cases hh : H6 c with
    | none => exact absurd hh h2
    | some e => rw [a1n _ _ (l2.none h1) (d6 _ _ hh)]; simp
  have hNA2 : ∀ c, (H2 c = none ∧ H6 c ≠ none) → A c = none := fun c ⟨h1, h2⟩ => hP.le.none (l2.none h1)
  clear hDe d6 d12 lD nF a1n hA1 in6 hsp hy hM ho11 a1F a1G hDb n13 l14 l12 lA8 l8 n7 hD0
  refine ⟨fun _ E => ∃ vs2, Pl A1 E t x vs2 ∧ Few vs2 (n + o.row.length + 1) 2000, ?_, ?_⟩
  · refine opK (a1D _ _ a1b) ?_
    rw [hkind]
    refine ift.of (fun hk => ?_) (fun hk => ift.of (fun hk => ?_) (fun hk => ift.of (fun hk => ?_) (fun hk => ift.of (fun hk => ?_) (fun hk => ?_))))
    · -- Put
      refine bxV (a1D _ _ a1x) (Put_ok hF hPQ.tb hPQ.le hPQ.f hxy hoB (by omega) (by omega) (fun hm H39 l39 => ?_) (fun hm H39 F2 hT2 hK2 hF2 => ?_))
      · have hP2 := hPQ.up l39
        refine bxV (hP2.le _ _ a1x) (dPut_ok hP2.td hP2.le hxy hoB (by omega) (by omega) (fun _ H44 l44 => ?_) (fun hm2 => by rw [hm] at hm2; cases hm2))
        exact ift_neg (by simp) ⟨vs, ⟨F, G, hP2.up l44⟩, hV.up (by omega)⟩
      · have hP2 := hPQ.t hT2 hK2 hF2
        refine bxV (hP2.le _ _ a1x) (dPut_ok hP2.td hP2.le hxy hoB (by omega) (by omega) (fun hm2 => by rw [hm] at hm2; cases hm2) (fun _ H44 G2 hT3 hK3 hG3 => ?_))
        exact ift_neg (by simp) ⟨_, ⟨F2, G2, hP2.d hT3 hK3 hG3⟩, (hV.put hoz).up (by omega)⟩
    · -- PutRow
      have hrz : ∀ v ∈ o.row, vsize v ≤ 2000 := fun v hv => by have := vsize_mem hv; omega
      refine PutRow_ok hF hPQ.tb hPQ.le hPQ.f vin hB (by omega) (by omega) (fun hm H50 l50 => ?_) (fun hm s1 H50 F2 hT2 hK2 hF2 hO1 hB1 => ?_)
      · have hP2 := hPQ.up l50
        refine opR (hP2.le _ _ a1b) (dPutRow_ok hP2.td hP2.le hP2.g varg hB (by omega) (by omega) (fun _ H55 l55 => ?_) (fun hm2 => absurd hm2 hm))
        refine ints_ok (a := []) (b := []) (.inl rfl) rfl (.inl rfl) rfl (by simp) ?_
        exact ift_neg (by simp) ⟨vs, ⟨F, G, hP2.up l55⟩, hV.up (by omega)⟩
      · have hP2 := hPQ.t hT2 hK2 hF2
        refine opR (hP2.le _ _ a1b) (dPutRow_ok hP2.td hP2.le hP2.g varg hB (by omega) (by omega) (fun hm2 => absurd hm hm2) (fun _ s2 H55 G2 hT3 hK3 hG3 hO2 hB2 => ?_))
        have hO1' := hO1.keep hK3 fun c hc hg => (hB1 c hc).1.elim (fun h => hPQ.fg c h hg) fun h => hPQ.td.dom c hg h
        rw [encI_map] at hO1' hO2
        have hpl := (putsV_len vs o.row).2.2
        refine ints_ok hO1'.rdsl (by have := hO1'.1; simp at this ⊢; omega) hO2.rdsl (by have := hO2.1; simp at this ⊢; omega) (by rw [List.length_map]; omega) ?_
        exact ift_neg (by simp) ⟨_, ⟨F2, G2, hP2.d hT3 hK3 hG3⟩, (hV.puts hrz).up (by omega)⟩
    · -- Find
      refine bxV (a1D _ _ a1x) ?_
      have hfind : ∀ (r : Int) (b : Bool) (H65 : Heap), D.le H65 → r = (((posV one vs).getD 0 : Nat) : Int) → b = (posV one vs).isSome → ldT H65 T_api_Value.c (b13, 0) fun x66 =>
          c_ref04_Table_Find C (some (x, 0)) x66 (fun r68 r69 H70 =>
          ift (((r : Int) != r68) || (!(b == r69)))
          (K false H70)
          ((fun _ E => ∃ vs2, Pl A1 E t x vs2 ∧ Few vs2 (n + o.row.length + 1) 2000) () H70)) H65 := fun r b H65 l65 hr hb => by
        have hP2 := hPQ.up l65
        refine bxV (hP2.le _ _ a1x) (dFind_ok hP2.td (hxy.le hP2.le) (fun H70 l70 => ?_) (by omega))
        refine ift_neg (by rw [hr, hb]; simp) ⟨vs, ⟨F, G, hP2.up l70⟩, hV.up (by omega)⟩
      refine Find_ok hF hPQ.tb (hxy.le a1D) hoB (by omega) (fun hm H65 l65 => ?_) (fun hm H65 l65 => hfind _ _ H65 l65 rfl rfl)
      have hno : posV one vs = none := posV_nin fun h => by rw [hPQ.tb.vals.may _ h] at hm; cases hm
      exact hfind _ _ H65 l65 (by rw [hno]; rfl) (by rw [hno]; rfl)
    · -- At
      obtain ⟨n0, hn0⟩ : ∃ n0, n0 = o.ns.headD 0 := ⟨_, rfl⟩
      refine ⟨fun a E => a = n0 ∧ E = D, ?_, ?_⟩
      · rw [hr11l]
        refine ift.of (fun h => ?_) (fun h => ⟨?_, rfl⟩)
        · have h0 : 0 < o.ns.length := by have := of_decide_eq_true h; omega
          refine ix_ldI (rdsl_le a1D a1r) (j := 0) rfl (by omega) (x := o.ns[0]) (by rw [List.getElem?_map, List.getElem?_eq_getElem h0]; rfl) ⟨?_, rfl⟩
          rw [hn0]; exact (headD_get h0).symm
        · have h0 : o.ns = [] := List.length_eq_zero_iff.1 (by have := of_decide_eq_false h; omega)
          rw [hn0, h0]; rfl
      rintro n0 D ⟨rfl, rfl⟩
      refine tAt_ok hPQ.tb (by omega) hvz (fun hin y2 H88 l88 hy2 ⟨k2, hs2⟩ => ?_) (fun hin H88 l88 => ?_)
      · intro b89 n89
        refine nwV ?_
        have l91 := Heap.le_put n89 (g := .row (T_api_Value.c y2)) (m := true)
        have h91 : (H88.put b89 (.row (T_api_Value.c y2))) b89 = some (true, .row (T_api_Value.c y2)) := Heap.put_same ..
        generalize H88.put b89 (.row (T_api_Value.c y2)) = H91 at *
        intro b92 n92
        have l93 := Heap.le_put n92 (g := .row [.int .i64 n0]) (m := true)
        have r93 : rdsl (H91.put b92 (.row [.int .i64 n0])) (Sl.of (some (b92, 0)) 1 1) ([n0].map encI) := .inr ⟨rfl, _, rfl, rds_row (Heap.put_same ..) fun j u hj => by rw [Nat.zero_add]; exact hj⟩
        generalize H91.put b92 (.row [.int .i64 n0]) = H93 at *
        have lD := (l88.trans l91).trans l93
        refine dRow_ok (hPQ.td.le lD) (Heap.le.refl _) r93 rfl (by simp) (by omega) (fun _ r94 H96 l96 v94 => ?_) (fun hh => absurd (fun m hm => by rw [List.mem_singleton] at hm; rw [hm]; exact hin) hh)
        have hy3 : VIs H96 (atV vs n0) y2 := hy2.le fun c e hc => l96 _ _ (l93 _ _ (l91 _ _ (Heap.new_le _ _ _ _ hc)))
        have hbv : VB (atV vs n0) := hPQ.tb.vals.vb.mem (atV_mem hin)
        refine ⟨fun b E => b = false ∧ E = H96, ?_, ?_⟩
        · refine ⟨H96, Heap.le.refl _, ift_neg rfl (ift_pos rfl (bxV (l96 _ _ (l93 _ _ h91)) (v94.ld (Heap.le.refl _) (i := 0) rfl (by simp) fun z hz => Same_ok hy3 hz hbv ⟨Heap.le.refl _, ?_⟩)))⟩
          refine ift_neg ?_ (ift_neg rfl ⟨rfl, rfl⟩)
          simp [sameV_iff.2]
        rintro _ H96 ⟨rfl, rfl⟩
        refine ift_neg rfl (bxL (l96 _ _ (l93 _ _ h91)) ?_)
        have ht88 : ∀ c e, H88 c = some e → H96 c = some e := fun c e h => l96 _ _ (l93 _ _ (l91 _ _ h))
        refine spoil_ok (N := fun c => D c = none ∧ H88 c ≠ none) (hs2.to fun c e hc he => ⟨⟨hc, by rw [he]; simp⟩, ht88 _ _ he⟩) fun E hE _ => ?_
        have hP3 : PQ A1 E t x F G vs vs := (hPQ.up (lD.trans l96)).keep (N := fun c => D c = none ∧ H88 c ≠ none) (fun c e hc he => by rw [hE c hc]; exact he) (fun c hf hc => hPQ.tb.dom c hf hc.1) (fun c hg hc => hPQ.td.dom c hg hc.1) (Heap.le.refl _) (fun c hc => hPQ.le.none hc.1)
        exact ⟨vs, ⟨F, G, hP3⟩, hV.up (by omega)⟩
      · intro b89 n89
        refine nwV ?_
        have l91 := Heap.le_put n89 (g := .row (T_api_Value.c ⟨0, 0, [], Sl.nil⟩)) (m := true)
        have h91 : (H88.put b89 (.row (T_api_Value.c ⟨0, 0, [], Sl.nil⟩))) b89 = some (true, .row (T_api_Value.c ⟨0, 0, [], Sl.nil⟩)) := Heap.put_same ..
        generalize H88.put b89 (.row (T_api_Value.c ⟨0, 0, [], Sl.nil⟩)) = H91 at *
        intro b92 n92
        have l93 := Heap.le_put n92 (g := .row [.int .i64 n0]) (m := true)
        have r93 : rdsl (H91.put b92 (.row [.int .i64 n0])) (Sl.of (some (b92, 0)) 1 1) ([n0].map encI) := .inr ⟨rfl, _, rfl, rds_row (Heap.put_same ..) fun j u hj => by rw [Nat.zero_add]; exact hj⟩
        generalize H91.put b92 (.row [.int .i64 n0]) = H93 at *
        have lD := (l88.trans l91).trans l93
        refine dRow_ok (hPQ.td.le lD) (Heap.le.refl _) r93 rfl (by simp) (by omega) (fun hh => absurd (hh n0 (List.mem_singleton.2 rfl)) hin) (fun _ H96 l96 => ?_)
        refine ⟨fun b E => b = false ∧ E = H96, ?_, ?_⟩
        · refine ⟨H96, Heap.le.refl _, ift_neg rfl (ift_neg rfl (ift_pos rfl (bxV (l96 _ _ (l93 _ _ h91)) (Same_ok (V0_is _) (V0_is _) V0_vb ⟨Heap.le.refl _, ?_, rfl⟩))))⟩
          simp [sameV_iff.2]
        rintro _ H96 ⟨rfl, rfl⟩
        refine ift_neg rfl (bxL (l96 _ _ (l93 _ _ h91)) ?_)
        refine spoil_ok (N := fun _ => False) (k := 0) (Sp.nil _ rfl) fun E hE _ => ?_
        have hP3 : PQ A1 E t x F G vs vs := (hPQ.up (lD.trans l96)).keep (N := fun _ => False) (fun c e hc he => by rw [hE c hc]; exact he) (fun c _ hc => hc) (fun c _ hc => hc) (Heap.le.refl _) (fun c hc => hc.elim)
        exact ⟨vs, ⟨F, G, hP3⟩, hV.up (by omega)⟩
    · -- Row
      refine tRow_ok hPQ.tb a1D a1r hr11l (by omega) (by omega) hvz (fun hin r H136 hM => ?_) (fun hin H136 l136 => ?_)
      · have lM := hM.le
        refine opN (lM _ _ (a1D _ _ a1b)) (dRow_ok (hPQ.td.le lM) (a1D.trans lM) narg hnl (by omega) (by omega) (fun _ r139 H141 l141 v139 => ?_) (fun hh => absurd hin hh))
        have lD := lM.trans l141
        refine ⟨fun b E => b = false ∧ E = H141, ?_, ?_⟩
        · refine ift_neg rfl (SameRow_ok (hM.row2.le l141) v139 (by rw [List.length_map]; omega) (VBs.of fun v hv => ?_) ⟨?_, rfl⟩)
          · obtain ⟨m, hm, rfl⟩ := List.mem_map.1 hv
            exact hPQ.tb.vals.vb.mem (atV_mem (hin m hm))
          · simp [sameVs_iff.2]
        rintro _ H141 ⟨rfl, rfl⟩
        refine ⟨fun b E => b = false ∧ E = H141, ?_, ?_⟩
        · refine ift_neg rfl (opN (lD _ _ (a1D _ _ a1b)) (ints_ok (rdsl_le (a1D.trans lD) a1r) hr11l (rdsl_le (a1D.trans lD) narg) hnl (by omega) ⟨by simp, rfl⟩))
        rintro _ H141 ⟨rfl, rfl⟩
        obtain ⟨k2, hs2⟩ := hM.sp
        refine ift_neg rfl (spoil_ok (N := fun c => D c = none ∧ H136 c ≠ none) (hs2.to fun c e hc he => ⟨⟨hc, by rw [he]; simp⟩, l141 _ _ he⟩) fun E hE _ => ?_)
        have hP3 : PQ A1 E t x F G vs vs := (hPQ.up lD).keep (N := fun c => D c = none ∧ H136 c ≠ none) (fun c e hc he => by rw [hE c hc]; exact he) (fun c hf hc => hPQ.tb.dom c hf hc.1) (fun c hg hc => hPQ.td.dom c hg hc.1) (Heap.le.refl _) (fun c hc => hPQ.le.none hc.1)
        exact ⟨vs, ⟨F, G, hP3⟩, hV.up (by omega)⟩
      · refine opN (l136 _ _ (a1D _ _ a1b)) (dRow_ok (hPQ.td.le l136) (a1D.trans l136) narg hnl (by omega) (by omega) (fun hh => absurd hh hin) (fun _ H141 l141 => ?_))
        have lD := l136.trans l141
        refine ⟨fun b E => b = false ∧ E = H141, ?_, ?_⟩
        · refine ift_neg rfl (SameRow_ok (nil_row _) (nil_row _) (by simp) trivial ⟨?_, rfl⟩)
          simp [sameVs_iff.2]
        rintro _ H141 ⟨rfl, rfl⟩
        refine ⟨fun b E => b = false ∧ E = H141, ?_, ?_⟩
        · refine ift_neg rfl (opN (lD _ _ (a1D _ _ a1b)) (ints_ok (rdsl_le (a1D.trans lD) a1r) hr11l (rdsl_le (a1D.trans lD) narg) hnl (by omega) ⟨by simp, rfl⟩))
        rintro _ H141 ⟨rfl, rfl⟩
        refine ift_neg rfl (spoil_ok (N := fun _ => False) (k := 0) (Sp.nil _ rfl) fun E hE _ => ?_)
        have hP3 : PQ A1 E t x F G vs vs := (hPQ.up lD).keep (N := fun _ => False) (fun c e hc he => by rw [hE c hc]; exact he) (fun c _ hc => hc) (fun c _ hc => hc) (Heap.le.refl _) (fun c hc => hc.elim)
        exact ⟨vs, ⟨F, G, hP3⟩, hV.up (by omega)⟩
  · rintro _ E ⟨vs2, ⟨F2, G2, hP2⟩, hV2⟩
    refine opR (hP2.le _ _ a1b) (SameRow_ok (vin.le hP2.le) (varg.le hP2.le) (by omega) hB ?_)
    refine spoil_ok (N := fun c => H2 c = none ∧ H6 c ≠ none) (hsp1.to fun c e hc he => ⟨hc, hP2.le _ _ he⟩) fun E2 hE2 _ => ?_
    have hP3 : PQ A E2 t x F2 G2 vs2 vs2 := hP2.keep (N := fun c => H2 c = none ∧ H6 c ≠ none) (fun c e hc he => by rw [hE2 c hc]; exact he) (fun c hf hc => hNA c hc (hP2.f c hf)) (fun c hg hc => hNA c hc (hP2.g c hg)) a1A hNA2
    obtain ⟨sx, x1, x2, x3⟩ := hP3.td.all
    refine ⟨E2, Heap.le.refl _, ift_pos (sameVs_iff.2 rfl) ⟨_, rfl, sx, x1, Len_ok hP3.tb ⟨Heap.le.refl _, ?_⟩⟩⟩
    have hk := k E2 vs2 ⟨F2, G2, hP3⟩ hV2
    rw [x3]; simpa using hk
end
end Sx
end

noncomputable section
set_option linter.unusedVariables false
set_option linter.unusedSimpArgs false
namespace Sx
open Go Go.Proofs
theorem opw_le (l : List OpV) (i : Nat) : opw (l.take i) ≤ opw l := by
  have e : opw l = opw (l.take i) + opw (l.drop i) := by
    have := congrArg opw (List.take_append_drop i l)
    rw [← this]; unfold opw; rw [List.map_append, List.sum_append]
  omega
theorem all_at (vs : List V) : ((List.range vs.length).map fun n : Nat => (n : Int)).map (atV vs) = vs := by
  apply List.ext_getElem
  · simp
  · intro i h1 h2
    simp only [List.getElem_map, List.getElem_range, atV]
    simp [List.getD_eq_getElem?_getD, h2]
section
variable {C : Ctx} {H : Heap}
theorem InternPlays_ok (hF : FmtC C) {l : List OpV} {s : Sl} {K : Bool → Heap → Prop} (hv : Ops H s l) (hl : l.length ≤ 140737488355328) (hB : ∀ o ∈ l, VBs o.row ∧ o.row.length ≤ 140737488355328 ∧ o.ns.length ≤ 140737488355328) (k : ∀ H2, K true H2) : c_law04_InternPlays C s K H := by
  apply ad_law04_InternPlays
  unfold sh_law04_InternPlays
  refine large_ok hv hl hB fun b hb => ift.of (fun _ => awake_ok hF fun H2 _ => k H2) (fun h => ?_)
  have hsz := hb h
  refine new_ok fun tb H7 l7 ntb hT => ?_
  intro b8 n8
  have l9 := Heap.le_put n8 (g := .row (T_ref04_Table.c (⟨Sl.nil⟩ : T_ref04_Table))) (m := true)
  refine ift_neg rfl ?_
  rw [hv.len]
  refine ⟨fun y D => ∃ (i : Nat) (vs : List V), y = (i : Int) ∧ i ≤ l.length ∧ Pl H D tb b8 vs ∧ Few vs (opw (l.take i) + i) 2000, fun y _ => l.length - y.toNat,
    ⟨0, [], rfl, Nat.zero_le _, ⟨_, _, hT.le l9, Td.new n8, l7.trans l9, fun c hc => hc.1, fun c hc => hc ▸ l7.none n8, fun c hf hg => hf.2 (hg ▸ n8)⟩, ⟨by simp, fun v hv => by simp at hv⟩⟩, ?_⟩
  rintro _ D ⟨i, vs, rfl, hi, hI, hV⟩
  refine ift.of (fun h => ?_) (fun h => ?_)
  · have hlt : i < l.length := by have := of_decide_eq_true h; omega
    have hle := opw_le l (i + 1)
    have htk := opw_take hlt
    have hll := vsizes_len l[i].row
    obtain ⟨b1, b2, b3⟩ := hB _ (List.getElem_mem hlt)
    have hI' := hI
    obtain ⟨F, G, hP⟩ := hI
    refine hv.ld hP.le rfl hlt fun y hy => do_ok hF hI' hy b1 (by omega) (by omega) hV (by omega) fun H2 vs2 hI2 hV2 => ift_neg rfl ?_
    rw [w_i64 (by omega) (by omega)]
    exact ⟨⟨i + 1, vs2, by omega, by omega, hI2, hV2.up (by omega)⟩, by first | omega | (dsimp only; omega)⟩
  have hie : i = l.length := by have := of_decide_eq_false h; omega
  subst hie
  obtain ⟨F, G, hP⟩ := hI
  obtain ⟨sx, x1, x2, x3⟩ := hP.td.all
  rw [List.take_length] at hV
  have hvl := hV.len
  refine ⟨sx, x1, ?_⟩
  dsimp only
  rw [x3]
  refine ⟨by omega, Int.le_refl _, by omega, by omega, fun b27 n27 => ?_⟩
  have e1 : ((vs.length : Nat) : Int).toNat = vs.length := by omega
  rw [e1]
  have hlen : (Sl.of (some (b27, 0)) vs.length vs.length).len = vs.length := rfl
  dsimp only
  refine ⟨fun y E => ∃ (i : Nat) (cs : List Value), y = (i : Int) ∧ i ≤ vs.length ∧ E = D.put b27 (.row cs) ∧ cs.length = vs.length ∧ ∀ j, j < i → cs[j]? = some (encI j), fun y _ => vs.length - y.toNat,
    ⟨0, _, rfl, Nat.zero_le _, rfl, by rw [zeros_length]; simp, fun j hj => by omega⟩, ?_⟩
  rintro _ _ ⟨i, cs, rfl, hi, rfl, hcl, hcs⟩
  refine ift.of (fun h => ?_) (fun h => ?_)
  · have hlt : i < vs.length := by have := of_decide_eq_true h; omega
    have e0 : 0 + (i : Int).toNat * 1 = i := by omega
    refine ⟨(b27, 0), rfl, rfl, by omega, by rw [hlen]; omega, cs, Heap.put_same .., by show 0 + (i : Int).toNat * 1 < _; omega, ?_⟩
    rw [Heap.put_put, w_i64 (by omega) (by omega)]
    show _ ∧ _
    refine ⟨⟨i + 1, cs.set i (encI i), by omega, by omega, ?_, by rw [List.length_set]; exact hcl, fun j hj => ?_⟩, by first | omega | (dsimp only; omega)⟩
    · show D.put b27 (.row (cs.set (0 + (i : Int).toNat * 1) (encI i))) = _
      rw [e0]
    · by_cases hji : j = i
      · rw [hji, List.getElem?_set_self (by omega)]
      · rw [List.getElem?_set_ne (by omega)]; exact hcs j (by omega)
  have hie : i = vs.length := by have := of_decide_eq_false h; omega
  subst hie
  have lE := Heap.le_put n27 (g := .row cs) (m := true)
  have hrd : rdsl (D.put b27 (.row cs)) (Sl.of (some (b27, 0)) vs.length vs.length) (((List.range vs.length).map fun n : Nat => (n : Int)).map encI) := .inr ⟨rfl, _, rfl, rds_row (Heap.put_same ..) fun j v hj => by
    have hjl := (List.getElem?_eq_some_iff.1 hj).1
    simp at hjl
    rw [Nat.zero_add, hcs j hjl, ← hj]
    simp [hjl]⟩
  have hvz : ∀ v ∈ vs, vsize v ≤ 1000000 := fun v hv => by have := hV.sz v hv; omega
  refine tRow_ok (hP.tb.le lE) (Heap.le.refl _) hrd (by simp [hlen]) (by simp; omega) (by omega) hvz (fun _ r H41 hM => ?_) (fun hh => absurd (fun n hn => ?_) hh)
  · rw [all_at] at hM
    have lM := lE.trans hM.le
    refine ⟨fun b E => b = true, ?_, ?_⟩
    · obtain ⟨sy, y1, y2, y3⟩ := (hP.td.le lM).all
      refine ift_pos rfl ⟨sy, y1, SameRow_ok hM.row2 y2 (by omega) hP.td.vals.vb (sameVs_iff.2 rfl)⟩
    rintro _ E rfl
    refine ⟨fun b E => b = true, ift_pos rfl (awake_ok hF fun H2 _ => rfl), ?_⟩
    rintro _ E rfl
    exact k E
  · obtain ⟨m, hm, rfl⟩ := List.mem_map.1 hn
    have := List.mem_range.1 hm
    omega
end
end Sx
end

noncomputable section
set_option linter.unusedVariables false
set_option linter.unusedSimpArgs false
namespace Sx
open Go
section
variable {P : Program} {W : World}
/-- the type of steps -/
structure OpT (P : Program) (t vl n nl : TypeId) : Prop where
  st : ∃ fs : Array Field, P.underlying t = some (.struct fs) ∧ (∃ f tk, fs[0]? = some f ∧ f.type = tk ∧ f.offset = 0 ∧ P.underlying tk = some (.int .u8) ∧ P.cellsOf tk = 1) ∧ (∃ f, fs[1]? = some f ∧ f.type = vl ∧ f.offset = 1 ∧ P.cellsOf vl = 1) ∧ (∃ f, fs[2]? = some f ∧ f.type = nl ∧ f.offset = 2 ∧ P.cellsOf nl = 1)
  nl : P.underlying nl = some (.slice n)
  ni : P.underlying n = some (.int .i64)
  cn : P.cellsOf n = 1
  bn : 1 ≤ P.bytesOf n
theorem ints_of {n : TypeId} {css : List (List Value)} {m : Nat} {s : Sl} (hn : P.underlying n = some (.int .i64)) (hl : css.length = s.len) (hr : rdsl (heapOf W) s css.flatten) (h : ∀ c ∈ css, c.length = 1 ∧ TrW P W m n c) : ∃ l : List Int, rdsl (heapOf W) s (l.map encI) ∧ s.len = l.length := by
  have key : ∀ (css : List (List Value)), (∀ c ∈ css, c.length = 1 ∧ TrW P W m n c) → ∃ l : List Int, css.flatten = l.map encI ∧ css.length = l.length := by
    intro css
    induction css with
    | nil => intro _; exact ⟨[], rfl, rfl⟩
    | cons c css ih =>
      intro hh
      obtain ⟨l, g1, g2⟩ := ih fun c hc => hh c (List.mem_cons_of_mem _ hc)
      obtain ⟨x, hx, _⟩ := (hh c (List.mem_cons_self ..)).2.int hn
      exact ⟨x :: l, by rw [List.flatten_cons, g1, hx]; rfl, by simp [g2]⟩
  obtain ⟨l, g1, g2⟩ := key css h
  exact ⟨l, by rw [← g1]; exact hr, by omega⟩
theorem ops_of {e v vl n nl : TypeId} {css : List (List Value)} {m : Nat} {s : Sl} (hV : ValT P v vl) (hb : 1 ≤ P.bytesOf v) (hT : OpT P e vl n nl) (hl : css.length = s.len) (hr : rdsl (heapOf W) s css.flatten) (h : ∀ c ∈ css, c.length = 3 ∧ TrW P W m e c) :
    ∃ l : List OpV, Ops (heapOf W) s l ∧ (∀ o ∈ l, VBs o.row ∧ o.row.length ≤ 140737488355328 ∧ o.ns.length ≤ 140737488355328) ∧ s.len = l.length := by
  obtain ⟨fs, hu, ⟨f0, t0, a0, b0, c0, d0, e0⟩, ⟨f1, a1, b1, c1, e1⟩, ⟨f2, a2, b2, c2, e2⟩⟩ := hT.st
  have hmx : reachBytes = 140737488351232 := rfl
  have key : ∀ (css : List (List Value)), (∀ c ∈ css, c.length = 3 ∧ TrW P W m e c) → ∃ (xs : List T_law04_Op) (l : List OpV), css.flatten = xs.flatMap T_law04_Op.c ∧ css.length = xs.length ∧ xs.length = l.length ∧ (∀ (i : Nat) (x : T_law04_Op) (o : OpV), xs[i]? = some x → l[i]? = some o → OpIs (heapOf W) o x) ∧ ∀ o ∈ l, VBs o.row ∧ o.row.length ≤ 140737488355328 ∧ o.ns.length ≤ 140737488355328 := by
    intro css
    induction css with
    | nil => intro _; exact ⟨[], [], rfl, rfl, rfl, fun i x o hx => by simp at hx, fun o ho => by cases ho⟩
    | cons c css ih =>
      intro hh
      obtain ⟨xs, l, g1, g2, g3, g4, g5⟩ := ih fun c hc => hh c (List.mem_cons_of_mem _ hc)
      obtain ⟨k1, k2⟩ := hh c (List.mem_cons_self ..)
      obtain ⟨_, m', rfl, k3⟩ := k2.struct hu
      have x0 := k3 0 f0 a0
      have x1 := k3 1 f1 a1
      have x2 := k3 2 f2 a2
      rw [b0, c0, e0] at x0
      rw [b1, c1, e1] at x1
      rw [b2, c2, e2] at x2
      obtain ⟨y0, z0, _⟩ := x0.int d0
      obtain ⟨y1, r1, z1, v1, w1, u1⟩ := row_ofw hV hb x1
      obtain ⟨y2, css2, m2, _, z2, _, _, q4, q5, q6, q7⟩ := x2.slice hT.nl hT.cn (by omega)
      obtain ⟨ns, n1, n2⟩ := ints_of hT.ni q5 q6 q7
      rw [hmx] at q4
      have hsl : y2.len ≤ 140737488351232 := Nat.le_trans (Nat.le_mul_of_pos_right _ (by have := hT.bn; omega)) q4
      match c, k1 with
      | [p, q, r], _ =>
        simp at z0 z1 z2
        subst z0; subst z1; subst z2
        refine ⟨⟨y0, y1, y2⟩ :: xs, ⟨y0, r1, ns⟩ :: l, by rw [List.flatten_cons, List.flatMap_cons, g1]; rfl, by simp [g2], by simp [g3], fun i x o hx ho => ?_, fun o ho => ?_⟩
        · cases i with
          | zero => simp at hx ho; subst hx; subst ho; exact ⟨rfl, v1, n1, n2⟩
          | succ i => exact g4 i x o (by simpa using hx) (by simpa using ho)
        · rcases List.mem_cons.1 ho with rfl | ho
          · exact ⟨w1, u1, by show ns.length ≤ _; omega⟩
          · exact g5 o ho
  obtain ⟨xs, l, g1, g2, g3, g4, g5⟩ := key css h
  exact ⟨l, ⟨xs, by rw [← g1]; exact hr, by omega, g3, g4⟩, g5, by omega⟩
end
end Sx
end

