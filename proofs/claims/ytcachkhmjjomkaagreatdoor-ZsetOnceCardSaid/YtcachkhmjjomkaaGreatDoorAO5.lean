/-
  Texts of this family, one behind the other: ZsG, ZsH, ZsD, ZsE, ZsA, SortR, SortD, ValS, ZoA, ZoL, ZoM, EntR, RowI.
-/
import Derived.Test.YtcachkhmjjomkaaGreatDoorAO4
noncomputable section
set_option linter.unusedVariables false
set_option linter.unusedSimpArgs false
set_option maxRecDepth 10000
namespace Sx
section
open Go Go.Proofs
theorem Qhx {es out : List En} (h : IsSum es out) (r : List V) (n : Int) : (r, n) ∈ nzE out ↔ n = totE es r ∧ n ≠ 0 := by
 unfold nzE
 rw [List.mem_filter, h.mem]
 constructor
 ·rintro ⟨⟨_, h1⟩, h2⟩
  exact ⟨h1, by simpa using h2⟩
 ·rintro ⟨h1, h2⟩
  refine ⟨⟨?_, h1⟩, by simpa using h2⟩
  exact Classical.byContradiction fun hn => h2 (by rw [h1]; exact QaE fun e he e' => hn ⟨e, he, e'⟩)
theorem Qhc {es out : List En} (h : IsSum es out) : (nzE out).Pairwise fun a b => cmpR a.1 b.1 < 0 := h.rise.filter _
theorem QiN : ∀ {l : List En}, l.Pairwise (fun a b => cmpR a.1 b.1 < 0) → ∀ {r : List V} {n : Int}, (r, n) ∈ l → totE l r = n
 | [], _, r, n, h => by simp at h
 | e :: l, hp, r, n, h => by
  have hp' := List.pairwise_cons.1 hp
  simp only [totE]
  rcases List.mem_cons.1 h with h | h
  ·subst h
   rw [if_pos (Qbo.2 rfl), QaE fun e he e' => by have := hp'.1 e he; rw [e'] at this; exact Qc3 this]; omega
  ·have hne : sameVs e.1 r = false := by
    cases hb : sameVs e.1 r with
    | false => rfl
    | true => have := hp'.1 _ h; rw [Qbo.1 hb] at this; exact absurd this Qc3
   rw [hne, QiN hp'.2 h]; simp
theorem QhF {M : Int} (hM : 0 ≤ M) {r : List V} : ∀ {l : List En}, (∀ e ∈ l, -M ≤ e.2 ∧ e.2 ≤ M) → -(M * (l.length : Int)) ≤ totE l r ∧ totE l r ≤ M * (l.length : Int)
 | [], _ => by simp [totE]
 | e :: l, h => by
  have ih := QhF hM (r := r) (l := l) fun e he => h e (List.mem_cons_of_mem _ he)
  have h1 := h e (List.mem_cons_self ..)
  simp only [totE, List.length_cons]
  have : M * ((l.length + 1 : Nat) : Int) = M * (l.length : Int) + M := by rw [Int.natCast_add, Int.mul_add]; simp
  rw [this]
  split <;> omega
theorem Qin {n : Int} (h0 : -2147483647 ≤ n) (h1 : n ≤ 2147483647) : outE n = false := by
 unfold outE
 rw [decide_eq_false (by omega), decide_eq_false (by omega)]; rfl
theorem QjN {n : Int} (h : outE n = false) : -2147483647 ≤ n ∧ n ≤ 2147483647 := by
 unfold outE at h
 rw [Bool.or_eq_false_iff] at h
 have h1 := of_decide_eq_false h.1
 have h2 := of_decide_eq_false h.2
 omega
/-- entries that may be, whose sums may be -/
structure OkS (es : List En) : Prop where
 may : ∀ e ∈ es, mayR e.1 = true
 n : ∀ e ∈ es, outE e.2 = false
 tot : ∀ r, outE (totE es r) = false
theorem QjE {es : List En} (h : OkS es) : chkE es = 0 := by
 unfold chkE
 rw [if_neg, if_neg]
 ·rw [List.any_eq_true]; rintro ⟨x, hx, h1⟩; rw [h.n x hx] at h1; cases h1
 ·rw [List.any_eq_true]; rintro ⟨x, hx, h1⟩; rw [h.may x hx] at h1; cases h1
theorem QhE {S : List (En × Bool)} {H : Heap} {K : Sl → Int → Heap → Prop} (hr : ∀ x ∈ S, -9223372036854775808 ≤ x.1.2 ∧ x.1.2 < 9223372036854775808) (h : OkS (esS S))
 (k : ∀ out cs ys H0, IsSum (esS S) out → OgE H H0 (nzE out) cs ys → K cs 0 H0) : SumsK S H K := by
 have hin : ∀ x ∈ S, (x.1.1, doE x.2 x.1.2) ∈ esS S := fun x hx => List.mem_map.2 ⟨x, hx, rfl⟩
 refine ⟨fun hb H0 _ => ?_, fun _ hb H0 _ => ?_, fun _ _ hb H0 _ => ?_, fun _ _ out cs ys H0 g1 _ g3 => k out cs ys H0 g1 g3⟩
 ·obtain ⟨x, hx, h1⟩ := List.any_eq_true.1 hb
  rw [h.may _ (hin x hx)] at h1; cases h1
 ·obtain ⟨x, hx, h1⟩ := List.any_eq_true.1 hb
  have := h.n _ (hin x hx)
  rw [show outE (doE x.2 x.1.2) = outE x.1.2 from Qio (hr x hx).1 (hr x hx).2] at this
  rw [this] at h1; cases h1
 ·obtain ⟨r, _, h1⟩ := hb
  rw [h.tot r] at h1; cases h1
theorem Qie {α : Type} : ∀ {a b : List α}, a.Pairwise (fun x y => x ≠ y) → (∀ x ∈ a, x ∈ b) → a.length ≤ b.length
 | [], b, _, _ => Nat.zero_le _
 | x :: a, b, hp, hs => by
  have hp' := List.pairwise_cons.1 hp
  obtain ⟨b1, b2, rfl⟩ := List.append_of_mem (hs x (List.mem_cons_self ..))
  have := Qie (b := b1 ++ b2) hp'.2 fun y hy => by
   have h1 := hs y (List.mem_cons_of_mem _ hy)
   rcases List.mem_append.1 h1 with h1 | h1
   ·exact List.mem_append_left _ h1
   ·rcases List.mem_cons.1 h1 with h1 | h1
    ·exact absurd h1.symm (hp'.1 y hy)
    ·exact List.mem_append_right _ h1
  simp only [List.length_append, List.length_cons] at this ⊢
  omega
theorem QjZ {es out : List En} (h : IsSum es out) : out.length ≤ es.length := by
 have := Qie (a := out.map fun e => e.1) (b := es.map fun e => e.1) (by
  rw [List.pairwise_map]
  exact h.rise.imp fun {a b} hab e => by rw [e] at hab; exact Qc3 hab) fun r hr => by
   obtain ⟨e, he, rfl⟩ := List.mem_map.1 hr
   obtain ⟨⟨x, hx, hxr⟩, _⟩ := (h.mem e.1 e.2).1 he
   exact List.mem_map.2 ⟨x, hx, hxr⟩
 simpa using this
theorem Qii {es out : List En} (h : IsSum es out) : (nzE out).length ≤ es.length := Nat.le_trans (List.length_filter_le ..) (QjZ h)
theorem Qkb {es o : List En} (h : IsSum es o) {e : En} (he : e ∈ nzE o) : (∃ x ∈ es, x.1 = e.1) ∧ e.2 = totE es e.1 := (h.mem e.1 e.2).1 (List.mem_filter.1 he).1
def smallE (e : En) : Prop := -1000000 ≤ e.2 ∧ e.2 ≤ 1000000 ∧ mayR e.1 = true
theorem Qim {l : List En} (h : ∀ e ∈ l, smallE e) (hn : l.length ≤ 2000) : OkS l := by
 refine ⟨fun e he => (h e he).2.2, fun e he => ?_, fun r => ?_⟩
 ·have := h e he; unfold smallE at this; exact Qin (by omega) (by omega)
 ·have := QhF (M := 1000000) (by omega) (r := r) (l := l) fun e he => ⟨(h e he).1, (h e he).2.1⟩
  exact Qin (by omega) (by omega)
theorem esA {la lb : List En} : esS (seqS [(la, false), (lb, false)]) = la ++ lb := by
 rw [esS2]
 have : (lb.map fun e : En => (e.1, doE false e.2)) = lb := by
  rw [show (fun e : En => (e.1, doE false e.2)) = id from rfl, List.map_id]
 rw [this]
theorem esC {la : List En} : esS (seqS [(la, false)]) = la := by
 have : esS (seqS [(la, false)]) = la.map fun e : En => (e.1, doE false e.2) := by
  unfold esS seqS
  simp [Function.comp_def]
 rw [this, show (fun e : En => (e.1, doE false e.2)) = id from rfl, List.map_id]
end
section
open Go Go.Proofs
section
variable {C : Ctx} {H A : Heap}
theorem EnL.oks {s : Sl} {l : List En} (hs : EnL A s l) : ∀ e ∈ l, Sx.okE e := fun e he => by
 obtain ⟨xs, x1, x2, x3, x4, x5⟩ := hs
 obtain ⟨j, hj, rfl⟩ := List.getElem_of_mem he
 have := x5 j _ _ (List.getElem?_eq_getElem hj) (List.getElem?_eq_getElem (by omega))
 exact ⟨this.2.1, this.2.2.1, this.2.2.2.2⟩
theorem parts1 {a : Sl} {la : List En} {c : Nat} {m : Bool} {cap : Nat} (ha : EnL H a la) (h : H c = some (m, .row (Qc.c (⟨a, fnv false⟩ : Qc) ++ []))) :
 SlIs (PtIs H) Qc.c H (Sl.of (some (c, 0)) 1 cap) [(la, false)] := by
 refine ⟨[(⟨a, fnv false⟩ : Qc)], .inr ⟨rfl, _, rfl, Qbc h fun j v hj => by simpa using hj⟩, rfl, rfl, by simp, fun i v x hv hx => ?_⟩
 match i with
 | 0 => simp at hv hx; subst hv; subst hx; exact ⟨ha, rfl⟩
 | i + 1 => simp at hv
theorem Qfc {a : Sl} {la : List En} {K : Sl → Int → Heap → Prop} (ha : EnL H a la) (hn : la.length ≤ 1000000) (hsz : ∀ x ∈ la, wids x.1 ≤ 2513169434843) (k : SumsK (seqS [(la, false)]) H K) : Qay C a K H := by
 apply Qf3
 unfold Qeh
 intro b1 n1
 have hle := Heap.le_put n1 (g := .row (Qc.c (⟨a, fnv false⟩ : Qc) ++ [])) (m := true)
 exact QiM (parts1 (ha.le hle) (Heap.put_same ..)) (by simp [seqS]; omega) (fun x hx => by
  simp [seqS] at hx
  obtain ⟨r, n, h, rfl⟩ := hx
  exact hsz (r, n) h) (k.up hle)
theorem pAddS {a b : Sl} {la lb : List En} {K : Sl → Int → Heap → Prop} (ha : EnL H a la) (hb : EnL H b lb) (hn : la.length + lb.length ≤ 1000000) (hsz : ∀ x ∈ la ++ lb, wids x.1 ≤ 2513169434843) (ho : OkS (la ++ lb))
 (k : ∀ out cs ys H0, IsSum (la ++ lb) out → OgE H H0 (nzE out) cs ys → K cs 0 H0) : Qde C a b K H := by
 refine QjP ha hb hn hsz (QhE (fun x hx => ?_) (by rw [esA]; exact ho) fun out cs ys H0 h1 h2 => k out cs ys H0 (by rw [esA] at h1; exact h1) h2)
 simp [seqS] at hx
 rcases hx with ⟨r, n, h, rfl⟩ | ⟨r, n, h, rfl⟩
 ·exact (ha.oks _ h).2.2
 ·exact (hb.oks _ h).2.2
theorem pCleanS {a : Sl} {la : List En} {K : Sl → Int → Heap → Prop} (ha : EnL H a la) (hn : la.length ≤ 1000000) (hsz : ∀ x ∈ la, wids x.1 ≤ 2513169434843) (ho : OkS la)
 (k : ∀ out cs ys H0, IsSum la out → OgE H H0 (nzE out) cs ys → K cs 0 H0) : Qay C a K H := by
 refine Qfc ha hn hsz (QhE (fun x hx => ?_) (by rw [esC]; exact ho) fun out cs ys H0 h1 h2 => k out cs ys H0 (by rw [esC] at h1; exact h1) h2)
 simp [seqS] at hx
 obtain ⟨r, n, h, rfl⟩ := hx
 exact (ha.oks _ h).2.2
theorem QiC {a b : Sl} {la lb : List En} {K : Bool → Heap → Prop} (ha : EnL A a la) (hb : EnL A b lb) (hA : A.le H) (hq : la = lb) (hn : la.length ≤ 1000000) (k : ∀ H2, H.le H2 → K true H2) : Qci C a 0 b 0 K H := by
 subst hq
 apply QfW
 unfold Qea
 refine ⟨fun b E => b = true ∧ H.le E, ?_, ?_⟩
 ·exact QaU rfl (Qh0 ha hA hn fun r H2 h2 g1 => Qh0 hb (hA.trans h2) hn fun r2 H3 h3 g2 => Qh8 (g1.le h3) g2 (Heap.le.refl _) fun b hb => ⟨hb.2 rfl, h2.trans h3⟩)
 ·rintro b E ⟨rfl, hE⟩; exact k E hE
end
end
section
open Go Go.Proofs
section
variable {C : Ctx} {H A : Heap}
theorem eL {g : Nat} {s : Sl} {m : Bool} {zs : List Qa} {sp : List Value} (hp : s.p = some (g, 0)) (hx : s.x = none) (hl : s.len = zs.length) (hn : zs.length ≤ 1000000) (hg : H g = some (m, .row (zs.flatMap Qa.c ++ sp))) :
 SlIs (fun a b => b = a) Qa.c H s zs :=
 ⟨zs, .inr ⟨hx, _, hp, Qbc hg fun j v hj => by rw [Nat.zero_add]; exact (List.getElem?_append_left (List.getElem?_eq_some_iff.1 hj).1).trans hj⟩, hl, rfl, by omega, fun i v x hv hx => by rw [hv] at hx; injection hx with hx; exact hx.symm⟩
theorem QhW {zs : List Qa} {sp : List Value} {i : Nat} {y : Qa} (hi : i < zs.length) : splice (zs.flatMap Qa.c ++ sp) (i * 2) (Qa.c y) = (zs.set i y).flatMap Qa.c ++ sp := by
 have hf := QbJ zs
 unfold splice
 rw [List.take_append_of_le_length (by omega), Qgk, show (Qa.c y).length = 2 from rfl, show i * 2 + 2 = (i + 1) * 2 by omega, List.drop_append_of_le_length (by omega), QhH, List.set_eq_take_append_cons_drop, if_pos hi]
 simp
theorem Qgy {xs : List Qa} {s : Sl} {f : Value} {φ : Qa → Bool} {K : Int → Heap → Prop} (hs : SlIs (fun a b => b = a) Qa.c H s xs)
 (hf : ∀ x ∈ xs, ∀ Φ : Value → Heap → Prop, Φ (.bool (φ x)) H → callU Tryz.prog C f [.agg (Qa.c x).toArray] H Φ)
 (k0 : xs.all (fun x => !(φ x)) = true → K (-1) H) (k1 : ∀ (i : Nat) (h : i < xs.length), φ xs[i] = true → (xs.take i).all (fun x => !(φ x)) = true → K i H) : QD C s f K H := by
 apply QaT
 unfold Q9
 have hb := hs.bd
 rw [hs.len]
 refine ⟨fun x D => D = H ∧ ∃ i : Nat, x = (i : Int) ∧ i ≤ xs.length ∧ (xs.take i).all (fun x => !(φ x)) = true, fun x _ => xs.length - x.toNat, ⟨rfl, 0, rfl, Nat.zero_le _, by simp⟩, ?_⟩
 rintro _ D ⟨rfl, i, rfl, hi, hq⟩
 refine ift.of (fun h => ?_) (fun h => ?_)
 ·have hlt : i < xs.length := by have := of_decide_eq_true h; omega
  refine hs.ld (Heap.le.refl _) (fun _ => rfl) (by omega) rfl hlt fun y hy => ?_
  subst hy
  refine hf _ (List.getElem_mem hlt) _ ⟨_, rfl, ?_⟩
  refine ift.of (fun h2 => k1 i hlt h2 hq) (fun h2 => ?_)
  rw [Qi (by omega) (by omega)]
  refine ⟨⟨rfl, i + 1, by omega, by omega, ?_⟩, by first | omega | (dsimp only; omega)⟩
  rw [List.take_add_one, List.getElem?_eq_getElem hlt, List.all_append, hq]
  simp [h2]
 ·have hie : i = xs.length := by have := of_decide_eq_false h; omega
  rw [hie, List.take_length] at hq
  exact k0 hq
theorem QdG {α : Type} {p : α → Bool} {l : List α} {j : Nat} (hj : j < l.length) : (l.take (j + 1)).filter p = (l.take j).filter p ++ if p l[j] then [l[j]] else [] := by
 rw [List.take_add_one, List.getElem?_eq_getElem hj, List.filter_append]
 simp [List.filter_cons]
theorem QhM {Bo : Heap} {g : Nat} {s : Sl} {ys : List Qa} {sp : List Value} {f : Value} {φ : Qa → Bool} {K : Sl → Heap → Prop} (hp : s.p = some (g, 0)) (hx : s.x = none) (hl : s.len = ys.length) (hc : s.len ≤ s.cap)
 (hn : ys.length ≤ 1000000) (hB : Bo g = none) (hf : ∀ (E : Heap) (x : Qa), x ∈ ys → Bo.le E → ∀ Φ : Value → Heap → Prop, Φ (.bool (φ x)) E → callU Tryz.prog C f [.agg (Qa.c x).toArray] E Φ)
 (k : ∀ (E : Heap) (sp2 : List Value), Bo.le E → ((ys.filter fun x => !(φ x)).flatMap Qa.c ++ sp2).length = (ys.flatMap Qa.c ++ sp).length →
  K ⟨some (g, 0), (ys.filter fun x => !(φ x)).length, s.cap, none⟩ (E.put g (.row ((ys.filter fun x => !(φ x)).flatMap Qa.c ++ sp2)))) :
 Qj C s f K (Bo.put g (.row (ys.flatMap Qa.c ++ sp))) := by
 have hse : s = ⟨some (g, 0), ys.length, s.cap, none⟩ := by
  obtain ⟨p, l, c, x⟩ := s
  simp only at hp hx hl
  subst hp; subst hx; subst hl; rfl
 apply QZ
 unfold Qx
 have hgg : (Bo.put g (.row (ys.flatMap Qa.c ++ sp))) g = some (true, .row (ys.flatMap Qa.c ++ sp)) := Heap.put_same ..
 refine Qgy (eL hp hx hl hn hgg) (fun x hx Φ h => hf _ x hx (Qu (Heap.le.refl _) hB) Φ h) (fun h => ?_) (fun i0 hi0 h1 h2 => ?_)
 ·refine QaU rfl ?_
  have e : (ys.filter fun x => !(φ x)) = ys := List.filter_eq_self.2 fun a ha => List.all_eq_true.1 h a ha
  have := k Bo sp (Heap.le.refl _) (by rw [e])
  rw [e, ← hse] at this
  exact this
 refine QA (by simp) ?_
 rw [Qi (x := (i0 : Int) + 1) (by omega) (by omega), hl]
 refine ⟨fun x D => ∃ (E : Heap) (zs : List Qa) (i j : Nat), x = ((i : Int), (j : Int)) ∧ D = E.put g (.row (zs.flatMap Qa.c ++ sp)) ∧ Bo.le E ∧ zs.length = ys.length ∧ i < j ∧ j ≤ ys.length ∧ zs.take i = (ys.take j).filter (fun x => !(φ x)) ∧ zs.drop j = ys.drop j,
  fun x _ => ys.length - x.2.toNat, ⟨Bo, ys, i0, i0 + 1, rfl, rfl, Heap.le.refl _, rfl, by omega, by omega, ?_, rfl⟩, ?_⟩
 ·rw [QdG hi0, h1, List.filter_eq_self.2 fun a ha => List.all_eq_true.1 h2 a ha]
  simp
 rintro _ D ⟨E, zs, i, j, rfl, rfl, hE, hz, hij, hj, ht, hd⟩
 have hD : (E.put g (.row (zs.flatMap Qa.c ++ sp))) g = some (true, .row (zs.flatMap Qa.c ++ sp)) := Heap.put_same ..
 have hf2 := QbJ zs
 refine ift.of (fun h => ?_) (fun h => ?_)
 ·have hlt : j < ys.length := by have := of_decide_eq_true h; dsimp only at this; omega
  have hzj : zs[j]'(by omega) = ys[j] := by
   have := congrArg (fun l => l[0]?) hd
   simp only [List.getElem?_drop, Nat.add_zero] at this
   rw [List.getElem?_eq_getElem (by omega), List.getElem?_eq_getElem hlt] at this
   injection this
  have hsl := eL hp hx (by rw [hl, hz]) (by omega) hD
  have w1 : w .i64 ((j : Int) + 1) = ((j + 1 : Nat) : Int) := by rw [Qi (by omega) (by omega)]; omega
  have w2 : w .i64 ((i : Int) + 1) = ((i + 1 : Nat) : Int) := by rw [Qi (by omega) (by omega)]; omega
  have hdj : zs.drop (j + 1) = ys.drop (j + 1) := by
   have := congrArg (List.drop 1) hd
   simpa [List.drop_drop] using this
  refine ⟨fun x9 D' => ∃ (E' : Heap) (zs' : List Qa) (i' : Nat), x9 = (i' : Int) ∧ D' = E'.put g (.row (zs'.flatMap Qa.c ++ sp)) ∧ Bo.le E' ∧ zs'.length = ys.length ∧ i' < j + 1 ∧ zs'.take i' = (ys.take (j + 1)).filter (fun x => !(φ x)) ∧ zs'.drop (j + 1) = ys.drop (j + 1), ?_, ?_⟩
  ·refine hsl.ld (Heap.le.refl _) (fun _ => rfl) (by omega) rfl (by omega) fun y hy => ?_
   subst hy
   rw [hzj]
   intro b nb
   refine nwT rfl ?_
   have hbg : b ≠ g := fun e => by subst e; rw [hD] at nb; cases nb
   have hEb : E b = none := by rw [Heap.put_ne _ _ _ hbg] at nb; exact nb
   rw [Heap.put_comm _ _ _ _ _ hbg.symm]
   have hE' : Bo.le (E.put b (.row (Qa.c ys[j]))) := hE.trans (Heap.le_put hEb)
   have hb2 : ((E.put b (.row (Qa.c ys[j]))).put g (.row (zs.flatMap Qa.c ++ sp))) b = some (true, .row (Qa.c ys[j])) := by rw [Heap.put_ne _ _ _ hbg, Heap.put_same]
   generalize E.put b (.row (Qa.c ys[j])) = E2 at *
   refine bxT hb2 ?_
   refine hf _ _ (List.getElem_mem hlt) (Qu hE' hB) _ ⟨_, rfl, ?_⟩
   refine ift.of (fun h3 => ?_) (fun h3 => ?_)
   ·refine bxT hb2 ?_
    refine ⟨(g, 0), hp, hx, by omega, by omega, ?_⟩
    refine ⟨_, Heap.put_same .., ?_, ?_⟩
    ·show 0 + (i : Int).toNat * 2 + 2 ≤ _
     rw [List.length_append, hf2]; omega
    show ∃ E' zs' i', _
    refine ⟨E2, zs.set i ys[j], i + 1, w2, ?_, hE', by simp [hz], by omega, ?_, ?_⟩
    ·rw [Heap.put_put]
     have e0 : (g, 0).2 + ((i : Int)).toNat * 2 = i * 2 := by show 0 + _ = _; omega
     rw [e0, QhW (by omega)]
    ·rw [QdG hlt, if_pos h3, ← ht, List.take_add_one, List.getElem?_set_self (by omega), List.take_set_of_le (by omega)]
     rfl
    ·rw [List.drop_set_of_lt (by omega)]; exact hdj
   ·have h4 : φ ys[j] = true := by simpa using h3
    refine ⟨E2, zs, i, rfl, rfl, hE', hz, by omega, ?_, hdj⟩
    rw [QdG hlt, if_neg (by simp [h4]), List.append_nil]; exact ht
  ·rintro x9 D' ⟨E', zs', i', rfl, rfl, q1, q2, q3, q4, q5⟩
   rw [w1]
   exact ⟨⟨E', zs', i', j + 1, rfl, rfl, q1, q2, q3, by omega, q4, q5⟩, by first | omega | (dsimp only; omega)⟩
 ·have hje : j = ys.length := by have := of_decide_eq_false h; dsimp only at this; omega
  subst hje
  rw [List.take_length] at ht
  have hfl : (ys.filter fun x => !(φ x)).length = i := by rw [← ht, List.length_take]; omega
  have hne : ¬ ((s.cap : Int) = (i : Int)) := by omega
  refine ⟨by omega, by omega, by omega, by omega, _, rfl, ?_⟩
  rw [if_neg hne, hp]
  have hx0 : (if (s.cap : Int) = (i : Int) ∨ (i : Int).toNat * 2 = 0 then s.x else none) = none := by rw [hx]; split <;> rfl
  rw [hx0]
  refine .inr ⟨(g, 0 + (i : Int).toNat * 2), _, rfl, rfl, Heap.put_same .., ?_, ?_⟩
  ·show 0 + (i : Int).toNat * 2 + ((ys.length : Int) - (i : Int)).toNat * 2 ≤ _
   rw [List.length_append, hf2]; omega
  rw [Heap.put_put]
  refine ⟨by omega, by omega, by omega, by omega, _, rfl, ?_⟩
  have hne2 : ¬ ((s.cap : Int) = 0) := by omega
  rw [if_neg hne2, hp]
  have hx1 : (if (s.cap : Int) = 0 ∨ (0 : Int).toNat * 2 = 0 then s.x else none) = none := by rw [hx]; split <;> rfl
  rw [hx1]
  have e1 : ((g, 0).1, (g, 0).2 + (0 : Int).toNat * 2) = (g, 0) := rfl
  simp only [Option.map_some, e1]
  have hZl : (zeros (Qa.c Qa.zero) (⟨some ((g, 0).1, (g, 0).2 + (i : Int).toNat * 2), ((ys.length : Int) - (i : Int)).toNat, ((s.cap : Int) - (i : Int)).toNat, none⟩ : Sl).len).length = (ys.length - i) * 2 := by
   rw [Qa6]
   show ((ys.length : Int) - (i : Int)).toNat * 2 = _
   omega
  generalize zeros (Qa.c Qa.zero) (⟨some ((g, 0).1, (g, 0).2 + (i : Int).toNat * 2), ((ys.length : Int) - (i : Int)).toNat, ((s.cap : Int) - (i : Int)).toNat, none⟩ : Sl).len = Z at *
  have hs2 : splice (zs.flatMap Qa.c ++ sp) (g, 0 + (i : Int).toNat * 2).2 Z = (ys.filter fun x => !(φ x)).flatMap Qa.c ++ (Z ++ (zs.flatMap Qa.c ++ sp).drop ((g, 0 + (i : Int).toNat * 2).2 + Z.length)) := by
   have e0 : (g, 0 + (i : Int).toNat * 2).2 = i * 2 := by show 0 + _ = _; omega
   unfold splice
   rw [e0, List.take_append_of_le_length (by omega), Qgk, ht, List.append_assoc]
  have hl2 : (splice (zs.flatMap Qa.c ++ sp) (g, 0 + (i : Int).toNat * 2).2 Z).length = (zs.flatMap Qa.c ++ sp).length := Qgf (by
   show 0 + (i : Int).toNat * 2 + Z.length ≤ _
   rw [hZl, List.length_append, hf2]; omega)
  rw [hs2] at hl2 ⊢
  have e3 : ((i : Int) - 0).toNat = (ys.filter fun x => !(φ x)).length := by omega
  have e4 : ((s.cap : Int) - 0).toNat = s.cap := by omega
  rw [e3, e4]
  exact k E _ hE (by rw [hl2, List.length_append, List.length_append, hf2, QbJ, hz])
theorem Qgx {x : Qa} {K : Bool → Heap → Prop} (k : K (decide (x.N < 0)) H) : Qal C x K H := by
 apply Qal.gh
 apply QdQ
 unfold Qcq
 intro b1 n1
 exact fI (Heap.put_same ..) rfl ⟨H, Gh.le (Heap.le_put n1), k⟩
def keepE (l : List En) : List En := l.filter fun e => !(decide (e.2 < 0))
def posE (l : List En) : List En := (keepE l).map fun e => (e.1, 1)
theorem QfI {α β : Type} {p : α → Bool} {q : β → Bool} : ∀ {al : List α} {bs : List β}, al.length = bs.length → (∀ (j : Nat) (a : α) (b : β), al[j]? = some a → bs[j]? = some b → p a = q b) →
 (al.filter p).length = (bs.filter q).length ∧ ∀ (j : Nat) (a : α) (b : β), (al.filter p)[j]? = some a → (bs.filter q)[j]? = some b → ∃ i : Nat, al[i]? = some a ∧ bs[i]? = some b
 | [], [], _, _ => ⟨rfl, fun j a b h => by simp at h⟩
 | a :: al, b :: bs, hl, h => by
  obtain ⟨h1, h2⟩ := QfI (p := p) (q := q) (al := al) (bs := bs) (by simpa using hl) fun j x y hx hy => h (j + 1) x y (by simpa using hx) (by simpa using hy)
  have h0 := h 0 a b rfl rfl
  simp only [List.filter_cons, h0]
  cases hq : q b with
  | true =>
   simp only [if_true, List.length_cons, h1, true_and]
   intro j x y hx hy
   cases j with
   | zero => simp at hx hy; exact ⟨0, by simp [hx], by simp [hy]⟩
   | succ j =>
    obtain ⟨i, q1, q2⟩ := h2 j x y (by simpa using hx) (by simpa using hy)
    exact ⟨i + 1, by simpa using q1, by simpa using q2⟩
  | false =>
   simp only [Bool.false_eq_true, if_false, h1, true_and]
   intro j x y hx hy
   obtain ⟨i, q1, q2⟩ := h2 j x y hx hy
   exact ⟨i + 1, by simpa using q1, by simpa using q2⟩
theorem delOg {B : Heap} {es : List En} {s : Sl} {ys : List Qa} {K : Sl → Heap → Prop} (h : OgE H B es s ys) (hn : es.length ≤ 1000000) (k : ∀ r zs D, OgE H D (keepE es) r zs → K r D) :
 Qj C s (.func (.func 37) (List.toArray []) (List.toArray []) : Value) K B := by
 obtain ⟨hle, ⟨q1, q2, q3, q4⟩, hf⟩ := h.own
 have hsl := h.slen
 have hlen := h.len
 have e2 : ∀ x : Qa, (!(decide (x.N < 0))) = !(decide (x.N < 0)) := fun _ => rfl
 rcases q4 with ⟨p0, c0⟩ | ⟨g, sp, hp, hb, hcl⟩
 ·have h0 : es = [] := List.length_eq_zero_iff.1 (by omega)
  subst h0
  have hy0 : ys = [] := List.length_eq_zero_iff.1 (by rw [hlen]; rfl)
  subst hy0
  apply QZ
  unfold Qx
  refine Qgy (xs := []) (φ := fun _ => false) ⟨[], .inl rfl, hsl, rfl, by simp, fun i v x hv => by simp at hv⟩ (fun x hx => by simp at hx) (fun _ => QaU rfl (k s [] B h)) (fun i hi => by simp at hi)
 have hB0 : (B.off s) g = none := Heap.off_fresh s B _ hp
 have heq : B = (B.off s).put g (.row (ys.flatMap Qa.c ++ sp)) := by
  funext x
  by_cases hx : x = g
  ·subst hx; rw [Heap.put_same]; exact hb
  ·rw [Heap.put_ne _ _ _ hx]
   unfold Heap.off
   rw [if_neg (by rw [hp]; simpa using fun e : g = x => hx e.symm)]
 rw [heq]
 have hHo : H.le (B.off s) := Heap.le_off hle hf
 refine QhM (φ := fun x => decide (x.N < 0)) hp q2 (by rw [hsl, hlen]) q3 (by omega) hB0 (fun E x _ _ Φ hΦ => cu Qd3 (Spec.mono (Qgx (C := C) (x := x) (H := E) (K := fun r H2 => Φ (.bool r) H2) hΦ) fun v H2 ⟨r, hv, hr⟩ => by rw [hv]; exact hr)) (fun E sp2 hE hl2 => ?_)
 obtain ⟨f1, f2⟩ := QfI (p := fun e : En => !(decide (e.2 < 0))) (q := fun x : Qa => !(decide (x.N < 0))) (al := es) (bs := ys) hlen.symm fun j a b ha hb => by rw [(h.done j a b ha hb).2]
 refine k _ (ys.filter fun x => !(decide (x.N < 0))) _ ⟨⟨Qu (hHo.trans hE) (hf _ hp), ⟨?_, rfl, ?_, .inr ⟨g, sp2, rfl, Heap.put_same .., ?_⟩⟩, fun p hp' => by injection hp' with hp'; subst hp'; exact hf _ hp⟩, f1.symm, fun j e y he hy => ?_⟩
 ·rw [QbJ]
 ·show (ys.filter _).length ≤ s.cap
  have := List.length_filter_le (fun x : Qa => !(decide (x.N < 0))) ys
  omega
 ·rw [hl2]; exact hcl
 ·rw [Qij (x := 0) rfl]
  obtain ⟨i, i1, i2⟩ := f2 j e y he hy
  obtain ⟨m1, m2⟩ := h.done i e y i1 i2
  refine ⟨m1.up fun x e hx => ?_, m2⟩
  have hxg : x ≠ g := fun e' => by subst e'; rw [hB0] at hx; cases hx
  unfold Heap.off
  rw [if_neg (by simpa using fun e : g = x => hxg e.symm)]
  exact hE _ _ hx
end
end
section
open Go Go.Proofs
theorem QfO : ∀ {o : List En}, o.Pairwise (fun a b => cmpR a.1 b.1 < 0) → (∀ e ∈ o, mayR e.1 = true) → ∀ {r : List V}, mayR r = true → (∃ A n B, o = A ++ (r, n) :: B) ∨ ∃ A B, o = A ++ B ∧ (∀ a ∈ A, cmpR a.1 r < 0) ∧ ∀ b ∈ B, cmpR r b.1 < 0
 | [], _, _, r, _ => .inr ⟨[], [], rfl, fun a h => by simp at h, fun a h => by simp at h⟩
 | e :: o, hp, hm, r, hr => by
  have hp' := List.pairwise_cons.1 hp
  have he := hm e (List.mem_cons_self ..)
  rcases Int.lt_trichotomy (cmpR e.1 r) 0 with h | h | h
  ·rcases QfO hp'.2 (fun x hx => hm x (List.mem_cons_of_mem _ hx)) hr with ⟨A, n, B, q⟩ | ⟨A, B, q, q1, q2⟩
   ·exact .inl ⟨e :: A, n, B, by rw [q]; rfl⟩
   ·refine .inr ⟨e :: A, B, by rw [q]; rfl, fun a ha => ?_, q2⟩
    rcases List.mem_cons.1 ha with rfl | ha
    ·exact h
    ·exact q1 a ha
  ·have e1 := (QdR he hr).1 h
   subst e1
   exact .inl ⟨[], e.2, o, rfl⟩
  ·have h2 : cmpR r e.1 < 0 := by have := Lin.row.anti e.1 r trivial trivial; omega
   refine .inr ⟨[], e :: o, rfl, fun a h => by simp at h, fun b hb => ?_⟩
   rcases List.mem_cons.1 hb with rfl | hb
   ·exact h2
   ·have h3 := hp'.1 b hb
    exact (Lin.row.tr r e.1 b.1 trivial trivial trivial (by omega) (by omega)).2 (.inl h2)
theorem QiL : ∀ (n : Nat) (es : List En), es.length = n → (∀ e ∈ es, mayR e.1 = true) → ∃ o, IsSum es o
 | 0, es, hn, _ => by
  have : es = [] := List.length_eq_zero_iff.1 hn
  subst this; exact ⟨[], IsSum.nil⟩
 | n + 1, es, hn, hm => by
  have hne : es ≠ [] := fun e => by subst e; simp at hn
  obtain ⟨fs, e, rfl⟩ : ∃ fs e, es = fs ++ [e] := ⟨es.dropLast, es.getLast hne, (List.dropLast_concat_getLast hne).symm⟩
  obtain ⟨o, ho⟩ := QiL n fs (by simpa using hn) fun x hx => hm x (List.mem_append_left _ hx)
  obtain ⟨r, m⟩ := e
  have hr : mayR r = true := hm (r, m) (List.mem_append_right _ (List.mem_cons_self ..))
  have ho' : ∀ x ∈ o, mayR x.1 = true := fun x hx => by
   obtain ⟨⟨y, hy, e⟩, _⟩ := (ho.mem x.1 x.2).1 hx
   rw [← e]; exact hm y (List.mem_append_left _ hy)
  rcases QfO ho.rise ho' hr with ⟨A, k, B, q⟩ | ⟨A, B, q, q1, q2⟩
  ·subst q; exact ⟨_, ho.add⟩
  ·subst q; exact ⟨_, ho.ins q1 q2⟩
theorem QgZ {l : List En} (h : chkE l = 0) : (∀ e ∈ l, mayR e.1 = true) ∧ ∀ e ∈ l, outE e.2 = false := by
 unfold chkE at h
 split at h
 ·cases h
 ·rename_i h1
  split at h
  ·cases h
  ·rename_i h2
   refine ⟨fun e he => ?_, fun e he => ?_⟩
   ·cases hb : mayR e.1 with
    | true => rfl
    | false => exact absurd (List.any_eq_true.2 ⟨e, he, by rw [hb]; rfl⟩) h1
   ·cases hb : outE e.2 with
    | false => rfl
    | true => exact absurd (List.any_eq_true.2 ⟨e, he, hb⟩) h2
theorem Qhy {l : List En} {e : Int} {out : List En} (h : ResP l e out) : out.length ≤ l.length := by
 by_cases c : chkE l = 0
 ·obtain ⟨o, ho⟩ := QiL _ l rfl (QgZ c).1
  cases hb : o.any fun e => outE e.2 with
  | true => rw [(h.over c o ho hb).2]; exact Nat.zero_le _
  | false => rw [(h.ok c o ho hb).2]; exact Qii ho
 ·rw [(h.err c).2]; exact Nat.zero_le _
section
variable {C : Ctx} {H A : Heap}
def oneE (l : List En) : List En := l.map fun e => (e.1, 1)
theorem QjO {B : Heap} {es : List En} {s : Sl} {ys : List Qa} {K : Heap → Prop} (h : OgE H B es s ys) (hn : es.length ≤ 1000000) (k : ∀ zs D, OgE H D (oneE es) s zs → K D) :
 lp (α := Int) 0 B (fun x6 J7 H8 =>
  ift (decide ((x6 : Int) < (Sl.len s : Int)))
   (ixa s x6 fun p10 => st ((p10.1, p10.2 + (x6 : Int).toNat * 2).1, (p10.1, p10.2 + (x6 : Int).toNat * 2).2 + 1) (.int .i64 1) (fun H15 => J7 (w .i64 (x6 + 1)) H15) H8)
   (K H8)) := by
 have hlen := h.len
 refine ⟨fun x D => ∃ (i : Nat) (fs : List En) (zs : List Qa), x = (i : Int) ∧ i ≤ es.length ∧ fs.length = es.length ∧ OgE H D fs s zs ∧ (∀ j, (hj : j < es.length) → fs[j]? = some (if j < i then (es[j].1, 1) else es[j])), fun x _ => es.length - x.toNat,
  ⟨0, es, ys, rfl, Nat.zero_le _, rfl, h, fun j hj => by rw [List.getElem?_eq_getElem hj, if_neg (by omega)]⟩, ?_⟩
 rintro _ D ⟨i, fs, zs, rfl, hi, hfl, hg, hq⟩
 have hsl := hg.slen
 rw [hsl, hfl]
 refine ift.of (fun hc => ?_) (fun hc => ?_)
 ·have hlt : i < es.length := by have := of_decide_eq_true hc; omega
  have hif : i < fs.length := by omega
  obtain ⟨hle, ⟨q1, q2, q3, q4⟩, hf⟩ := hg.own
  rcases q4 with ⟨p0, c0⟩ | ⟨g, sp, hp, hb, hcl⟩
  ·omega
  have hzl := hg.len
  refine ⟨(g, 0), hp, q2, by omega, by omega, ?_⟩
  have e0 : ((g, 0).1, (g, 0).2 + ((i : Int)).toNat * 2).2 + 1 = i * 2 + 1 := by show 0 + (i : Int).toNat * 2 + 1 = _; omega
  refine ⟨_, hb, ?_, ?_⟩
  ·show ((g, 0).1, (g, 0).2 + ((i : Int)).toNat * 2).2 + 1 < _
   rw [e0, List.length_append, QbJ]; omega
  show (∃ i' fs' zs', _) ∧ _
  have e1 : (((g, 0).1, (g, 0).2 + ((i : Int)).toNat * 2).1, ((g, 0).1, (g, 0).2 + ((i : Int)).toNat * 2).2 + 1).2 = i * 2 + 1 := e0
  rw [Qi (by omega) (by omega)]
  refine ⟨⟨i + 1, fs.set i (fs[i].1, 1), zs.set i (⟨(zs[i]'(by omega)).Row, 1⟩ : Qa), by omega, by omega, by rw [List.length_set, hfl], ?_, fun j hj => ?_⟩, by first | omega | (dsimp only; omega)⟩
  ·have := hg.setN (n := 1) hif hp hb
   rw [e1]
   exact this
  ·have h0 := hq i hlt
   rw [if_neg (Nat.lt_irrefl _), List.getElem?_eq_getElem hif] at h0
   injection h0 with h0
   by_cases hji : j = i
   ·subst hji
    rw [List.getElem?_set_self hif, if_pos (by omega), h0]
   ·rw [List.getElem?_set_ne fun e => hji e.symm, hq j hj]
    by_cases hlt2 : j < i
    ·rw [if_pos hlt2, if_pos (by omega)]
    ·rw [if_neg hlt2, if_neg (by omega)]
 ·have hie : i = es.length := by have := of_decide_eq_false hc; omega
  have e : fs = oneE es := by
   unfold oneE
   refine List.ext_getElem? fun j => ?_
   by_cases hj : j < es.length
   ·rw [hq j hj, if_pos (by omega), List.getElem?_map, List.getElem?_eq_getElem hj]; rfl
   ·rw [List.getElem?_eq_none (by omega), List.getElem?_map, List.getElem?_eq_none (by omega)]; rfl
  rw [e] at hg
  exact k zs D hg
theorem Qi4 (l : List En) : (keepE l).length ≤ l.length := List.length_filter_le ..
/-- behind Clean -/
theorem Qgw {H0 : Heap} {out : List En} {cs : Sl} {ys : List Qa} {e : Int} {K : Sl → Int → Heap → Prop} (h : OgE H H0 out cs ys) (hn : out.length ≤ 1000000) (k : ∀ r zs D, OgE H D (posE out) r zs → K r e D) :
 Qj C cs (.func (.func 37) (List.toArray []) (List.toArray []) : Value) (fun r4 H5 =>
  lp (α := Int) 0 H5 (fun x6 J7 H8 =>
   ift (decide ((x6 : Int) < (Sl.len r4 : Int)))
    (ixa r4 x6 fun p10 => st ((p10.1, p10.2 + (x6 : Int).toNat * 2).1, (p10.1, p10.2 + (x6 : Int).toNat * 2).2 + 1) (.int .i64 1) (fun H15 => J7 (w .i64 (x6 + 1)) H15) H8)
    (K r4 e H8))) H0 :=
 delOg h hn fun r zs D hd => QjO hd (by have := Qi4 out; omega) fun zs2 D2 h2 => k r zs2 D2 h2
/-- Distinct of small entries -/
theorem pDistS {a : Sl} {la : List En} {K : Sl → Int → Heap → Prop} (ha : EnL H a la) (hn : la.length ≤ 1000000) (hsz : ∀ x ∈ la, wids x.1 ≤ 2513169434843) (ho : OkS la)
 (k : ∀ out cs ys H0, IsSum la out → OgE H H0 (posE (nzE out)) cs ys → K cs 0 H0) : Qad C a K H := by
 apply QcR
 unfold QbR
 exact pCleanS ha hn hsz ho fun out cs ys H0 h1 h2 => Qgw h2 (by have := Qii h1; omega) fun r zs D hd => k out r zs D h1 hd
theorem Qi9 {a : Sl} {la : List En} {K : Sl → Int → Heap → Prop} (ha : EnL H a la) (hn : la.length ≤ 1000000) (hsz : ∀ x ∈ la, wids x.1 ≤ 2513169434843)
 (k : ∀ e out cs ys H0, ResP la e out → out.length ≤ la.length → OgE H H0 (posE out) cs ys → K cs e H0) : Qad C a K H := by
 apply QcR
 unfold QbR
 refine Qfc ha hn hsz ?_
 have hrg : ∀ x ∈ seqS [(la, false)], -9223372036854775808 ≤ x.1.2 ∧ x.1.2 < 9223372036854775808 := fun x hx => by
  simp [seqS] at hx
  obtain ⟨r, n, h, rfl⟩ := hx
  exact (ha.oks _ h).2.2
 refine QhD hrg fun e out cs ys H0 h1 h2 => ?_
 rw [esC] at h1
 exact Qgw h2 (by have := Qhy h1; omega) fun r zs D hd => k e out r zs D h1 (Qhy h1) hd
/-- sums of closed lists -/
def riseB : List En → Bool
 | [] => true
 | e :: l => l.all (fun x => decide (cmpR e.1 x.1 < 0)) && riseB l
theorem QhA : ∀ {l : List En}, riseB l = true → l.Pairwise fun a b => cmpR a.1 b.1 < 0
 | [], _ => List.Pairwise.nil
 | e :: l, h => by
  simp only [riseB, Bool.and_eq_true] at h
  exact List.pairwise_cons.2 ⟨fun x hx => of_decide_eq_true (List.all_eq_true.1 h.1 x hx), QhA h.2⟩
def calcB (es l : List En) : Bool := riseB l && l.all (fun e => decide (e.2 = totE es e.1) && decide (e.2 ≠ 0)) && es.all fun e => decide (totE es e.1 = 0) || l.any fun x => sameVs x.1 e.1 && decide (x.2 = totE es e.1)
theorem Qhb {es o l : List En} (h : IsSum es o) (hc : calcB es l = true) : nzE o = l := by
 unfold calcB at hc
 simp only [Bool.and_eq_true] at hc
 obtain ⟨⟨h1, h2⟩, h3⟩ := hc
 refine Qd6 (Qhc h) (QhA h1) fun x => ?_
 obtain ⟨r, n⟩ := x
 rw [Qhx h]
 constructor
 ·rintro ⟨rfl, h0⟩
  have : ∃ e ∈ es, e.1 = r := Classical.byContradiction fun hn => h0 (QaE fun e he e' => hn ⟨e, he, e'⟩)
  obtain ⟨e, he, rfl⟩ := this
  have := List.all_eq_true.1 h3 e he
  rw [Bool.or_eq_true] at this
  rcases this with this | this
  ·exact absurd (of_decide_eq_true this) h0
  ·obtain ⟨x, hx, hb⟩ := List.any_eq_true.1 this
   rw [Bool.and_eq_true] at hb
   obtain ⟨x1, x2⟩ := x
   have e1 := Qbo.1 hb.1
   have e2 := of_decide_eq_true hb.2
   simp only at e1 e2
   rw [← e1, ← e2] at *
   exact hx
 ·intro hx
  have := List.all_eq_true.1 h2 _ hx
  rw [Bool.and_eq_true] at this
  exact ⟨of_decide_eq_true this.1, of_decide_eq_true this.2⟩
def okB (es : List En) : Bool := es.all fun e => mayR e.1 && !(outE e.2) && !(outE (totE es e.1))
theorem Qik {es : List En} (h : okB es = true) : OkS es := by
 unfold okB at h
 have h1 : ∀ e ∈ es, (mayR e.1 = true ∧ outE e.2 = false) ∧ outE (totE es e.1) = false := fun e he => by
  have := List.all_eq_true.1 h e he
  simpa [Bool.and_eq_true] using this
 refine ⟨fun e he => (h1 e he).1.1, fun e he => (h1 e he).1.2, fun r => ?_⟩
 by_cases hr : ∃ e ∈ es, e.1 = r
 ·obtain ⟨e, he, rfl⟩ := hr; exact (h1 e he).2
 ·rw [QaE fun e he e' => hr ⟨e, he, e'⟩]; rfl
theorem Qif {b n cap : Nat} {m : Bool} {es : List En} {xs : List Qa} {cs : List Value} (h : H b = some (m, .row cs)) (hc : cs = xs.flatMap Qa.c ++ []) (hn : n = xs.length) (hl : es.length = xs.length) (hb : es.length ≤ 140737488355328)
 (hr : ∀ (i : Nat) (v : En) (x : Qa), es[i]? = some v → xs[i]? = some x → EnIs H v x) : EnL H (Sl.of (some (b, 0)) n cap) es := by
 subst hc
 exact ⟨xs, .inr ⟨rfl, _, rfl, Qbc h fun j v hj => by simpa using hj⟩, hn, hl, hb, hr⟩
end
end
section
open Go Go.Proofs
def nV (n : Int) : V := .mk 2 n [] []
def r1E : List V := [nV 1]
def r2E : List V := [nV 2]
def esA1 : List En := [(r2E, 1), (r1E, 3), (r2E, -1), (r1E, -1)]
def esA2 : List En := [(r1E, 2), (r1E, -3), (r2E, 1)]
def esA3 : List En := [(r1E, -1), (r2E, 1)]
theorem Qi0 : calcB esA1 [(r1E, 2)] = true ∧ calcB esA2 esA3 = true ∧ calcB esA3 esA3 = true ∧ okB esA1 = true ∧ okB esA2 = true ∧ okB esA3 = true := by decide +kernel
theorem vbN {n : Int} (h : -9223372036854775808 ≤ n ∧ n ≤ 9223372036854775807) : VBs [nV n] := ⟨⟨⟨by omega, by omega⟩, h, by simp, by simp, trivial⟩, trivial⟩
section
variable {C : Ctx} {H : Heap}
theorem rowN {b cap : Nat} {m : Bool} {n : Int} (h : H b = some (m, .row (Qb.c (⟨2, n, [], Sl.nil⟩ : Qb) ++ []))) : VRow H (Sl.of (some (b, 0)) 1 cap) [nV n] :=
 ⟨[(⟨2, n, [], Sl.nil⟩ : Qb)], .inr ⟨rfl, _, rfl, Qbc h fun j v hj => by simpa using hj⟩, rfl, ⟨rfl, rfl, rfl, [], .inl rfl, rfl, trivial⟩, trivial⟩
theorem enN {s : Sl} {n k : Int} (h : VRow H s [nV n]) (hn : -9223372036854775808 ≤ n ∧ n ≤ 9223372036854775807) (hk : -9223372036854775808 ≤ k ∧ k < 9223372036854775808) : EnIs H ([nV n], k) (⟨s, k⟩ : Qa) :=
 ⟨h, vbN hn, by simp, rfl, hk⟩
theorem QiY {K : Bool → Heap → Prop} (k : ∀ H2, H.le H2 → K true H2) : QbA C K H := by
 obtain ⟨cA1, cA2, cA3, oA1, oA2, oA3⟩ := Qi0
 apply Qfn
 unfold Qdr
 intro b1 n1 b3 n3 b5 n5
 have ne13 : b1 ≠ b3 := fun e => by rw [e, Heap.put_same] at n3; cases n3
 have l1 := Heap.le_put n1 (g := .row (Qb.c (⟨2, 1, [], Sl.nil⟩ : Qb) ++ [])) (m := true)
 have l3 := Heap.le_put n3 (g := .row (Qb.c (⟨2, 2, [], Sl.nil⟩ : Qb) ++ [])) (m := true)
 have c3 : ((H.put b1 (.row (Qb.c (⟨2, 1, [], Sl.nil⟩ : Qb) ++ []))).put b3 (.row (Qb.c (⟨2, 2, [], Sl.nil⟩ : Qb) ++ []))) b3 = some (true, .row (Qb.c (⟨2, 2, [], Sl.nil⟩ : Qb) ++ [])) := Heap.put_same ..
 have c1 : ((H.put b1 (.row (Qb.c (⟨2, 1, [], Sl.nil⟩ : Qb) ++ []))).put b3 (.row (Qb.c (⟨2, 2, [], Sl.nil⟩ : Qb) ++ []))) b1 = some (true, .row (Qb.c (⟨2, 1, [], Sl.nil⟩ : Qb) ++ [])) := by rw [Heap.put_ne _ _ _ ne13, Heap.put_same]
 have l13 := l1.trans l3
 generalize (H.put b1 (.row (Qb.c (⟨2, 1, [], Sl.nil⟩ : Qb) ++ []))).put b3 (.row (Qb.c (⟨2, 2, [], Sl.nil⟩ : Qb) ++ [])) = H4 at *
 have l5 := Heap.le_put n5 (g := .row ((Qa.c (⟨(Sl.of (some (b3, 0)) 1 1), 1⟩ : Qa)) ++ (Qa.c (⟨(Sl.of (some (b1, 0)) 1 1), 3⟩ : Qa)) ++ (Qa.c (⟨(Sl.of (some (b3, 0)) 1 1), (-1)⟩ : Qa)) ++ (Qa.c (⟨(Sl.of (some (b1, 0)) 1 1), (-1)⟩ : Qa)) ++ [])) (m := true)
 have qb5 : (H4.put b5 (.row ((Qa.c (⟨(Sl.of (some (b3, 0)) 1 1), 1⟩ : Qa)) ++ (Qa.c (⟨(Sl.of (some (b1, 0)) 1 1), 3⟩ : Qa)) ++ (Qa.c (⟨(Sl.of (some (b3, 0)) 1 1), (-1)⟩ : Qa)) ++ (Qa.c (⟨(Sl.of (some (b1, 0)) 1 1), (-1)⟩ : Qa)) ++ []))) b5 = some (true, .row ((Qa.c (⟨(Sl.of (some (b3, 0)) 1 1), 1⟩ : Qa)) ++ (Qa.c (⟨(Sl.of (some (b1, 0)) 1 1), 3⟩ : Qa)) ++ (Qa.c (⟨(Sl.of (some (b3, 0)) 1 1), (-1)⟩ : Qa)) ++ (Qa.c (⟨(Sl.of (some (b1, 0)) 1 1), (-1)⟩ : Qa)) ++ [])) := Heap.put_same ..
 generalize H4.put b5 (.row ((Qa.c (⟨(Sl.of (some (b3, 0)) 1 1), 1⟩ : Qa)) ++ (Qa.c (⟨(Sl.of (some (b1, 0)) 1 1), 3⟩ : Qa)) ++ (Qa.c (⟨(Sl.of (some (b3, 0)) 1 1), (-1)⟩ : Qa)) ++ (Qa.c (⟨(Sl.of (some (b1, 0)) 1 1), (-1)⟩ : Qa)) ++ [])) = H6 at *
 have R1 := rowN (cap := 1) (l5 _ _ c1)
 have R2 := rowN (cap := 1) (l5 _ _ c3)
 have i1 : (-9223372036854775808 : Int) ≤ 1 ∧ (1 : Int) ≤ 9223372036854775807 := by omega
 have i2 : (-9223372036854775808 : Int) ≤ 2 ∧ (2 : Int) ≤ 9223372036854775807 := by omega
 have E1 : EnL H6 (Sl.of (some (b5, 0)) 4 4) esA1 := Qif (xs := [⟨(Sl.of (some (b3, 0)) 1 1), 1⟩, ⟨(Sl.of (some (b1, 0)) 1 1), 3⟩, ⟨(Sl.of (some (b3, 0)) 1 1), (-1)⟩, ⟨(Sl.of (some (b1, 0)) 1 1), (-1)⟩]) qb5 rfl rfl rfl (by decide) fun i v x hv hx => by
  match i with
  | 0 => simp [esA1] at hv hx; subst hv; subst hx; exact enN R2 i2 (by omega)
  | 1 => simp [esA1] at hv hx; subst hv; subst hx; exact enN R1 i1 (by omega)
  | 2 => simp [esA1] at hv hx; subst hv; subst hx; exact enN R2 i2 (by omega)
  | 3 => simp [esA1] at hv hx; subst hv; subst hx; exact enN R1 i1 (by omega)
  | i + 4 => simp [esA1] at hv
 have l15 := l13.trans l5
 have c1 := l5 _ _ c1
 have c3 := l5 _ _ c3
 have vsz : ∀ {l : List En}, (l.all fun e => decide (wids e.1 ≤ 2513169434843)) = true → ∀ x ∈ l, wids x.1 ≤ 2513169434843 := fun h x hx => of_decide_eq_true (List.all_eq_true.1 h x hx)
 refine pCleanS E1 (by decide) (vsz (by decide +kernel)) (Qik oA1) fun o7 r7 y7 H9 s7 g7 => ?_
 rw [Qhb s7 cA1] at g7
 have e7 : EnL H9 r7 [(r1E, 2)] := g7.en (fun e he => by
  have : e = (r1E, 2) := by simpa using he
  subst this; exact ⟨vbN i1, by decide, by decide⟩) (by decide)
 have l9 := l15.trans g7.own.le
 have c1 := g7.own.le _ _ c1
 have c3 := g7.own.le _ _ c3
 intro b10 n10
 have l10 := Heap.le_put n10 (g := .row ((Qa.c (⟨(Sl.of (some (b1, 0)) 1 1), (-3)⟩ : Qa)) ++ (Qa.c (⟨(Sl.of (some (b3, 0)) 1 1), 1⟩ : Qa)) ++ [])) (m := true)
 have qb10 : (H9.put b10 (.row ((Qa.c (⟨(Sl.of (some (b1, 0)) 1 1), (-3)⟩ : Qa)) ++ (Qa.c (⟨(Sl.of (some (b3, 0)) 1 1), 1⟩ : Qa)) ++ []))) b10 = some (true, .row ((Qa.c (⟨(Sl.of (some (b1, 0)) 1 1), (-3)⟩ : Qa)) ++ (Qa.c (⟨(Sl.of (some (b3, 0)) 1 1), 1⟩ : Qa)) ++ [])) := Heap.put_same ..
 generalize H9.put b10 (.row ((Qa.c (⟨(Sl.of (some (b1, 0)) 1 1), (-3)⟩ : Qa)) ++ (Qa.c (⟨(Sl.of (some (b3, 0)) 1 1), 1⟩ : Qa)) ++ [])) = H11 at *
 have R1 := rowN (cap := 1) (l10 _ _ c1)
 have R2 := rowN (cap := 1) (l10 _ _ c3)
 have E2 : EnL H11 (Sl.of (some (b10, 0)) 2 2) [(r1E, -3), (r2E, 1)] := Qif (xs := [⟨(Sl.of (some (b1, 0)) 1 1), (-3)⟩, ⟨(Sl.of (some (b3, 0)) 1 1), 1⟩]) qb10 rfl rfl rfl (by decide) fun i v x hv hx => by
  match i with
  | 0 => simp at hv hx; subst hv; subst hx; exact enN R1 i1 (by omega)
  | 1 => simp at hv hx; subst hv; subst hx; exact enN R2 i2 (by omega)
  | i + 2 => simp at hv
 have e7 := e7.le l10
 have l11 := l9.trans l10
 have c3 := l10 _ _ c3
 refine pAddS e7 E2 (by decide) (vsz (by decide +kernel)) (Qik oA2) fun o12 r12 y12 H14 s12 g12 => ?_
 rw [Qhb s12 cA2] at g12
 have okA3 : ∀ e ∈ esA3, okE e := fun e he => by
  have : e = (r1E, -1) ∨ e = (r2E, 1) := by simpa [esA3] using he
  rcases this with rfl | rfl
  ·exact ⟨vbN i1, by decide, by decide⟩
  ·exact ⟨vbN i2, by decide, by decide⟩
 have e12 : EnL H14 r12 esA3 := g12.en okA3 (by decide)
 have l14 := l11.trans g12.own.le
 have c3 := g12.own.le _ _ c3
 refine pDistS e12 (by decide) (vsz (by decide +kernel)) (Qik oA3) fun o15 r15 y15 H17 s15 g15 => ?_
 rw [Qhb s15 cA3] at g15
 have hpos : posE esA3 = [(r2E, 1)] := rfl
 rw [hpos] at g15
 have e15 : EnL H17 r15 [(r2E, 1)] := g15.en (fun e he => by
  have : e = (r2E, 1) := by simpa using he
  subst this; exact ⟨vbN i2, by decide, by decide⟩) (by decide)
 have l17 := l14.trans g15.own.le
 have e7 := e7.le (g12.own.le.trans g15.own.le)
 have e12 := e12.le g15.own.le
 have R2 := rowN (cap := 1) (g15.own.le _ _ c3)
 have n7 := e7.len
 have n12 := e12.len
 have n15 := e15.len
 refine ⟨fun b E => E = H17 ∧ b = true, QaU (by rw [n7]; rfl) ?_, ?_⟩
 ·exact SlIs.fI e7 (Heap.le.refl _) (z := 2) (fun _ => rfl) (by omega) (i := 0) rfl (by decide) (j := 1) (f := fun y => y.N) (fun _ => rfl) fun y hy => ⟨rfl, by rw [hy.2.2.2.1]; rfl⟩
 rintro b19 E ⟨rfl, rfl⟩
 refine ⟨fun b E2 => E2 = E ∧ b = true, QaU (by rw [n12]; rfl) ?_, ?_⟩
 ·exact SlIs.fI e12 (Heap.le.refl _) (z := 2) (fun _ => rfl) (by omega) (i := 0) rfl (by decide) (j := 1) (f := fun y => y.N) (fun _ => rfl) fun y hy => ⟨rfl, by rw [hy.2.2.2.1]; rfl⟩
 rintro b33 E3 ⟨rfl, rfl⟩
 refine ⟨fun b E2 => E2 = E3 ∧ b = true, QaU (by rw [n15]; rfl) ?_, ?_⟩
 ·exact SlIs.fI e15 (Heap.le.refl _) (z := 2) (fun _ => rfl) (by omega) (i := 0) rfl (by decide) (j := 1) (f := fun y => y.N) (fun _ => rfl) fun y hy => ⟨rfl, by rw [hy.2.2.2.1]; rfl⟩
 rintro b47 E4 ⟨rfl, rfl⟩
 refine ⟨fun b E2 => E2 = E4 ∧ b = true, QaU rfl ?_, ?_⟩
 ·refine SlIs.fL e15 (Heap.le.refl _) (z := 2) (fun _ => rfl) (by omega) (i := 0) rfl (by decide) (j := 0) (f := fun y => y.Row) (fun _ => rfl) fun y hy => ?_
  refine Qb7 hy.1 R2 (by decide) (by decide) (vbN i2) (vbN i2) ⟨rfl, ?_⟩
  have e : cmpR [nV 2] [nV 2] = 0 := Lin.row.refl trivial
  show (cmpR [nV 2] [nV 2] == 0) = true
  rw [e]; rfl
 rintro b59 E5 ⟨rfl, rfl⟩
 exact k _ l17
end
end
end Sx
end
noncomputable section
set_option linter.unusedVariables false
set_option linter.unusedSimpArgs false
namespace Sx.SR
open Go Go.Proofs Sx
abbrev TE := Sl
abbrev cE (x : TE) : List Value := [slv x]
abbrev argE (x : TE) : Value := slv x
abbrev LDX (H : Heap) (p : Nat × Nat) (K : TE → Prop) : Prop := ldL H p K
def enc {G : Type} (e : TE × G) : List Value := cE e.1
section
variable {G : Type}
def arr (H0 : Heap) (b : Nat) (sp : List Value) (L : List (TE × G)) : Heap := H0.put b (.row (L.flatMap enc ++ sp))
structure Sls (s : Sl) (b n : Nat) : Prop where
 p : s.p = some (b, 0)
 x : s.x = none
 len : s.len = n
 small : n ≤ 140737488355328
theorem Qg7 (e : TE × G) : (enc e).length = 1 := rfl
theorem Qbh : ∀ A : List (TE × G), (A.flatMap enc).length = A.length * 1
 | [] => rfl
 | e :: A => by rw [List.flatMap_cons, List.length_append, Qg7, Qbh A, List.length_cons]; omega
theorem QgY {A R : List (TE × G)} {x : TE × G} {sp : List Value} {j : Nat} (hj : j < 1) : ((A ++ x :: R).flatMap enc ++ sp)[A.length * 1 + j]? = (cE x.1)[j]? := by
 have hl := Qbh A
 have e : (cE x.1).length = 1 := rfl
 have h : (A ++ x :: R).flatMap enc ++ sp = A.flatMap enc ++ (cE x.1 ++ (R.flatMap enc ++ sp)) := by
  rw [List.flatMap_append, List.flatMap_cons]; simp only [enc, List.append_assoc]
 rw [h, List.getElem?_append_right (by omega), List.getElem?_append_left (by omega)]
 congr 1; omega
variable {H0 R : Heap} {b n : Nat} {sp : List Value} {s : Sl} {C : Ctx} {L A D : List (TE × G)} {x y : TE × G} {i : Int}
theorem ixp {K : Nat × Nat → Prop} {k : Nat} (hs : Sls s b n) (hi : i = (k : Int)) (hk : k < n) (h : K (b, 0)) : ixa s i K :=
 ⟨(b, 0), hs.p, hs.x, by omega, by rw [hs.len]; omega, h⟩
theorem ldx {K : TE → Prop} (hL : L = A ++ x :: D) (hi : i = (A.length : Int)) (k : K x.1) : LDX (arr H0 b sp L) ((b, 0).1, (b, 0).2 + i.toNat * 1) K := by
 subst hL; subst hi
 rw [Int.toNat_natCast]
 refine ⟨x.1, ?_, k⟩
 have := QgY (A := A) (R := D) (x := x) (sp := sp) (j := 0) (by omega)
 rw [Nat.add_zero] at this
 show rd (arr H0 b sp (A ++ x :: D)) (b, 0 + A.length * 1) = _
 unfold arr
 simp only [rd, Heap.put_same, GO.cells?, Nat.zero_add, this]; rfl
theorem stx0 {K : Heap → Prop} (hL : L = A ++ x :: D) (hi : i = (A.length : Int)) (k : K (arr H0 b sp (A ++ y :: D))) : stT ((b, 0).1, (b, 0).2 + i.toNat * 1) (cE y.1) K (arr H0 b sp L) := by
 subst hL; subst hi
 rw [Int.toNat_natCast]
 have hl := Qbh A
 have e2 : (cE x.1).length = 1 := rfl
 have e3 : (cE y.1).length = 1 := rfl
 have h : ∀ z : TE × G, (A ++ z :: D).flatMap enc ++ sp = A.flatMap enc ++ (cE z.1 ++ (D.flatMap enc ++ sp)) := fun z => by
  rw [List.flatMap_append, List.flatMap_cons]; simp only [enc, List.append_assoc]
 refine ⟨_, Heap.put_same .., ?_, ?_⟩
 ·rw [h]; simp only [List.length_append, hl, e2]; show 0 + A.length * 1 + (cE y.1).length ≤ _; rw [e3]; omega
 ·have e : (arr H0 b sp (A ++ x :: D)).put b (.row (splice ((A ++ x :: D).flatMap enc ++ sp) (0 + A.length * 1) (cE y.1))) = arr H0 b sp (A ++ y :: D) := by
   unfold arr
   rw [Heap.put_put, h x, h y, Nat.zero_add]
   congr 2
   unfold splice
   rw [← hl, List.take_left, ← List.drop_drop, List.drop_left, e3, ← e2, List.drop_left, List.append_assoc]
  exact e.symm ▸ k
theorem Qkg {p : Nat × Nat} {v : Value} {K : Heap → Prop} {H : Heap} (h : stT p [v] K H) : Sx.st p v K H := by
 obtain ⟨c, h1, h2, h3⟩ := h
 have h4 : p.2 < c.length := by simp at h2; omega
 exact ⟨c, h1, h4, by rw [← Qes h4]; exact h3⟩
theorem stx {K : Heap → Prop} (hL : L = A ++ x :: D) (hi : i = (A.length : Int)) (k : K (arr H0 b sp (A ++ y :: D))) : Sx.st ((b, 0).1, (b, 0).2 + i.toNat * 1) (slv y.1) K (arr H0 b sp L) := Qkg (stx0 hL hi k)
theorem nole (B : Heap) : Heap.le (fun _ => none) B := fun _ _ h => by cases h
/-- data[lo], data[hi] = data[hi], data[lo] -/
theorem swp1 {B : List (TE × G)} {lo hi : Int} {J : Unit → Heap → Prop} (hs : Sls s b n) (hn : A.length + 1 + B.length < n) (hL : L = A ++ x :: (B ++ y :: D)) (hlo : lo = (A.length : Int)) (hhi : hi = ((A.length + 1 + B.length : Nat) : Int)) (k : J () (arr H0 b sp (A ++ y :: (B ++ x :: D)))) :
 dr (arr H0 b sp L) fun Hs => ixa s hi fun p => ixa s lo fun q =>
  (LDX (arr H0 b sp L) (p.1, p.2 + hi.toNat * 1) fun u => Heap.le Hs (arr H0 b sp L) ∧ LDX (arr H0 b sp L) (q.1, q.2 + lo.toNat * 1) fun v => Heap.le Hs (arr H0 b sp L) ∧
   ixa s lo fun p27 => Sx.st (p27.1, p27.2 + lo.toNat * 1) (slv u)  (fun H33 => Heap.le Hs H33 ∧ ixa s hi fun p34 => Sx.st (p34.1, p34.2 + hi.toNat * 1) (slv v)  (fun H39 => J () H39) H33) (arr H0 b sp L)) ∧
  (LDX (arr H0 b sp L) (q.1, q.2 + lo.toNat * 1) fun v => Heap.le Hs (arr H0 b sp L) ∧ LDX (arr H0 b sp L) (p.1, p.2 + hi.toNat * 1) fun u => Heap.le Hs (arr H0 b sp L) ∧
   ixa s lo fun p27 => Sx.st (p27.1, p27.2 + lo.toNat * 1) (slv u)  (fun H33 => Heap.le Hs H33 ∧ ixa s hi fun p34 => Sx.st (p34.1, p34.2 + hi.toNat * 1) (slv v)  (fun H39 => J () H39) H33) (arr H0 b sp L)) := by
 have e : L = (A ++ x :: B) ++ y :: D := by rw [hL]; simp
 have e' : A ++ y :: (B ++ y :: D) = (A ++ y :: B) ++ y :: D := by simp
 have hh : hi = (((A ++ x :: B).length : Nat) : Int) := by rw [hhi]; simp; omega
 have hh' : hi = (((A ++ y :: B).length : Nat) : Int) := by rw [hhi]; simp; omega
 have k' : J () (arr H0 b sp ((A ++ y :: B) ++ x :: D)) := by simpa using k
 have fin : ixa s lo fun p27 => (fun (u v : TE) => Sx.st (p27.1, p27.2 + lo.toNat * 1) (slv u)  (fun H33 => Heap.le (fun _ => none) H33 ∧ ixa s hi fun p34 => Sx.st (p34.1, p34.2 + hi.toNat * 1) (slv v)  (fun H39 => J () H39) H33) (arr H0 b sp L)) y.1 x.1 :=
  ixp hs hlo (by omega) (stx hL hlo ⟨nole _, ixp hs hhi (by omega) (stx e' hh' k')⟩)
 exact ⟨fun _ => none, nole _, ixp hs hhi (by omega) (ixp hs hlo (by omega) ⟨ldx e hh ⟨nole _, ldx hL hlo ⟨nole _, fin⟩⟩, ldx hL hlo ⟨nole _, ldx e hh ⟨nole _, fin⟩⟩⟩)⟩
/-- data[hi], data[lo] = data[lo], data[hi] -/
theorem swp2 {B : List (TE × G)} {lo hi : Int} {J : Unit → Heap → Prop} (hs : Sls s b n) (hn : A.length + 1 + B.length < n) (hL : L = A ++ x :: (B ++ y :: D)) (hlo : lo = (A.length : Int)) (hhi : hi = ((A.length + 1 + B.length : Nat) : Int)) (k : J () (arr H0 b sp (A ++ y :: (B ++ x :: D)))) :
 dr (arr H0 b sp L) fun Hs => ixa s lo fun p => ixa s hi fun q =>
  (LDX (arr H0 b sp L) (p.1, p.2 + lo.toNat * 1) fun u => Heap.le Hs (arr H0 b sp L) ∧ LDX (arr H0 b sp L) (q.1, q.2 + hi.toNat * 1) fun v => Heap.le Hs (arr H0 b sp L) ∧
   ixa s hi fun p27 => Sx.st (p27.1, p27.2 + hi.toNat * 1) (slv u)  (fun H33 => Heap.le Hs H33 ∧ ixa s lo fun p34 => Sx.st (p34.1, p34.2 + lo.toNat * 1) (slv v)  (fun H39 => J () H39) H33) (arr H0 b sp L)) ∧
  (LDX (arr H0 b sp L) (q.1, q.2 + hi.toNat * 1) fun v => Heap.le Hs (arr H0 b sp L) ∧ LDX (arr H0 b sp L) (p.1, p.2 + lo.toNat * 1) fun u => Heap.le Hs (arr H0 b sp L) ∧
   ixa s hi fun p27 => Sx.st (p27.1, p27.2 + hi.toNat * 1) (slv u)  (fun H33 => Heap.le Hs H33 ∧ ixa s lo fun p34 => Sx.st (p34.1, p34.2 + lo.toNat * 1) (slv v)  (fun H39 => J () H39) H33) (arr H0 b sp L)) := by
 have e : L = (A ++ x :: B) ++ y :: D := by rw [hL]; simp
 have e' : (A ++ x :: B) ++ x :: D = A ++ x :: (B ++ x :: D) := by simp
 have hh : hi = (((A ++ x :: B).length : Nat) : Int) := by rw [hhi]; simp; omega
 have fin : ixa s hi fun p27 => (fun (u v : TE) => Sx.st (p27.1, p27.2 + hi.toNat * 1) (slv u)  (fun H33 => Heap.le (fun _ => none) H33 ∧ ixa s lo fun p34 => Sx.st (p34.1, p34.2 + lo.toNat * 1) (slv v)  (fun H39 => J () H39) H33) (arr H0 b sp L)) x.1 y.1 :=
  ixp hs hhi (by omega) (stx e hh ⟨nole _, ixp hs hlo (by omega) (stx e' hlo k)⟩)
 exact ⟨fun _ => none, nole _, ixp hs hlo (by omega) (ixp hs hhi (by omega) ⟨ldx hL hlo ⟨nole _, ldx e hh ⟨nole _, fin⟩⟩, ldx e hh ⟨nole _, ldx hL hlo ⟨nole _, fin⟩⟩⟩)⟩
/-- what compares -/
structure CmpF (C : Ctx) (R : Heap) (f : Value) (P : TE × G → Prop) (κ : TE × G → TE × G → Int) : Prop where
 ok : ∀ A : Heap, R.le A → ∀ x y, P x → P y → ∀ Φ : Value → Heap → Prop, Φ (.int .i64 (κ x y)) A → callU Tryz.prog C f [argE x.1, argE y.1] A Φ
/-- where it is sorted -/
structure Where (C : Ctx) (H0 R : Heap) (s : Sl) (b n : Nat) (f : Value) (P : TE × G → Prop) (κ : TE × G → TE × G → Int) : Prop where
 s : Sls s b n
 le : R.le H0
 rb : R b = none
 f : CmpF C R f P κ
 lin : Lin κ P
variable {f : Value} {P : TE × G → Prop} {κ : TE × G → TE × G → Int} {ι : TE × G → Nat}
theorem Where.arr (h : Where C H0 R s b n f P κ) (sp : List Value) (L : List (TE × G)) : R.le (arr H0 b sp L) := fun z e hz => by
 have : z ≠ b := fun e' => by rw [e', h.rb] at hz; cases hz
 unfold SR.arr
 rw [Heap.put_ne _ _ _ this]; exact h.le _ _ hz
theorem cmp0 {A2 D2 : List (TE × G)} {j : Int} {Ψ : Int → Heap → Prop} (h : Where C H0 R s b n f P κ) (hl : L.length = n) (h1 : L = A ++ x :: D) (hi : i = (A.length : Int)) (h2 : L = A2 ++ y :: D2) (hj : j = (A2.length : Int)) (hx : P x) (hy : P y) (k : Ψ (κ x y) (arr H0 b sp L)) :
 ixa s i fun p => LDX (arr H0 b sp L) (p.1, p.2 + i.toNat * 1) fun u => ixa s j fun q => LDX (arr H0 b sp L) (q.1, q.2 + j.toNat * 1) fun v =>
  callU Tryz.prog C f [argE u, argE v] (arr H0 b sp L) (fun v H => ∃ r : Int, v = .int .i64 r ∧ Heap.le (arr H0 b sp L) H ∧ Ψ r H) := by
 have l1 : A.length < n := by rw [← hl, h1]; simp
 have l2 : A2.length < n := by rw [← hl, h2]; simp
 exact ixp h.s hi l1 (ldx h1 hi (ixp h.s hj l2 (ldx h2 hj (h.f.ok _ (h.arr sp L) x y hx hy _ ⟨_, rfl, Heap.le.refl _, k⟩))))
theorem Qgz {X : List (TE × G)} {a e : Int} {K : Heap → Prop} (h : Where C H0 R s b n f P κ) (ha : a = (A.length : Int)) (he : e = ((A.length + X.length : Nat) : Int)) (hn : A.length + X.length + D.length = n) (hP : ∀ x ∈ X, P x) (hι : X.Pairwise fun x y => ι x < ι y)
 (k : ∀ Z : List (TE × G), Z.Perm X → Z.Pairwise (Bf κ ι) → K (arr H0 b sp (A ++ Z ++ D))) : Qp C s a e f K (arr H0 b sp (A ++ X ++ D)) := by
 have hsm := h.s.small
 subst ha; subst he
 apply Qaa
 unfold QE
 rw [Qi (by omega) (by omega)]
 by_cases hX : X = []
 ·subst hX
  refine ⟨fun x B => x = (A.length : Int) + 1 ∧ B = arr H0 b sp (A ++ [] ++ D), fun _ _ => 0, ⟨rfl, rfl⟩, ?_⟩
  rintro x B ⟨rfl, rfl⟩
  exact QA (decide_eq_false (by simp; omega)) (k [] (.refl _) .nil)
 obtain ⟨x0, X', rfl⟩ := List.exists_cons_of_ne_nil hX
 refine ⟨fun x B => ∃ Z Y0 Y : List (TE × G), x0 :: X' = Y0 ++ Y ∧ Z.Perm Y0 ∧ Z.Pairwise (Bf κ ι) ∧ 1 ≤ Z.length ∧ x = ((A.length + Z.length : Nat) : Int) ∧ B = arr H0 b sp (A ++ Z ++ Y ++ D), fun x _ => A.length + (x0 :: X').length - x.toNat,
  ⟨[x0], [x0], X', rfl, .refl _, List.pairwise_singleton _ _, by simp, by simp, by simp⟩, ?_⟩
 rintro x B ⟨Z, Y0, Y, hX, hp, hz, h1, rfl, rfl⟩
 have hpl := hp.length_eq
 have hxl : (x0 :: X').length = Y0.length + Y.length := by rw [hX, List.length_append]
 have hιY : Y0.Pairwise (fun x y => ι x < ι y) ∧ Y.Pairwise (fun x y => ι x < ι y) ∧ ∀ x ∈ Y0, ∀ y ∈ Y, ι x < ι y := by rw [hX] at hι; exact List.pairwise_append.1 hι
 refine ift.of (fun hc => ?_) (fun hc => ?_)
 ·have hc := of_decide_eq_true hc
  cases Y with
  | nil => simp only [List.length_nil] at hxl; omega
  | cons y Y' =>
  have hPZ : ∀ z ∈ Z, P z := fun z hz => hP z (by rw [hX]; exact List.mem_append_left _ (hp.mem_iff.1 hz))
  have hPy : P y := hP y (by rw [hX]; simp)
  have hιz : ∀ z ∈ Z, ι z < ι y := fun z hz => hιY.2.2 z (hp.mem_iff.1 hz) y (List.mem_cons_self ..)
  refine ⟨fun j B => ∃ Z1 Z2 : List (TE × G), Z = Z1 ++ Z2 ∧ (∀ z ∈ Z2, κ y z < 0) ∧ j = ((A.length + Z1.length : Nat) : Int) ∧ B = arr H0 b sp (A ++ Z1 ++ y :: (Z2 ++ Y' ++ D)), fun j _ => j.toNat,
   ⟨Z, [], by simp, fun z hz => (by cases hz), rfl, by simp⟩, ?_⟩
  rintro j B ⟨Z1, Z2, hZ, hy2, rfl, rfl⟩
  have hZl : Z.length = Z1.length + Z2.length := by rw [hZ, List.length_append]
  simp only [List.length_cons] at hxl hn
  refine ⟨fun c B => B = arr H0 b sp (A ++ Z1 ++ y :: (Z2 ++ Y' ++ D)) ∧ (c = true → ∃ Z1' z, Z1 = Z1' ++ [z] ∧ κ y z < 0) ∧ (c = false → Z1 = [] ∨ ∃ Z1' z, Z1 = Z1' ++ [z] ∧ ¬ κ y z < 0), ⟨_, Heap.le.refl _, ift.of (fun hj => ?_) (fun hj => ?_)⟩, ?_⟩
  ·have hj := of_decide_eq_true hj
   have hne : Z1 ≠ [] := fun e => by subst e; simp at hj
   obtain ⟨Z1', z, rfl⟩ := Qge hne
   have hzl1 : (Z1' ++ [z]).length = Z1'.length + 1 := by simp
   rw [hzl1] at hZl
   have ew : w .i64 (((A.length + (Z1' ++ [z]).length : Nat) : Int) - 1) = ((A.length + Z1'.length : Nat) : Int) := by
    rw [hzl1, Qi (by omega) (by omega)]; omega
   rw [ew]
   refine cmp0 h ?_ (A := A ++ (Z1' ++ [z])) (x := y) (D := Z2 ++ Y' ++ D) rfl (by simp) (A2 := A ++ Z1') (y := z) (D2 := y :: (Z2 ++ Y' ++ D)) (by simp) (by simp) hPy (hPZ z (by rw [hZ]; simp)) ⟨rfl, fun hd => ⟨_, _, rfl, of_decide_eq_true hd⟩, fun hd => .inr ⟨_, _, rfl, of_decide_eq_false hd⟩⟩
   simp only [List.length_append, List.length_cons, List.length_nil] at hZl ⊢
   omega
  ·have hj := of_decide_eq_false hj
   have hz1 : Z1 = [] := List.length_eq_zero_iff.1 (by omega)
   exact ⟨rfl, fun hd => (by cases hd), fun _ => .inl hz1⟩
  ·rintro c B ⟨rfl, ht, hff⟩
   refine ift.of (fun hc => ?_) (fun hc => ?_)
   ·obtain ⟨Z1', z, rfl, hlt⟩ := ht hc
    have hzl1 : (Z1' ++ [z]).length = Z1'.length + 1 := by simp
    rw [hzl1] at hZl
    have ew : w .i64 (((A.length + (Z1' ++ [z]).length : Nat) : Int) - 1) = ((A.length + Z1'.length : Nat) : Int) := by
     rw [hzl1, Qi (by omega) (by omega)]; omega
    rw [ew]
    refine ⟨fun _ B => B = arr H0 b sp ((A ++ Z1') ++ y :: ([] ++ z :: (Z2 ++ Y' ++ D))), ?_, ?_⟩
    ·show dr _ _
     refine swp2 (J := fun _ B => B = arr H0 b sp ((A ++ Z1') ++ y :: ([] ++ z :: (Z2 ++ Y' ++ D)))) h.s (A := A ++ Z1') (x := z) (B := []) (y := y) (D := Z2 ++ Y' ++ D) ?_ ?_ ?_ ?_ ?_
     ·simp only [List.length_append, List.length_nil]; omega
     ·simp
     ·simp
     ·simp; omega
     ·rfl
    rintro _ B rfl
    refine ⟨⟨Z1', z :: Z2, by rw [hZ]; simp, fun u hu => ?_, rfl, by simp⟩, ?_⟩
    ·rcases List.mem_cons.1 hu with rfl | hu
     ·exact hlt
     ·exact hy2 u hu
    ·simp only [List.length_append, List.length_singleton]; omega
   ·rw [Qi (by omega) (by omega)]
    have hz' : (Z1 ++ Z2).Pairwise (Bf κ ι) := hZ ▸ hz
    refine ⟨⟨Z1 ++ y :: Z2, Y0 ++ [y], Y', by rw [hX]; simp, ?_, ?_, by simp; omega, by simp; omega, by simp⟩, by simp only [List.length_cons]; omega⟩
    ·have : (Z1 ++ y :: Z2).Perm (y :: (Z1 ++ Z2)) := List.perm_middle
     refine this.trans ?_
     rw [← hZ]
     exact (List.Perm.cons y hp).trans (List.perm_append_comm (l₁ := [y]))
    ·refine ins2 h.lin hz' hPy (fun x hx => hPZ x (by rw [hZ]; exact hx)) ?_ hy2 (fun x hx => hιz x (by rw [hZ]; exact hx))
     rcases hff hc with rfl | ⟨Z1', z, rfl, hnl⟩
     ·intro x hx; cases hx
     ·intro x hx
      rcases List.mem_append.1 hx with hx | hx
      ·have hm1 : x ∈ Z := by rw [hZ]; simp [hx]
       have hm2 : z ∈ Z := by rw [hZ]; simp
       have hb : Bf κ ι x z := (List.pairwise_append.1 (List.pairwise_append.1 hz').1).2.2 x hx z (List.mem_singleton.2 rfl)
       have a1 := h.lin.anti y z hPy (hPZ z hm2)
       have a2 := h.lin.anti y x hPy (hPZ x hm1)
       have := (h.lin.tr x z y (hPZ x hm1) (hPZ z hm2) hPy hb.le (by omega)).1
       omega
      ·rw [List.mem_singleton.1 hx]; exact hnl
 ·have hc := of_decide_eq_false hc
  simp only [List.length_cons] at hxl hc
  have hY : Y = [] := List.length_eq_zero_iff.1 (by omega)
  subst hY
  rw [List.append_nil] at hX ⊢
  exact k Z (hX ▸ hp) hz
theorem QdJ {X M Y : List (TE × G)} {a c m : Int} {K : Heap → Prop} (h : Sls s b n) (hn : A.length + X.length + M.length + Y.length + D.length = n) (hxy : X.length = Y.length) (ha : a = (A.length : Int)) (hc : c = ((A.length + X.length + M.length : Nat) : Int)) (hm : m = (X.length : Int))
 (k : K (arr H0 b sp (A ++ Y ++ M ++ X ++ D))) : Qm C s a c m f K (arr H0 b sp (A ++ X ++ M ++ Y ++ D)) := by
 have hsm := h.small
 subst ha; subst hc; subst hm
 apply Qbd
 unfold Qaj
 refine ⟨fun x B => ∃ i : Nat, x = (i : Int) ∧ i ≤ X.length ∧ B = arr H0 b sp (A ++ (Y.take i ++ X.drop i) ++ M ++ (X.take i ++ Y.drop i) ++ D), fun x _ => X.length - x.toNat, ⟨0, rfl, Nat.zero_le _, by simp⟩, ?_⟩
 rintro x B ⟨i, rfl, hi, rfl⟩
 refine ift.of (fun hlt => ?_) (fun hlt => ?_)
 ·have hlt : i < X.length := by have := of_decide_eq_true hlt; omega
  have hlt2 : i < Y.length := by omega
  have w1 : w .i64 (((A.length + X.length + M.length : Nat) : Int) + (i : Int)) = ((A.length + X.length + M.length + i : Nat) : Int) := by rw [Qi (by omega) (by omega)]; omega
  have w2 : w .i64 ((A.length : Int) + (i : Int)) = ((A.length + i : Nat) : Int) := by rw [Qi (by omega) (by omega)]; omega
  rw [w1, w2]
  have dx := List.drop_eq_getElem_cons hlt
  have dy := List.drop_eq_getElem_cons hlt2
  have tx : X.take (i + 1) = X.take i ++ [X[i]] := by rw [List.take_add_one, List.getElem?_eq_getElem hlt]; rfl
  have ty : Y.take (i + 1) = Y.take i ++ [Y[i]] := by rw [List.take_add_one, List.getElem?_eq_getElem hlt2]; rfl
  have l1 : (Y.take i).length = i := by rw [List.length_take]; omega
  have l2 : (X.take i).length = i := by rw [List.length_take]; omega
  have l3 : (X.drop (i + 1)).length = X.length - (i + 1) := List.length_drop ..
  have l4 : (Y.drop (i + 1)).length = Y.length - (i + 1) := List.length_drop ..
  refine ⟨fun _ B => B = arr H0 b sp ((A ++ Y.take i) ++ Y[i] :: ((X.drop (i + 1) ++ M ++ X.take i) ++ X[i] :: (Y.drop (i + 1) ++ D))), ?_, ?_⟩
  ·show dr _ _
   refine swp1 (J := fun _ B => B = arr H0 b sp ((A ++ Y.take i) ++ Y[i] :: ((X.drop (i + 1) ++ M ++ X.take i) ++ X[i] :: (Y.drop (i + 1) ++ D)))) h (A := A ++ Y.take i) (x := X[i]) (y := Y[i]) (B := X.drop (i + 1) ++ M ++ X.take i) (D := Y.drop (i + 1) ++ D) ?_ ?_ ?_ ?_ rfl
   ·simp only [List.length_append, l1, l2, l3]; omega
   ·rw [dx, dy]; simp only [List.append_assoc, List.cons_append]
   ·simp only [List.length_append, l1]
   ·simp only [List.length_append, l1, l2, l3]; omega
  rintro _ B rfl
  rw [Qi (by omega) (by omega)]
  refine ⟨⟨i + 1, by omega, by omega, ?_⟩, by first | omega | (dsimp only; omega)⟩
  rw [tx, ty]; simp only [List.append_assoc, List.cons_append, List.nil_append, List.singleton_append]
 ·have hie : i = X.length := by have := of_decide_eq_false hlt; omega
  subst hie
  rw [List.take_length, List.drop_length, hxy, List.take_length, List.drop_length, List.append_nil, List.append_nil]
  exact k
theorem Qix {X Y : List (TE × G)} {a m e : Int} {K : Heap → Prop} (h : Sls s b n) (hn : A.length + X.length + Y.length + D.length = n) (hX : X ≠ []) (hY : Y ≠ []) (ha : a = (A.length : Int)) (hm : m = ((A.length + X.length : Nat) : Int)) (he : e = ((A.length + X.length + Y.length : Nat) : Int))
 (k : K (arr H0 b sp (A ++ Y ++ X ++ D))) : Q3 C s a m e f K (arr H0 b sp (A ++ X ++ Y ++ D)) := by
 have hsm := h.small
 have px : 0 < X.length := List.length_pos_iff.2 hX
 have py : 0 < Y.length := List.length_pos_iff.2 hY
 subst ha; subst hm; subst he
 apply Qbx
 unfold QaD
 have w1 : w .i64 (((A.length + X.length : Nat) : Int) - (A.length : Int)) = ((X.length : Nat) : Int) := by rw [Qi (by omega) (by omega)]; omega
 have w2 : w .i64 (((A.length + X.length + Y.length : Nat) : Int) - ((A.length + X.length : Nat) : Int)) = ((Y.length : Nat) : Int) := by rw [Qi (by omega) (by omega)]; omega
 rw [w1, w2]
 refine ⟨fun x B => ∃ P U V S : List (TE × G), x = (((U.length : Nat) : Int), ((V.length : Nat) : Int)) ∧ B = arr H0 b sp (P ++ U ++ V ++ S) ∧ A ++ Y ++ X ++ D = P ++ V ++ U ++ S ∧ P.length + U.length = A.length + X.length ∧ P.length + U.length + V.length + S.length = n ∧ 0 < U.length ∧ 0 < V.length,
  fun x _ => x.1.toNat + x.2.toNat, ⟨A, X, Y, D, rfl, rfl, rfl, rfl, by omega, px, py⟩, ?_⟩
 rintro x B ⟨P, U, V, S, rfl, rfl, hT, hl, hl2, pu, pv⟩
 have w3 : w .i64 (((A.length + X.length : Nat) : Int) - ((U.length : Nat) : Int)) = ((P.length : Nat) : Int) := by rw [Qi (by omega) (by omega)]; omega
 dsimp only
 rw [w3]
 refine ift.of (fun hne => ?_) (fun heq => ?_)
 ·have hne : U.length ≠ V.length := fun e => by rw [e] at hne; simp at hne
  refine ift.of (fun hgt => ?_) (fun hgt => ?_)
  ·have hgt : V.length < U.length := by have := of_decide_eq_true hgt; omega
   -- U = U1 ++ U2
   have hU : U = U.take V.length ++ U.drop V.length := (List.take_append_drop ..).symm
   have l1 : (U.take V.length).length = V.length := by rw [List.length_take]; omega
   have l2 : (U.drop V.length).length = U.length - V.length := List.length_drop ..
   generalize U.take V.length = U1 at *
   generalize U.drop V.length = U2 at *
   subst hU
   simp only [List.length_append] at hl hl2 pu hne hgt
   have e0 : P ++ (U1 ++ U2) ++ V ++ S = P ++ U1 ++ U2 ++ V ++ S := by simp only [List.append_assoc]
   rw [e0]
   refine QdJ h (A := P) (X := U1) (M := U2) (Y := V) (D := S) (by omega) (by omega) rfl (by omega) (by omega) ?_
   rw [Qi (by simp only [List.length_append]; omega) (by simp only [List.length_append]; omega)]
   refine ⟨⟨P ++ V, U2, U1, S, ?_, by simp only [List.append_assoc], by rw [hT]; simp only [List.append_assoc], by simp only [List.length_append]; omega, by simp only [List.length_append]; omega, by omega, by omega⟩, ?_⟩
   ·simp only [List.length_append, Prod.mk.injEq]; omega
   ·simp only [List.length_append]; omega
  ·have hgt : U.length < V.length := by have := of_decide_eq_false hgt; omega
   have hV : V = V.take (V.length - U.length) ++ V.drop (V.length - U.length) := (List.take_append_drop ..).symm
   have l1 : (V.take (V.length - U.length)).length = V.length - U.length := by rw [List.length_take]; omega
   have l2 : (V.drop (V.length - U.length)).length = U.length := by rw [List.length_drop]; omega
   have w4 : w .i64 (w .i64 (((A.length + X.length : Nat) : Int) + ((V.length : Nat) : Int)) - ((U.length : Nat) : Int)) = ((P.length + U.length + (V.length - U.length) : Nat) : Int) := by
    rw [Qi (x := ((A.length + X.length : Nat) : Int) + ((V.length : Nat) : Int)) (by omega) (by omega), Qi (by omega) (by omega)]; omega
   rw [w4]
   generalize V.take (V.length - U.length) = V1 at *
   generalize V.drop (V.length - U.length) = V2 at *
   have l3 : V.length = V1.length + V2.length := by omega
   have e0 : P ++ U ++ V ++ S = P ++ U ++ V1 ++ V2 ++ S := by rw [hV]; simp only [List.append_assoc]
   rw [e0]
   refine QdJ h (A := P) (X := U) (M := V1) (Y := V2) (D := S) (by omega) (by omega) rfl (by omega) rfl ?_
   rw [Qi (by omega) (by omega)]
   refine ⟨⟨P, V2, V1, U ++ S, ?_, by simp only [List.append_assoc], by rw [hT, hV]; simp only [List.append_assoc], by omega, by simp only [List.length_append]; omega, by omega, by omega⟩, ?_⟩
   ·simp only [Prod.mk.injEq]; omega
   ·first | omega | (dsimp only; omega)
 ·have heq : U.length = V.length := by
   have : ((U.length : Nat) : Int) = ((V.length : Nat) : Int) := by simpa using heq
   omega
  have e0 : P ++ U ++ V ++ S = P ++ U ++ [] ++ V ++ S := by simp only [List.append_assoc, List.nil_append]
  rw [e0]
  refine QdJ h (A := P) (X := U) (M := []) (Y := V) (D := S) (by simp only [List.length_nil]; omega) heq rfl (by simp only [List.length_nil]; omega) rfl ?_
  rw [hT] at k
  simpa only [List.append_assoc, List.nil_append] using k
theorem pr {a b c d : Int} (h1 : a = c) (h2 : b = d) : (a, b) = (c, d) := by rw [h1, h2]
theorem Qib {a f x c : Nat} (hc : c < f) (h1 : a + x ≤ 281474976710656) (h2 : f ≤ 281474976710656) : w .i64 (((a + f + (a + x) - 1 : Nat) : Int) - ((a + c : Nat) : Int)) = ((a + x + (f - 1 - c) : Nat) : Int) := by
 have e1 : a + f + (a + x) - 1 = a + x + (f - 1 - c) + (a + c) := by omega
 rw [e1, Qi (by omega) (by omega)]; omega
/-- what is found by halving -/
theorem Qhk (h : Where C H0 R s b n f P κ) : ∀ (N : Nat) {X Y A D : List (TE × G)} {a m e : Int} {K : Heap → Prop}, X.length + Y.length ≤ N → X ≠ [] → Y ≠ [] → a = (A.length : Int) → m = ((A.length + X.length : Nat) : Int) → e = ((A.length + X.length + Y.length : Nat) : Int) → A.length + X.length + Y.length + D.length = n →
 (∀ x ∈ X ++ Y, P x) → X.Pairwise (Bf κ ι) → Y.Pairwise (Bf κ ι) → (∀ x ∈ X, ∀ y ∈ Y, ι x < ι y) → (∀ Z : List (TE × G), Z.Perm (X ++ Y) → Z.Pairwise (Bf κ ι) → K (arr H0 b sp (A ++ Z ++ D))) → Qh C s a m e f K (arr H0 b sp (A ++ X ++ Y ++ D)) := by
 have hsm := h.s.small
 intro N
 induction N with
 | zero => intro X Y A D a m e K hN hX; have := List.length_pos_iff.2 hX; omega
 | succ N ih =>
 intro X Y A D a m e K hN hX hY ha hm he hn hP sX sY hι k
 have px : 0 < X.length := List.length_pos_iff.2 hX
 have py : 0 < Y.length := List.length_pos_iff.2 hY
 have hPX : ∀ x ∈ X, P x := fun x hx => hP x (List.mem_append_left _ hx)
 have hPY : ∀ y ∈ Y, P y := fun y hy => hP y (List.mem_append_right _ hy)
 subst ha; subst hm; subst he
 apply Qbk
 unfold Qao
 have w1 : w .i64 (((A.length + X.length : Nat) : Int) - (A.length : Int)) = ((X.length : Nat) : Int) := by rw [Qi (by omega) (by omega)]; omega
 have w2 : w .i64 (((A.length + X.length + Y.length : Nat) : Int) - ((A.length + X.length : Nat) : Int)) = ((Y.length : Nat) : Int) := by rw [Qi (by omega) (by omega)]; omega
 rw [w1, w2]
 refine ift.of (fun hone => ?_) (fun hone => ?_)
 ·-- one ahead of many
  have hx1 : X.length = 1 := by
   have : ((X.length : Nat) : Int) = 1 := by simpa using hone
   omega
  obtain ⟨x, rfl⟩ := List.length_eq_one_iff.1 hx1
  have hPx : P x := hPX x (List.mem_cons_self ..)
  refine ⟨fun y B => B = arr H0 b sp (A ++ [x] ++ Y ++ D) ∧ ∃ i j : Nat, y = (((A.length + 1 + i : Nat) : Int), ((A.length + 1 + j : Nat) : Int)) ∧ i ≤ j ∧ j ≤ Y.length ∧ (∀ y ∈ Y.take i, κ y x < 0) ∧ (∀ y ∈ Y.drop j, ¬ κ y x < 0), fun y _ => (y.2 - y.1).toNat,
   ⟨rfl, 0, Y.length, by simp, Nat.zero_le _, Nat.le_refl _, fun y hy => by simp at hy, fun y hy => by simp at hy⟩, ?_⟩
  rintro _ B ⟨rfl, i, j, rfl, hij, hj, hlo, hhi⟩
  dsimp only
  refine ift.of (fun hlt => ?_) (fun hlt => ?_)
  ·have hlt : i < j := by have := of_decide_eq_true hlt; omega
   rw [Qc2 (by omega)]
   have hh : (A.length + 1 + i + (A.length + 1 + j)) / 2 = A.length + 1 + (i + j) / 2 := by omega
   rw [hh]
   have hc1 : i ≤ (i + j) / 2 := by omega
   have hc2 : (i + j) / 2 < j := by omega
   generalize (i + j) / 2 = c at *
   have hcl : c < Y.length := by omega
   have hPc := hPY _ (List.getElem_mem hcl)
   have hpm := QcT sY hcl
   have eY := Qev hcl
   have lt : (Y.take c).length = c := by rw [List.length_take]; omega
   refine ⟨_, Heap.le.refl _, ?_⟩
   refine cmp0 h (by simp only [List.length_append]; omega) (A := A ++ [x] ++ Y.take c) (x := Y[c]) (D := Y.drop (c + 1) ++ D) ?_ ?_ (A2 := A) (y := x) (D2 := Y ++ D) (by simp) rfl hPc hPx ?_
   ·conv => lhs; rw [eY]
    simp only [List.append_assoc, List.cons_append]
   ·simp only [List.length_append, List.length_singleton, lt]
   refine ift.of (fun hd => ?_) (fun hd => ?_)
   ·have hd := of_decide_eq_true hd
    rw [Qi (by omega) (by omega)]
    refine ⟨⟨rfl, c + 1, j, pr (by omega) (by omega), by omega, hj, fun y hy => ?_, hhi⟩, by first | omega | (dsimp only; omega)⟩
    rw [List.take_add_one, List.getElem?_eq_getElem hcl, Option.toList_some] at hy
    rcases List.mem_append.1 hy with hy | hy
    ·exact (h.lin.tr y Y[c] x (hPY y (QP hy)) hPc hPx (hpm.1 y hy).le (by omega)).2 (.inr hd)
    ·rw [List.mem_singleton.1 hy]; exact hd
   ·have hd := of_decide_eq_false hd
    refine ⟨⟨rfl, i, c, rfl, hc1, by omega, hlo, fun y hy => ?_⟩, by first | omega | (dsimp only; omega)⟩
    rw [List.drop_eq_getElem_cons hcl] at hy
    rcases List.mem_cons.1 hy with rfl | hy
    ·exact hd
    ·intro hyx
     have hb := (hpm.2 y hy).le
     exact hd ((h.lin.tr Y[c] y x hPc (hPY y (Qap hy)) hPx hb (by omega)).2 (.inr hyx))
  ·have hij : i = j := by have := of_decide_eq_false hlt; omega
   subst hij
   have w3 : w .i64 (((A.length + 1 + i : Nat) : Int) - 1) = ((A.length + i : Nat) : Int) := by rw [Qi (by omega) (by omega)]; omega
   have hY12 : Y = Y.take i ++ Y.drop i := (List.take_append_drop ..).symm
   have l1 : (Y.take i).length = i := by rw [List.length_take]; omega
   have l2 : (Y.drop i).length = Y.length - i := List.length_drop ..
   have fin : K (arr H0 b sp (A ++ (Y.take i ++ x :: Y.drop i) ++ D)) := by
    refine k _ ?_ (ins1 h.lin (by rw [← hY12]; exact sY) hPx (by rw [← hY12]; exact hPY) hlo hhi (by rw [← hY12]; exact fun y hy => hι x (List.mem_cons_self ..) y hy))
    have p1 : (Y.take i ++ x :: Y.drop i).Perm (x :: (Y.take i ++ Y.drop i)) := List.perm_middle
    rw [← hY12] at p1
    exact p1
   generalize Y.take i = Y1 at *
   generalize Y.drop i = Y2 at *
   subst hY12
   rw [w3]
   refine ⟨fun y B => ∃ U V : List (TE × G), Y1 = U ++ V ∧ y = ((A.length + U.length : Nat) : Int) ∧ B = arr H0 b sp (A ++ U ++ x :: (V ++ Y2 ++ D)), fun y _ => A.length + i - y.toNat, ⟨[], Y1, rfl, by simp, by simp only [List.append_assoc, List.cons_append, List.nil_append, List.append_nil, List.singleton_append]⟩, ?_⟩
   rintro y B ⟨U, V, rfl, rfl, rfl⟩
   simp only [List.length_append] at l1 hn hj
   refine ift.of (fun hlt => ?_) (fun hlt => ?_)
   ·have hlt := of_decide_eq_true hlt
    cases V with
    | nil => simp only [List.length_nil] at l1; omega
    | cons v V =>
    simp only [List.length_cons] at l1 hn
    have w4 : w .i64 (((A.length + U.length : Nat) : Int) + 1) = ((A.length + U.length + 1 : Nat) : Int) := by rw [Qi (by omega) (by omega)]; omega
    rw [w4]
    refine ⟨fun _ B => B = arr H0 b sp ((A ++ U) ++ v :: ([] ++ x :: (V ++ Y2 ++ D))), ?_, ?_⟩
    ·show dr _ _
     refine swp1 (J := fun _ B => B = arr H0 b sp ((A ++ U) ++ v :: ([] ++ x :: (V ++ Y2 ++ D)))) h.s (A := A ++ U) (x := x) (B := []) (y := v) (D := V ++ Y2 ++ D) ?_ ?_ ?_ ?_ rfl
     ·first | (simp only [List.length_append, List.length_nil]; done) | (simp only [List.length_append, List.length_nil]; omega)
     ·simp only [List.append_assoc, List.cons_append, List.nil_append]
     ·simp only [List.length_append]
     ·first | (simp only [List.length_append, List.length_nil]; done) | (simp only [List.length_append, List.length_nil]; omega)
    rintro _ B rfl
    refine ⟨⟨U ++ [v], V, by simp, by simp only [List.length_append, List.length_singleton]; omega, by simp only [List.append_assoc, List.cons_append, List.nil_append, List.singleton_append]⟩, by first | omega | (dsimp only; omega)⟩
   ·have hlt := of_decide_eq_false hlt
    have hV : V = [] := List.length_eq_zero_iff.1 (by omega)
    subst hV
    simpa only [List.append_assoc, List.cons_append, List.nil_append, List.append_nil] using fin
 refine ift.of (fun hone2 => ?_) (fun hone2 => ?_)
 ·-- many ahead of one
  have hy1 : Y.length = 1 := by
   have : ((Y.length : Nat) : Int) = 1 := by simpa using hone2
   omega
  obtain ⟨y, rfl⟩ := List.length_eq_one_iff.1 hy1
  have hPy : P y := hPY y (List.mem_cons_self ..)
  refine ⟨fun z B => B = arr H0 b sp (A ++ X ++ [y] ++ D) ∧ ∃ i j : Nat, z = (((A.length + i : Nat) : Int), ((A.length + j : Nat) : Int)) ∧ i ≤ j ∧ j ≤ X.length ∧ (∀ x ∈ X.take i, ¬ κ y x < 0) ∧ (∀ x ∈ X.drop j, κ y x < 0), fun z _ => (z.2 - z.1).toNat,
   ⟨rfl, 0, X.length, by simp, Nat.zero_le _, Nat.le_refl _, fun y hy => by simp at hy, fun y hy => by simp at hy⟩, ?_⟩
  rintro _ B ⟨rfl, i, j, rfl, hij, hj, hlo, hhi⟩
  dsimp only
  refine ift.of (fun hlt => ?_) (fun hlt => ?_)
  ·have hlt : i < j := by have := of_decide_eq_true hlt; omega
   rw [Qc2 (by omega)]
   have hh : (A.length + i + (A.length + j)) / 2 = A.length + (i + j) / 2 := by omega
   rw [hh]
   have hc1 : i ≤ (i + j) / 2 := by omega
   have hc2 : (i + j) / 2 < j := by omega
   generalize (i + j) / 2 = c at *
   have hcl : c < X.length := by omega
   have hPc := hPX _ (List.getElem_mem hcl)
   have hpm := QcT sX hcl
   have eX := Qev hcl
   have lt : (X.take c).length = c := by rw [List.length_take]; omega
   refine ⟨_, Heap.le.refl _, ?_⟩
   refine cmp0 h (by simp only [List.length_append]; omega) (A := A ++ X) (x := y) (D := D) (by simp) (by simp) (A2 := A ++ X.take c) (y := X[c]) (D2 := X.drop (c + 1) ++ [y] ++ D) ?_ ?_ hPy hPc ?_
   ·conv => lhs; rw [eX]
    simp only [List.append_assoc, List.cons_append]
   ·simp only [List.length_append, lt]
   refine ift.of (fun hd => ?_) (fun hd => ?_)
   ·have hd : ¬ κ y X[c] < 0 := by simpa using hd
    rw [Qi (by omega) (by omega)]
    refine ⟨⟨rfl, c + 1, j, pr (by omega) (by omega), by omega, hj, fun x hx => ?_, hhi⟩, by first | omega | (dsimp only; omega)⟩
    rw [List.take_add_one, List.getElem?_eq_getElem hcl, Option.toList_some] at hx
    rcases List.mem_append.1 hx with hx | hx
    ·intro hyx
     exact hd ((h.lin.tr y x X[c] hPy (hPX x (QP hx)) hPc (by omega) (hpm.1 x hx).le).2 (.inl hyx))
    ·rw [List.mem_singleton.1 hx]; exact hd
   ·have hd : κ y X[c] < 0 := by simpa using hd
    refine ⟨⟨rfl, i, c, rfl, hc1, by omega, hlo, fun x hx => ?_⟩, by first | omega | (dsimp only; omega)⟩
    rw [List.drop_eq_getElem_cons hcl] at hx
    rcases List.mem_cons.1 hx with rfl | hx
    ·exact hd
    ·exact (h.lin.tr y X[c] x hPy hPc (hPX x (Qap hx)) (by omega) (hpm.2 x hx).le).2 (.inl hd)
  ·have hij : i = j := by have := of_decide_eq_false hlt; omega
   subst hij
   have hX12 : X = X.take i ++ X.drop i := (List.take_append_drop ..).symm
   have l1 : (X.take i).length = i := by rw [List.length_take]; omega
   have fin : K (arr H0 b sp (A ++ (X.take i ++ y :: X.drop i) ++ D)) := by
    refine k _ ?_ (ins2 h.lin (by rw [← hX12]; exact sX) hPy (by rw [← hX12]; exact hPX) hlo hhi (by rw [← hX12]; exact fun x hx => hι x hx y (List.mem_cons_self ..)))
    have p1 : (X.take i ++ y :: X.drop i).Perm (y :: (X.take i ++ X.drop i)) := List.perm_middle
    rw [← hX12] at p1
    exact p1.trans (List.perm_append_comm (l₁ := [y]))
   generalize X.take i = X1 at *
   generalize X.drop i = X2 at *
   subst hX12
   refine ⟨fun z B => ∃ U V : List (TE × G), X2 = U ++ V ∧ z = ((A.length + i + U.length : Nat) : Int) ∧ B = arr H0 b sp (A ++ X1 ++ U ++ y :: (V ++ D)), fun z _ => z.toNat, ⟨X2, [], by simp, by simp only [List.length_append]; omega, by simp only [List.append_assoc, List.cons_append, List.nil_append, List.append_nil, List.singleton_append]⟩, ?_⟩
   rintro z B ⟨U, V, rfl, rfl, rfl⟩
   simp only [List.length_append, List.length_singleton] at l1 hn hj
   refine ift.of (fun hlt => ?_) (fun hlt => ?_)
   ·have hlt := of_decide_eq_true hlt
    have hne : U ≠ [] := fun e => by subst e; simp at hlt
    obtain ⟨U', u, rfl⟩ := Qge hne
    simp only [List.length_append, List.length_singleton] at hn hlt ⊢
    have w4 : w .i64 (((A.length + i + (U'.length + 1) : Nat) : Int) - 1) = ((A.length + i + U'.length : Nat) : Int) := by rw [Qi (by omega) (by omega)]; omega
    rw [w4]
    refine ⟨fun _ B => B = arr H0 b sp ((A ++ X1 ++ U') ++ y :: ([] ++ u :: (V ++ D))), ?_, ?_⟩
    ·show dr _ _
     refine swp2 (J := fun _ B => B = arr H0 b sp ((A ++ X1 ++ U') ++ y :: ([] ++ u :: (V ++ D)))) h.s (A := A ++ X1 ++ U') (x := u) (B := []) (y := y) (D := V ++ D) ?_ ?_ ?_ ?_ rfl
     ·first | (simp only [List.length_append, List.length_nil]; done) | (simp only [List.length_append, List.length_nil]; omega)
     ·simp only [List.append_assoc, List.cons_append, List.nil_append]
     ·simp only [List.length_append]; omega
     ·first | (simp only [List.length_append, List.length_nil]; done) | (simp only [List.length_append, List.length_nil]; omega)
    rintro _ B rfl
    refine ⟨⟨U', u :: V, by simp, rfl, by simp only [List.append_assoc, List.cons_append, List.nil_append]⟩, by first | omega | (dsimp only; omega)⟩
   ·have hlt := of_decide_eq_false hlt
    have hU : U = [] := List.length_eq_zero_iff.1 (by omega)
    subst hU
    simpa only [List.append_assoc, List.cons_append, List.nil_append, List.append_nil] using fin
 -- many and many
 have hx2 : X.length ≠ 1 := fun e => by rw [e] at hone; simp at hone
 have hy2 : Y.length ≠ 1 := fun e => by rw [e] at hone2; simp at hone2
 clear hone hone2
 have hmid : w .i64 (sShr .u64 (w .u64 (w .i64 ((A.length : Int) + ((A.length + X.length + Y.length : Nat) : Int)))) 1) = ((A.length + (X.length + Y.length) / 2 : Nat) : Int) := by
  rw [Qc2 (by omega)]; omega
 rw [hmid]
 have hf1 : 2 ≤ (X.length + Y.length) / 2 := by omega
 have hf2 : 2 * ((X.length + Y.length) / 2) ≤ X.length + Y.length := by omega
 have hf3 : X.length + Y.length ≤ 2 * ((X.length + Y.length) / 2) + 1 := by omega
 generalize (X.length + Y.length) / 2 = F at *
 have wn : w .i64 (((A.length + F : Nat) : Int) + ((A.length + X.length : Nat) : Int)) = ((A.length + F + (A.length + X.length) : Nat) : Int) := by rw [Qi (by omega) (by omega)]; omega
 have wp : w .i64 (((A.length + F + (A.length + X.length) : Nat) : Int) - 1) = ((A.length + F + (A.length + X.length) - 1 : Nat) : Int) := by rw [Qi (by omega) (by omega)]; omega
 rw [wn, wp]
 have ws : w .i64 (((A.length + F + (A.length + X.length) : Nat) : Int) - ((A.length + X.length + Y.length : Nat) : Int)) = ((A.length + F : Nat) : Int) - ((Y.length : Nat) : Int) := by rw [Qi (by omega) (by omega)]; omega
 rw [ws]
 -- from where to where
 refine ⟨fun x B => B = arr H0 b sp (A ++ X ++ Y ++ D) ∧ ∃ lo hi : Nat, x = (((A.length + lo : Nat) : Int), ((A.length + hi : Nat) : Int)) ∧ lo ≤ hi ∧ hi ≤ X.length ∧ hi ≤ F ∧ F ≤ lo + Y.length ∧ (lo = 0 ∨ F = lo + Y.length) ∧ (hi = X.length ∨ hi = F), ift.of (fun hgt => ?_) (fun hgt => ?_), ?_⟩
 ·have hgt := of_decide_eq_true hgt
  exact ⟨rfl, F - Y.length, F, pr (by omega) (by omega), by omega, by omega, by omega, by omega, .inr (by omega), .inr rfl⟩
 ·have hgt := of_decide_eq_false hgt
  exact ⟨rfl, 0, X.length, pr (by omega) (by omega), by omega, by omega, by omega, by omega, .inl rfl, .inl rfl⟩
 rintro _ B ⟨rfl, lo, hi, rfl, hlh, hhX, hhF, hFl, hlo, hhi⟩
 have idx : ∀ c : Nat, c < X.length → c < F → F < c + 1 + Y.length → F - 1 - c < Y.length := fun c _ _ _ => by omega
 refine ⟨fun x B => B = arr H0 b sp (A ++ X ++ Y ++ D) ∧ ∃ i j : Nat, x = (((A.length + i : Nat) : Int), ((A.length + j : Nat) : Int)) ∧ lo ≤ i ∧ i ≤ j ∧ j ≤ hi ∧
  (lo < i → ∃ x y, X[i - 1]? = some x ∧ Y[F - i]? = some y ∧ ¬ κ y x < 0) ∧ (j < hi → ∃ x y, X[j]? = some x ∧ Y[F - 1 - j]? = some y ∧ κ y x < 0), fun x _ => (x.2 - x.1).toNat,
  ⟨rfl, lo, hi, rfl, Nat.le_refl _, hlh, Nat.le_refl _, fun hh => absurd hh (Nat.lt_irrefl _), fun hh => absurd hh (Nat.lt_irrefl _)⟩, ?_⟩
 rintro _ B ⟨rfl, i, j, rfl, hli, hij, hjh, hA, hB⟩
 dsimp only
 refine ift.of (fun hlt => ?_) (fun hlt => ?_)
 ·have hlt : i < j := by have := of_decide_eq_true hlt; omega
  rw [Qc2 (by omega)]
  have hh : (A.length + i + (A.length + j)) / 2 = A.length + (i + j) / 2 := by omega
  rw [hh]
  have hc1 : i ≤ (i + j) / 2 := by omega
  have hc2 : (i + j) / 2 < j := by omega
  generalize (i + j) / 2 = c at *
  have hcX : c < X.length := by omega
  have hcY : F - 1 - c < Y.length := by omega
  have wq : w .i64 (((A.length + F + (A.length + X.length) - 1 : Nat) : Int) - ((A.length + c : Nat) : Int)) = ((A.length + X.length + (F - 1 - c) : Nat) : Int) := by
   have hcF : c < F := by omega
   exact Qib hcF (by omega) (by omega)
  rw [wq]
  have eX := Qev hcX
  have eY := Qev hcY
  have ltX : (X.take c).length = c := by rw [List.length_take]; omega
  have ltY : (Y.take (F - 1 - c)).length = F - 1 - c := by rw [List.length_take]; omega
  refine ⟨_, Heap.le.refl _, ?_⟩
  refine cmp0 h (by simp only [List.length_append]; omega) (A := A ++ X ++ Y.take (F - 1 - c)) (x := Y[F - 1 - c]) (D := Y.drop (F - 1 - c + 1) ++ D) ?_ ?_ (A2 := A ++ X.take c) (y := X[c]) (D2 := X.drop (c + 1) ++ Y ++ D) ?_ ?_ (hPY _ (List.getElem_mem hcY)) (hPX _ (List.getElem_mem hcX)) ?_
  ·conv => lhs; rw [eY]
   simp only [List.append_assoc, List.cons_append]
  ·simp only [List.length_append, ltY]
  ·conv => lhs; rw [eX]
   simp only [List.append_assoc, List.cons_append]
  ·simp only [List.length_append, ltX]
  refine ift.of (fun hd => ?_) (fun hd => ?_)
  ·have hd : ¬ κ Y[F - 1 - c] X[c] < 0 := by simpa using hd
   rw [Qi (by omega) (by omega)]
   refine ⟨⟨rfl, c + 1, j, pr (by omega) (by omega), by omega, by omega, hjh, fun _ => ⟨X[c], Y[F - 1 - c], List.getElem?_eq_getElem hcX, ?_, hd⟩, hB⟩, by first | omega | (dsimp only; omega)⟩
   rw [show F - (c + 1) = F - 1 - c by omega]; exact List.getElem?_eq_getElem hcY
  ·have hd : κ Y[F - 1 - c] X[c] < 0 := by simpa using hd
   exact ⟨⟨rfl, i, c, rfl, hli, hc1, by omega, hA, fun _ => ⟨X[c], Y[F - 1 - c], List.getElem?_eq_getElem hcX, List.getElem?_eq_getElem hcY, hd⟩⟩, by first | omega | (dsimp only; omega)⟩
 ·have hij : i = j := by have := of_decide_eq_false hlt; omega
  subst hij
  have we : w .i64 (((A.length + F + (A.length + X.length) : Nat) : Int) - ((A.length + i : Nat) : Int)) = ((A.length + X.length + (F - i) : Nat) : Int) := by rw [Qi (by omega) (by omega)]; omega
  rw [we]
  have hFi : F - i ≤ Y.length := by omega
  have spX := Qdg sX i
  have spY := Qdg sY (F - i)
  have eX : X = X.take i ++ X.drop i := (List.take_append_drop ..).symm
  have eY : Y = Y.take (F - i) ++ Y.drop (F - i) := (List.take_append_drop ..).symm
  have l1 : (X.take i).length = i := by rw [List.length_take]; omega
  have l2 : (X.drop i).length = X.length - i := List.length_drop ..
  have l3 : (Y.take (F - i)).length = F - i := by rw [List.length_take]; omega
  have l4 : (Y.drop (F - i)).length = Y.length - (F - i) := List.length_drop ..
  -- what is ahead stands ahead
  have c1 : ∀ x ∈ X.take i, ∀ y ∈ Y.drop (F - i), Bf κ ι x y := by
   intro x hx y hy
   rcases Nat.lt_or_ge lo i with hlt | hge
   ·obtain ⟨x0, y0, hx0, hy0, hn0⟩ := hA hlt
    have hx0l : i - 1 < X.length := by omega
    obtain ⟨hy0l, hy0e⟩ := List.getElem?_eq_some_iff.1 hy0
    obtain ⟨_, hx0e⟩ := List.getElem?_eq_some_iff.1 hx0
    have m1 : x0 ∈ X := hx0e ▸ List.getElem_mem hx0l
    have m2 : y0 ∈ Y := hy0e ▸ List.getElem_mem hy0l
    have a1 : κ x x0 ≤ 0 := by
     have hx' : x ∈ X.take (i - 1 + 1) := by rw [show i - 1 + 1 = i by omega]; exact hx
     rw [List.take_add_one, hx0, Option.toList_some] at hx'
     rcases List.mem_append.1 hx' with hx' | hx'
     ·have := ((QcT sX hx0l).1 x hx').le; rw [hx0e] at this; exact this
     ·rw [List.mem_singleton.1 hx', h.lin.refl (hPX x0 m1)]; omega
    have a2 : κ y0 y ≤ 0 := by
     rw [List.drop_eq_getElem_cons hy0l, hy0e] at hy
     rcases List.mem_cons.1 hy with rfl | hy
     ·rw [h.lin.refl (hPY y m2)]; omega
     ·have := ((QcT sY hy0l).2 y hy).le; rw [hy0e] at this; exact this
    have a3 := h.lin.anti y0 x0 (hPY y0 m2) (hPX x0 m1)
    have a4 := (h.lin.tr x x0 y0 (hPX x (QP hx)) (hPX x0 m1) (hPY y0 m2) a1 (by omega)).1
    have a5 := (h.lin.tr x y0 y (hPX x (QP hx)) (hPY y0 m2) (hPY y (Qap hy)) a4 a2).1
    exact Bf.of a5 (hι x (QP hx) y (Qap hy))
   ·rcases hlo with h0 | h0
    ·have : i = 0 := by omega
     rw [this] at hx; simp at hx
    ·have : (Y.drop (F - i)).length = 0 := by omega
     rw [List.length_eq_zero_iff.1 this] at hy; cases hy
  have c2 : ∀ y ∈ Y.take (F - i), ∀ x ∈ X.drop i, Bf κ ι y x := by
   intro y hy x hx
   rcases Nat.lt_or_ge i hi with hlt | hge
   ·obtain ⟨x0, y0, hx0, hy0, hn0⟩ := hB hlt
    obtain ⟨hy0l, hy0e⟩ := List.getElem?_eq_some_iff.1 hy0
    obtain ⟨hx0l, hx0e⟩ := List.getElem?_eq_some_iff.1 hx0
    have m1 : x0 ∈ X := hx0e ▸ List.getElem_mem hx0l
    have m2 : y0 ∈ Y := hy0e ▸ List.getElem_mem hy0l
    have a1 : κ y y0 ≤ 0 := by
     have hy' : y ∈ Y.take (F - 1 - i + 1) := by rw [show F - 1 - i + 1 = F - i by omega]; exact hy
     rw [List.take_add_one, hy0, Option.toList_some] at hy'
     rcases List.mem_append.1 hy' with hy' | hy'
     ·have := ((QcT sY hy0l).1 y hy').le; rw [hy0e] at this; exact this
     ·rw [List.mem_singleton.1 hy', h.lin.refl (hPY y0 m2)]; omega
    have a2 : κ x0 x ≤ 0 := by
     rw [List.drop_eq_getElem_cons hx0l, hx0e] at hx
     rcases List.mem_cons.1 hx with rfl | hx
     ·rw [h.lin.refl (hPX x m1)]; omega
     ·have := ((QcT sX hx0l).2 x hx).le; rw [hx0e] at this; exact this
    have a4 := (h.lin.tr y y0 x0 (hPY y (QP hy)) (hPY y0 m2) (hPX x0 m1) a1 (by omega)).2 (.inr hn0)
    exact .inl ((h.lin.tr y x0 x (hPY y (QP hy)) (hPX x0 m1) (hPX x (Qap hx)) (by omega) a2).2 (.inl a4))
   ·rcases hhi with h0 | h0
    ·have : (X.drop i).length = 0 := by omega
     rw [List.length_eq_zero_iff.1 this] at hx; cases hx
    ·have : F - i = 0 := by omega
     rw [this] at hy; simp at hy
  have hP1 : ∀ x ∈ X.take i ++ Y.take (F - i), P x := fun x hx => by
   rcases List.mem_append.1 hx with hx | hx
   ·exact hPX x (QP hx)
   ·exact hPY x (QP hx)
  have hP2 : ∀ x ∈ X.drop i ++ Y.drop (F - i), P x := fun x hx => by
   rcases List.mem_append.1 hx with hx | hx
   ·exact hPX x (Qap hx)
   ·exact hPY x (Qap hx)
  have ι1 : ∀ x ∈ X.take i, ∀ y ∈ Y.take (F - i), ι x < ι y := fun x hx y hy => hι x (QP hx) y (QP hy)
  have ι2 : ∀ x ∈ X.drop i, ∀ y ∈ Y.drop (F - i), ι x < ι y := fun x hx y hy => hι x (Qap hx) y (Qap hy)
  have k2 : ∀ Z1 Z2 : List (TE × G), Z1.Perm (X.take i ++ Y.take (F - i)) → Z1.Pairwise (Bf κ ι) → Z2.Perm (X.drop i ++ Y.drop (F - i)) → Z2.Pairwise (Bf κ ι) → K (arr H0 b sp (A ++ (Z1 ++ Z2) ++ D)) := by
   intro Z1 Z2 p1 s1 p2 s2
   refine k _ ?_ (List.pairwise_append.2 ⟨s1, s2, fun u hu v hv => ?_⟩)
   ·have p3 := p1.append p2
    refine p3.trans ?_
    conv => rhs; rw [eX, eY]
    simp only [List.append_assoc]
    refine List.Perm.append_left _ ?_
    rw [← List.append_assoc, ← List.append_assoc]
    exact List.Perm.append_right _ List.perm_append_comm
   ·rcases List.mem_append.1 (p1.mem_iff.1 hu) with hu | hu
    ·rcases List.mem_append.1 (p2.mem_iff.1 hv) with hv | hv
     ·exact spX.2.2 u hu v hv
     ·exact c1 u hu v hv
    ·rcases List.mem_append.1 (p2.mem_iff.1 hv) with hv | hv
     ·exact c2 u hu v hv
     ·exact spY.2.2 u hu v hv
  generalize X.take i = X1 at *
  generalize X.drop i = X2 at *
  generalize Y.take (F - i) = Y1 at *
  generalize Y.drop (F - i) = Y2 at *
  have hlX : X.length = X1.length + X2.length := by rw [eX, List.length_append]
  have hlY : Y.length = Y1.length + Y2.length := by rw [eY, List.length_append]
  refine ⟨fun _ B => B = arr H0 b sp (A ++ X1 ++ Y1 ++ X2 ++ Y2 ++ D), ift.of (fun hr => ?_) (fun hr => ?_), ?_⟩
  ·simp only [Bool.and_eq_true, decide_eq_true_eq] at hr
   have e0 : A ++ X ++ Y ++ D = (A ++ X1) ++ X2 ++ Y1 ++ (Y2 ++ D) := by rw [eX, eY]; simp only [List.append_assoc]
   rw [e0]
   refine Qix h.s (A := A ++ X1) (X := X2) (Y := Y1) (D := Y2 ++ D) (by simp only [List.length_append]; omega) (fun e => by rw [e] at hlX; simp only [List.length_nil] at hlX; omega) (fun e => by rw [e] at l3; simp only [List.length_nil] at l3; omega) (by simp only [List.length_append]; omega) (by simp only [List.length_append]; omega) (by simp only [List.length_append]; omega) ?_
   simp only [List.append_assoc]
  ·simp only [Bool.and_eq_false_iff, decide_eq_false_iff_not] at hr
   rw [eX, eY]
   rcases hr with hr | hr
   ·have : X2 = [] := List.length_eq_zero_iff.1 (by omega)
    subst this
    simp only [List.append_assoc, List.nil_append, List.append_nil]
   ·have : Y1 = [] := List.length_eq_zero_iff.1 (by omega)
    subst this
    simp only [List.append_assoc, List.nil_append, List.append_nil]
  rintro _ B rfl
  refine ⟨fun _ B => ∃ Z1 : List (TE × G), Z1.Perm (X1 ++ Y1) ∧ Z1.Pairwise (Bf κ ι) ∧ B = arr H0 b sp (A ++ Z1 ++ X2 ++ Y2 ++ D), ift.of (fun hr => ?_) (fun hr => ?_), ?_⟩
  ·simp only [Bool.and_eq_true, decide_eq_true_eq] at hr
   have e0 : A ++ X1 ++ Y1 ++ X2 ++ Y2 ++ D = A ++ X1 ++ Y1 ++ (X2 ++ Y2 ++ D) := by simp only [List.append_assoc]
   rw [e0]
   refine ih (X := X1) (Y := Y1) (A := A) (D := X2 ++ Y2 ++ D) (by omega) (fun e => by rw [e] at l1; simp only [List.length_nil] at l1; omega) (fun e => by rw [e] at l3; simp only [List.length_nil] at l3; omega) rfl (by omega) (by omega) (by simp only [List.length_append]; omega) hP1 spX.1 spY.1 ι1 fun Z p1 s1 => ⟨Z, p1, s1, by simp only [List.append_assoc]⟩
  ·simp only [Bool.and_eq_false_iff, decide_eq_false_iff_not] at hr
   refine ⟨X1 ++ Y1, .refl _, ?_, by simp only [List.append_assoc]⟩
   rcases hr with hr | hr
   ·have : X1 = [] := List.length_eq_zero_iff.1 (by omega)
    subst this
    exact spY.1
   ·have : Y1 = [] := List.length_eq_zero_iff.1 (by omega)
    subst this
    rw [List.append_nil]; exact spX.1
  rintro _ B ⟨Z1, p1, s1, rfl⟩
  have hz1 := p1.length_eq
  rw [List.length_append] at hz1
  refine ift.of (fun hr => ?_) (fun hr => ?_)
  ·simp only [Bool.and_eq_true, decide_eq_true_eq] at hr
   have e0 : A ++ Z1 ++ X2 ++ Y2 ++ D = (A ++ Z1) ++ X2 ++ Y2 ++ D := by simp only [List.append_assoc]
   rw [e0]
   refine ih (X := X2) (Y := Y2) (A := A ++ Z1) (D := D) (by omega) (fun e => by rw [e] at hlX; simp only [List.length_nil] at hlX; omega) (fun e => by rw [e] at l4; simp only [List.length_nil] at l4; omega) (by simp only [List.length_append]; omega) (by simp only [List.length_append]; omega) (by simp only [List.length_append]; omega) (by simp only [List.length_append]; omega) hP2 spX.2.1 spY.2.1 ι2 fun Z p2 s2 => ?_
   have := k2 Z1 Z p1 s1 p2 s2
   simpa only [List.append_assoc] using this
  ·simp only [Bool.and_eq_false_iff, decide_eq_false_iff_not] at hr
   have s2 : (X2 ++ Y2).Pairwise (Bf κ ι) := by
    rcases hr with hr | hr
    ·have : X2 = [] := List.length_eq_zero_iff.1 (by omega)
     subst this
     exact spY.2.1
    ·have : Y2 = [] := List.length_eq_zero_iff.1 (by omega)
     subst this
     rw [List.append_nil]; exact spX.2.1
   have := k2 Z1 (X2 ++ Y2) p1 s1 (.refl _) s2
   simpa only [List.append_assoc] using this
theorem QgL (h : Where C H0 R s b n f P κ) {X Y A D : List (TE × G)} {a m e : Int} {K : Heap → Prop} (hX : X ≠ []) (hY : Y ≠ []) (ha : a = (A.length : Int)) (hm : m = ((A.length + X.length : Nat) : Int)) (he : e = ((A.length + X.length + Y.length : Nat) : Int)) (hn : A.length + X.length + Y.length + D.length = n)
 (hP : ∀ x ∈ X ++ Y, P x) (sX : X.Pairwise (Bf κ ι)) (sY : Y.Pairwise (Bf κ ι)) (hι : ∀ x ∈ X, ∀ y ∈ Y, ι x < ι y)
 (k : ∀ Z : List (TE × G), Z.Perm (X ++ Y) → Z.Pairwise (Bf κ ι) → K (arr H0 b sp (A ++ Z ++ D))) : Qh C s a m e f K (arr H0 b sp (A ++ X ++ Y ++ D)) :=
 Qhk h _ (Nat.le_refl _) hX hY ha hm he hn hP sX sY hι k
theorem QiK (h : Where C H0 R s b n f P κ) {L0 : List (TE × G)} {K : Heap → Prop} (hn : L0.length = n) (hP : ∀ x ∈ L0, P x) (hι : L0.Pairwise fun x y => ι x < ι y)
 (k : ∀ Z : List (TE × G), Z.Perm L0 → Z.Pairwise (Bf κ ι) → K (arr H0 b sp Z)) : Q4 C s (n : Int) f K (arr H0 b sp L0) := by
 have hsm := h.s.small
 apply Qau
 unfold QW
 refine ⟨fun x B => ∃ D0 R0 D : List (TE × G), L0 = D0 ++ R0 ∧ D.length = D0.length ∧ x = (((D.length : Nat) : Int), ((D.length + 20 : Nat) : Int)) ∧ B = arr H0 b sp (D ++ R0) ∧ ∀ Z', Ch κ ι 20 Z' R0 → Ch κ ι 20 (D ++ Z') L0, fun x _ => n - x.1.toNat,
  ⟨[], L0, [], rfl, rfl, rfl, rfl, fun Z' hz => hz⟩, ?_⟩
 rintro _ B ⟨D0, R0, D, hL, hD, rfl, rfl, hc⟩
 have hl : D.length + R0.length = n := by rw [← hn, hL, List.length_append, hD]
 have hP0 : ∀ x ∈ R0, P x := fun x hx => hP x (by rw [hL]; exact List.mem_append_right _ hx)
 have hι0 : R0.Pairwise fun x y => ι x < ι y := by rw [hL] at hι; exact (List.pairwise_append.1 hι).2.1
 dsimp only
 refine ift.of (fun hle => ?_) (fun hle => ?_)
 ·have hle := of_decide_eq_true hle
  have hR : R0 = R0.take 20 ++ R0.drop 20 := (List.take_append_drop ..).symm
  have l1 : (R0.take 20).length = 20 := by rw [List.length_take]; omega
  have hι1 := (Qdg hι0 20).1
  have hP1 : ∀ x ∈ R0.take 20, P x := fun x hx => hP0 x (QP hx)
  generalize R0.take 20 = X at *
  generalize R0.drop 20 = R1 at *
  subst hR
  rw [List.length_append] at hl
  rw [Qi (by omega) (by omega)]
  have e0 : D ++ (X ++ R1) = D ++ X ++ R1 := by simp only [List.append_assoc]
  rw [e0]
  refine Qgz h (A := D) (X := X) (D := R1) rfl (by omega) (by omega) hP1 hι1 fun Z p1 s1 => ?_
  have hz := p1.length_eq
  refine ⟨⟨D0 ++ X, R1, D ++ Z, by rw [hL]; simp only [List.append_assoc], by simp only [List.length_append]; omega, ?_, rfl, fun Z' hz' => ?_⟩, ?_⟩
  ·exact pr (by simp only [List.length_append]; omega) (by simp only [List.length_append]; omega)
  ·rw [List.append_assoc]
   exact hc _ (.cons l1 p1 s1 hz')
  ·first | omega | (dsimp only; omega)
 ·have hle := of_decide_eq_false hle
  have e0 : D ++ R0 = D ++ R0 ++ [] := by simp only [List.append_nil]
  rw [e0]
  refine Qgz h (A := D) (X := R0) (D := []) rfl (by omega) (by simp only [List.length_nil]; omega) hP0 hι0 fun Z p1 s1 => ?_
  rw [List.append_nil]
  have hch := hc Z (.last (by omega) p1 s1)
  clear hc e0 hle hι0 hP0 hl hD hL
  generalize D ++ Z = Z at hch
  refine ⟨fun x B => ∃ (bs : Nat) (Z : List (TE × G)), x = (bs : Int) ∧ 1 ≤ bs ∧ bs ≤ 281474976710656 ∧ B = arr H0 b sp Z ∧ Ch κ ι bs Z L0, fun x _ => n - x.toNat, ⟨20, Z, rfl, by omega, by omega, rfl, hch⟩, ?_⟩
  rintro _ B ⟨bs, Z, rfl, hb1, hb2, rfl, hch⟩
  refine ift.of (fun hlt => ?_) (fun hlt => ?_)
  ·have hlt : bs < n := by have := of_decide_eq_true hlt; omega
   have w2 : w .i64 (2 * (bs : Int)) = ((2 * bs : Nat) : Int) := by rw [Qi (by omega) (by omega)]; omega
   rw [w2]
   refine ⟨fun x B => ∃ D R D0 R0 : List (TE × G), L0 = D0 ++ R0 ∧ D.length = D0.length ∧ x = (((D.length : Nat) : Int), ((D.length + 2 * bs : Nat) : Int)) ∧ B = arr H0 b sp (D ++ R) ∧ Ch κ ι bs R R0 ∧ ∀ Z', Ch κ ι (2 * bs) Z' R0 → Ch κ ι (2 * bs) (D ++ Z') L0, fun x _ => n - x.1.toNat,
    ⟨[], Z, [], L0, rfl, rfl, pr rfl (by simp), rfl, hch, fun Z' hz => hz⟩, ?_⟩
   rintro _ B ⟨D, R, D0, R0, hL, hD, rfl, rfl, hR, hc⟩
   have hl : D.length + R0.length = n := by rw [← hn, hL, List.length_append, hD]
   have hP0 : ∀ x ∈ R0, P x := fun x hx => hP x (by rw [hL]; exact List.mem_append_right _ hx)
   have hι0 : R0.Pairwise fun x y => ι x < ι y := by rw [hL] at hι; exact (List.pairwise_append.1 hι).2.1
   have hrl := hR.perm.length_eq
   dsimp only
   have wa : w .i64 ((D.length : Int) + (bs : Int)) = ((D.length + bs : Nat) : Int) := by rw [Qi (by omega) (by omega)]; omega
   rw [wa]
   refine ift.of (fun hle => ?_) (fun hle => ?_)
   ·have hle := of_decide_eq_true hle
    obtain ⟨X, R1, X0, R2, rfl, rfl, lx, px, sx, hR2⟩ := hR.big (by omega)
    rw [List.length_append] at hl
    obtain ⟨Y, R1, Y0, R2, rfl, rfl, ly, py, sy, hR3⟩ := hR2.big (by omega)
    rw [List.length_append] at hl
    have hxl := px.length_eq
    have hyl := py.length_eq
    have hr3 := hR3.perm.length_eq
    have wb : w .i64 (((D.length + 2 * bs : Nat) : Int) + ((2 * bs : Nat) : Int)) = ((D.length + 2 * bs + 2 * bs : Nat) : Int) := by rw [Qi (by omega) (by omega)]; omega
    rw [wb]
    have e0 : D ++ (X ++ (Y ++ R1)) = D ++ X ++ Y ++ R1 := by simp only [List.append_assoc]
    rw [e0]
    have hιx := List.pairwise_append.1 hι0
    refine QgL h (A := D) (X := X) (Y := Y) (D := R1) (fun e => by rw [e] at hxl; simp only [List.length_nil] at hxl; omega) (fun e => by rw [e] at hyl; simp only [List.length_nil] at hyl; omega) rfl (by omega) (by omega) (by omega) (fun x hx => ?_) sx sy (fun x hx y hy => hιx.2.2 x (px.mem_iff.1 hx) y (List.mem_append_left _ (py.mem_iff.1 hy))) fun Z1 p1 s1 => ?_
    ·rcases List.mem_append.1 hx with hx | hx
     ·exact hP0 x (List.mem_append_left _ (px.mem_iff.1 hx))
     ·exact hP0 x (List.mem_append_right _ (List.mem_append_left _ (py.mem_iff.1 hx)))
    ·have hz := p1.length_eq
     rw [List.length_append] at hz
     refine ⟨⟨D ++ Z1, R1, D0 ++ X0 ++ Y0, R2, by rw [hL]; simp only [List.append_assoc], by simp only [List.length_append]; omega, ?_, rfl, hR3, fun Z' hz' => ?_⟩, ?_⟩
     ·exact pr (by simp only [List.length_append]; omega) (by simp only [List.length_append]; omega)
     ·rw [List.append_assoc]
      refine hc _ ?_
      rw [← List.append_assoc]
      exact .cons (by rw [List.length_append]; omega) (p1.trans (px.append py)) s1 hz'
     ·first | omega | (dsimp only; omega)
   ·have hle := of_decide_eq_false hle
    refine ⟨fun _ B => ∃ Z : List (TE × G), B = arr H0 b sp Z ∧ Ch κ ι (2 * bs) Z L0, ift.of (fun hlt2 => ?_) (fun hlt2 => ?_), ?_⟩
    ·have hlt2 := of_decide_eq_true hlt2
     obtain ⟨X, Y, X0, Y0, rfl, rfl, lx, px, sx, hR2⟩ := hR.big (by omega)
     rw [List.length_append] at hl
     have hxl := px.length_eq
     have hyl := hR2.perm.length_eq
     have sy := hR2.small (by omega)
     have hιx := List.pairwise_append.1 hι0
     have e0 : D ++ (X ++ Y) = D ++ X ++ Y ++ [] := by simp only [List.append_assoc, List.append_nil]
     rw [e0]
     refine QgL h (A := D) (X := X) (Y := Y) (D := []) (fun e => by rw [e] at hxl; simp only [List.length_nil] at hxl; omega) (fun e => by rw [e] at hyl; simp only [List.length_nil] at hyl; omega) rfl (by omega) (by omega) (by simp only [List.length_nil]; omega) (fun x hx => ?_) sx sy (fun x hx y hy => hιx.2.2 x (px.mem_iff.1 hx) y (hR2.perm.mem_iff.1 hy)) fun Z1 p1 s1 => ?_
     ·rcases List.mem_append.1 hx with hx | hx
      ·exact hP0 x (List.mem_append_left _ (px.mem_iff.1 hx))
      ·exact hP0 x (List.mem_append_right _ (hR2.perm.mem_iff.1 hx))
     ·refine ⟨D ++ Z1, by rw [List.append_nil], hc _ (.last (by rw [List.length_append]; omega) (p1.trans (px.append hR2.perm)) s1)⟩
    ·have hlt2 := of_decide_eq_false hlt2
     exact ⟨D ++ R, rfl, hc _ (.last (by omega) hR.perm (hR.all (by omega) (by omega)))⟩
    ·rintro _ B ⟨Z, rfl, hz⟩
     rw [Qi (by omega) (by omega)]
     exact ⟨⟨2 * bs, Z, by omega, by omega, by omega, rfl, hz⟩, by omega⟩
  ·have hlt : n ≤ bs := by have := of_decide_eq_false hlt; omega
   exact k Z hch.perm (hch.all (by omega) (by omega))
theorem Qhj (h : Where C H0 R s b n f P κ) {L0 : List (TE × G)} {K : Heap → Prop} (hn : L0.length = n) (hP : ∀ x ∈ L0, P x) (hι : L0.Pairwise fun x y => ι x < ι y)
 (k : ∀ Z : List (TE × G), Z.Perm L0 → Z.Pairwise (Bf κ ι) → K (arr H0 b sp Z)) : Qk C s f K (arr H0 b sp L0) := by
 apply QR
 unfold Qt
 rw [h.s.len]
 exact QiK h hn hP hι k
end
end Sx.SR
end

noncomputable section
set_option linter.unusedVariables false
set_option linter.unusedSimpArgs false
namespace Sx.SR
open Go Go.Proofs Sx
section
variable {G : Type} {H0 R : Heap} {b n : Nat} {sp : List Value} {s : Sl} {C : Ctx} {L A D : List (TE × G)} {x y : TE × G} {i : Int} {P : TE × G → Prop} {κ : TE × G → TE × G → Int} {f : Value}
/-- what tells whether two are alike -/
structure EqF (C : Ctx) (R : Heap) (f : Value) (P : TE × G → Prop) (κ : TE × G → TE × G → Int) : Prop where
 ok : ∀ A : Heap, R.le A → ∀ x y, P x → P y → ∀ Φ : Value → Heap → Prop, Φ (.bool (κ x y == 0)) A → callU Tryz.prog C f [argE x.1, argE y.1] A Φ
theorem QhZ (hle : R.le H0) (rb : R b = none) (sp : List Value) (L : List (TE × G)) : R.le (arr H0 b sp L) := fun z e hz => by
 have : z ≠ b := fun e' => by rw [e', rb] at hz; cases hz
 unfold arr
 rw [Heap.put_ne _ _ _ this]; exact hle _ _ hz
theorem ldr {q : Nat} {K : TE → Prop} (hL : L = A ++ x :: D) (hq : q = A.length) (k : K x.1) : ldL (arr H0 b sp L) (b, q) K := by
 have := ldx (H0 := H0) (b := b) (sp := sp) (K := K) (i := (A.length : Int)) hL rfl k
 rw [Int.toNat_natCast, Nat.mul_one, Nat.zero_add] at this
 rw [hq]; exact this
theorem QjD {Q X : List (TE × G)} {k : Nat} (hk : k = Q.length) (zs : List Value) (hz : zs.length = X.length) : (arr H0 b sp (Q ++ X)).put b (.row (splice ((Q ++ X).flatMap enc ++ sp) k zs)) = arr H0 b (zs ++ sp) Q := by
 unfold arr
 rw [Heap.put_put]
 have e1 : (Q ++ X).flatMap enc ++ sp = Q.flatMap enc ++ (X.flatMap enc ++ sp) := by rw [List.flatMap_append, List.append_assoc]
 have e2 : k = (Q.flatMap enc).length := by rw [Qbh]; omega
 have e3 : zs.length = (X.flatMap enc).length := by rw [Qbh]; omega
 rw [e1]
 unfold splice
 rw [e2, List.take_left, ← List.drop_drop, List.drop_left, e3, List.drop_left, List.append_assoc]
theorem QhL {Z : List (TE × G)} {K : Sl → Heap → Prop} (hs : Sls s b n) (hcap : n ≤ s.cap) (hle : R.le H0) (rb : R b = none) (hf : EqF C R f P κ) (hn : Z.length = n) (hP : ∀ x ∈ Z, P x)
 (k : ∀ sp2 : List Value, (cmpct κ Z).length + sp2.length = Z.length + sp.length → K ⟨some (b, 0), (cmpct κ Z).length, s.cap, none⟩ (arr H0 b sp2 (cmpct κ Z))) : Qn C s f K (arr H0 b sp Z) := by
 have hsm := hs.small
 have hse : s = ⟨some (b, 0), n, s.cap, none⟩ := by
  obtain ⟨p, l, c, x⟩ := s
  have h1 := hs.p; have h2 := hs.x; have h3 := hs.len
  simp only at h1 h2 h3
  subst h1; subst h2; subst h3; rfl
 apply Q6
 unfold QB
 rw [hs.len]
 refine ift.of (fun h => ?_) (fun h => ?_)
 ·have h : n < 2 := by have := of_decide_eq_true h; omega
  have e : cmpct κ Z = Z := by
   match Z, hn with
   | [], _ => rfl
   | [z], _ => rfl
   | _ :: _ :: _, hn => simp at hn; omega
  have := k sp (by rw [e])
  rw [e, hn, ← hse] at this
  exact this
 have h : 2 ≤ n := by have := of_decide_eq_false h; omega
 obtain ⟨z, Z', hZ⟩ := List.exists_cons_of_ne_nil (fun e => by rw [e] at hn; simp at hn; omega : Z ≠ [])
 refine ⟨fun x B => ∃ pre p rest, Z = pre ++ p :: rest ∧ cmpct κ (pre ++ [p]) = pre ++ [p] ∧ x = ((pre.length + 1 : Nat) : Int) ∧ B = arr H0 b sp Z, fun x _ => n - x.toNat, ⟨[], z, Z', hZ, rfl, rfl, rfl⟩, ?_⟩
 rintro x B ⟨pre, p, rest, hZe, hc, rfl, rfl⟩
 have hl : n = pre.length + (rest.length + 1) := by rw [← hn, hZe, List.length_append, List.length_cons]
 refine ift.of (fun hx => ?_) (fun hx => ?_)
 ·cases rest with
  | nil => have := of_decide_eq_true hx; simp only [List.length_nil] at hl; omega
  | cons y rest =>
  simp only [List.length_cons] at hl
  have w1 : w .i64 (((pre.length + 1 : Nat) : Int) - 1) = (pre.length : Int) := by rw [Qi (by omega) (by omega)]; omega
  have hZ2 : Z = (pre ++ [p]) ++ y :: rest := by rw [hZe]; simp
  have hl1 : (pre ++ [p]).length = pre.length + 1 := by simp
  rw [w1]
  have hPp : P p := hP p (by rw [hZe]; simp)
  have hPy : P y := hP y (by rw [hZe]; simp)
  refine ⟨_, Heap.le.refl _, ixp hs rfl (by omega) (ldx hZ2 (by rw [hl1]) (ixp hs rfl (by omega) (ldx hZe rfl (hf.ok _ (QhZ hle rb sp Z) y p hPy hPp _ ⟨_, rfl, Heap.le.refl _, ?_⟩))))⟩
  refine ift.of (fun h0 => ?_) (fun h0 => ?_)
  ·have h0 : κ y p = 0 := by simpa using h0
   have hne : ¬ ((s.cap : Int) = ((pre.length + 1 : Nat) : Int)) := by omega
   refine ⟨by omega, by omega, by omega, by omega, _, rfl, ?_⟩
   rw [if_neg hne, hs.p]
   have hx0 : (if (s.cap : Int) = ((pre.length + 1 : Nat) : Int) ∨ ((pre.length + 1 : Nat) : Int).toNat * 1 = 0 then s.x else none) = none := by
    rw [hs.x]; split <;> rfl
   rw [hx0]
   have hoff : (0 + ((pre.length + 1 : Nat) : Int).toNat * 1) = pre.length + 1 := by omega
   have hlen : ((n : Int) - ((pre.length + 1 : Nat) : Int)).toNat = n - (pre.length + 1) := by omega
   simp only [Option.map_some, hoff, hlen]
   generalize ((s.cap : Int) - ((pre.length + 1 : Nat) : Int)).toNat = cp
   refine ⟨fun x B => ∃ (pre2 M rest2 : List (TE × G)) (p2 : TE × G), Z = pre2 ++ p2 :: rest2 ∧ pre.length + 1 ≤ pre2.length ∧ x = (((cmpct κ (pre2 ++ [p2])).length : Int), ((pre2.length - pre.length : Nat) : Int)) ∧ (cmpct κ (pre2 ++ [p2])).length + M.length = pre2.length ∧ B = arr H0 b sp (cmpct κ (pre2 ++ [p2]) ++ M ++ p2 :: rest2), fun x _ => n - x.2.toNat,
    ⟨pre ++ [p], [], rest, y, hZ2, by simp, ?_, ?_, ?_⟩, ?_⟩
   ·have e : cmpct κ (pre ++ [p] ++ [y]) = pre ++ [p] := by rw [List.append_assoc]; show cmpct κ (pre ++ [p, y]) = _; rw [Qcy, if_pos h0, hc, List.append_nil]
    rw [e, hl1, Nat.add_sub_cancel_left]; rfl
   ·have e : cmpct κ (pre ++ [p] ++ [y]) = pre ++ [p] := by rw [List.append_assoc]; show cmpct κ (pre ++ [p, y]) = _; rw [Qcy, if_pos h0, hc, List.append_nil]
    rw [e]; simp
   ·have e : cmpct κ (pre ++ [p] ++ [y]) = pre ++ [p] := by rw [List.append_assoc]; show cmpct κ (pre ++ [p, y]) = _; rw [Qcy, if_pos h0, hc, List.append_nil]
    rw [e, List.append_nil, ← hZ2]
   rintro x B ⟨pre2, M, rest2, p2, hZ3, hp2, rfl, hM, rfl⟩
   have hl2 : n = pre2.length + (rest2.length + 1) := by rw [← hn, hZ3, List.length_append, List.length_cons]
   dsimp only
   refine ift.of (fun hx2 => ?_) (fun hx2 => ?_)
   ·cases rest2 with
    | nil => have := of_decide_eq_true hx2; simp only [List.length_nil] at hl2; omega
    | cons y2 rest3 =>
    simp only [List.length_cons] at hl2
    have w2 : w .i64 (((pre2.length - pre.length : Nat) : Int) - 1) = ((pre2.length - pre.length - 1 : Nat) : Int) := by rw [Qi (by omega) (by omega)]; omega
    have w3 : w .i64 (((pre2.length - pre.length : Nat) : Int) + 1) = ((pre2.length + 1 - pre.length : Nat) : Int) := by rw [Qi (by omega) (by omega)]; omega
    have hPp2 : P p2 := hP p2 (by rw [hZ3]; simp)
    have hPy2 : P y2 := hP y2 (by rw [hZ3]; simp)
    have hsn := Qcy (κ := κ) (x := p2) (y := y2) pre2
    generalize hQ : cmpct κ (pre2 ++ [p2]) = Q at *
    rw [w2]
    have tix : ∀ {K : Nat × Nat → Prop} {q : Nat}, q < n - (pre.length + 1) → K (b, pre.length + 1) → ixa ⟨some (b, pre.length + 1), n - (pre.length + 1), cp, none⟩ (q : Int) K := fun {K q} hq hk => ⟨_, rfl, rfl, by omega, by show (q : Int) < ((n - (pre.length + 1) : Nat) : Int); omega, hk⟩
    have hA1 : Q ++ M ++ p2 :: y2 :: rest3 = (Q ++ M ++ [p2]) ++ y2 :: rest3 := by simp
    have hA1l : (Q ++ M ++ [p2]).length = pre2.length + 1 := by simp only [List.length_append, List.length_singleton]; omega
    have hA2l : (Q ++ M).length = pre2.length := by simp only [List.length_append]; omega
    refine ⟨fun x B => ∃ (c : Bool) (N : List (TE × G)), c = (κ y2 p2 == 0) ∧ x = ((if c then Q else Q ++ [y2]).length : Int) ∧ (if c then Q else Q ++ [y2]).length + N.length = pre2.length + 1 ∧ B = arr H0 b sp ((if c then Q else Q ++ [y2]) ++ N ++ y2 :: rest3), ?_, ?_⟩
    ·refine ⟨_, Heap.le.refl _, tix (by omega) (ldr hA1 ?_ (tix (by omega) (ldr (D := y2 :: rest3) rfl ?_ (hf.ok _ (QhZ hle rb sp _) y2 p2 hPy2 hPp2 _ ⟨_, rfl, Heap.le.refl _, ?_⟩))))⟩
     ·rw [hA1l]; show pre.length + 1 + ((pre2.length - pre.length : Nat) : Int).toNat * 1 = _; omega
     ·rw [hA2l]; show pre.length + 1 + ((pre2.length - pre.length - 1 : Nat) : Int).toNat * 1 = _; omega
     refine ift.of (fun h3 => ?_) (fun h3 => ?_)
     ·have h3 : (κ y2 p2 == 0) = false := by simpa using h3
      refine tix (by omega) (ldr hA1 ?_ ?_)
      ·rw [hA1l]; show pre.length + 1 + ((pre2.length - pre.length : Nat) : Int).toNat * 1 = _; omega
      obtain ⟨m, M2, hm⟩ := List.exists_cons_of_ne_nil (by simp : M ++ [p2] ≠ [])
      have hml : M.length + 1 = M2.length + 1 := by have := congrArg List.length hm; simpa using this
      have hA3 : Q ++ M ++ p2 :: y2 :: rest3 = Q ++ m :: (M2 ++ y2 :: rest3) := by
       rw [hA1, List.append_assoc Q, hm]; simp
      refine ixp hs rfl (by omega) (stx hA3 rfl ?_)
      refine ⟨false, M2, h3.symm, ?_, ?_, ?_⟩
      ·rw [Qi (by omega) (by omega)]; simp
      ·simp only [Bool.false_eq_true, if_false, List.length_append, List.length_singleton]; omega
      ·simp only [Bool.false_eq_true, if_false, List.append_assoc, List.cons_append, List.nil_append]
     ·have h3 : (κ y2 p2 == 0) = true := by simpa using h3
      refine ⟨true, M ++ [p2], h3.symm, rfl, ?_, ?_⟩
      ·simp only [if_true, List.length_append, List.length_singleton]; omega
      ·simp only [if_true, List.append_assoc, List.cons_append, List.nil_append]
    ·rintro x B ⟨c, N, hcc, rfl, hN, rfl⟩
     rw [w3]
     have hQ2 : cmpct κ (pre2 ++ [p2] ++ [y2]) = if c then Q else Q ++ [y2] := by
      rw [List.append_assoc]
      show cmpct κ (pre2 ++ [p2, y2]) = _
      rw [hsn, hcc]
      by_cases h0 : κ y2 p2 = 0 <;> simp [h0]
     refine ⟨⟨pre2 ++ [p2], N, rest3, y2, by rw [hZ3]; simp, by simp; omega, ?_, ?_, ?_⟩, ?_⟩
     ·rw [hQ2, List.length_append, List.length_singleton]
     ·rw [hQ2, hN]; simp
     ·rw [hQ2]
     ·first | omega | (dsimp only; omega)
   ·have hr : rest2 = [] := List.length_eq_zero_iff.1 (by have := of_decide_eq_false hx2; omega)
    subst hr
    simp only [List.length_nil] at hl2
    rw [← hZ3] at hM ⊢
    have hq0 : (cmpct κ Z).length ≤ pre2.length := by omega
    generalize hQ : cmpct κ Z = Q at *
    have hne2 : ¬ ((s.cap : Int) = (Q.length : Int)) := by omega
    refine ⟨by omega, by omega, by omega, by omega, _, rfl, ?_⟩
    rw [if_neg hne2, hs.p]
    have hx1 : (if (s.cap : Int) = (Q.length : Int) ∨ (Q.length : Int).toNat * 1 = 0 then s.x else none) = none := by
     rw [hs.x]; split <;> rfl
    rw [hx1]
    have hfl := Qbh (Q ++ M ++ [p2])
    simp only [List.length_append, List.length_singleton] at hfl
    refine .inr ⟨(b, 0 + (Q.length : Int).toNat * 1), _, rfl, rfl, Heap.put_same .., ?_, ?_⟩
    ·show 0 + (Q.length : Int).toNat * 1 + ((n : Int) - (Q.length : Int)).toNat * 1 ≤ _
     rw [List.length_append, hfl]; omega
    have hcut := QjD (H0 := H0) (b := b) (sp := sp) (Q := Q) (X := M ++ [p2]) (k := 0 + (Q.length : Int).toNat * 1) (by omega) (zeros [slv Sl.nil] ((n : Int) - (Q.length : Int)).toNat) (by rw [Qa6]; simp; omega)
    rw [← List.append_assoc] at hcut
    show slL _ _ _ _ _ _
    refine ⟨by omega, by omega, by omega, by omega, _, rfl, ?_⟩
    have hne3 : ¬ ((s.cap : Int) = 0) := by omega
    rw [if_neg hne3, hs.p]
    have hx2 : (if (s.cap : Int) = 0 ∨ (0 : Int).toNat * 1 = 0 then s.x else none) = none := by
     rw [hs.x]; split <;> rfl
    rw [hx2]
    have hl9 : ((Q.length : Int) - 0).toNat = Q.length := by omega
    have hl8 : ((s.cap : Int) - 0).toNat = s.cap := by omega
    simp only [Option.map_some, hl9, hl8]
    have := k (zeros [slv Sl.nil] ((n : Int) - (Q.length : Int)).toNat ++ sp) (by rw [List.length_append, Qa6, hn]; simp; omega)
    rw [← hcut] at this
    exact this
  ·have h0 : κ y p ≠ 0 := by simpa using h0
   rw [Qi (by omega) (by omega)]
   refine ⟨⟨pre ++ [p], y, rest, hZ2, ?_, by rw [hl1]; omega, rfl⟩, by first | omega | (dsimp only; omega)⟩
   rw [List.append_assoc]
   show cmpct κ (pre ++ [p, y]) = _
   rw [Qcy, if_neg h0, hc, List.append_assoc]
 ·have hr : rest = [] := List.length_eq_zero_iff.1 (by have := of_decide_eq_false hx; omega)
  subst hr
  rw [← hZe] at hc
  have := k sp (by rw [hc])
  rw [hc, hn, ← hse] at this
  exact this
/-- nothing to sort -/
theorem Qjo {H : Heap} {K : Heap → Prop} (h : s.len = 0) (k : K H) : Qk C s f K H := by
 apply QR
 unfold Qt
 rw [h]
 apply Qau
 unfold QW
 refine ⟨fun x B => x = (0, 20) ∧ B = H, fun _ _ => 0, ⟨rfl, rfl⟩, ?_⟩
 rintro _ B ⟨rfl, rfl⟩
 refine QA rfl ?_
 apply Qaa
 unfold QE
 refine ⟨fun x D => x = 1 ∧ D = B, fun _ _ => 0, ⟨rfl, rfl⟩, ?_⟩
 rintro _ D ⟨rfl, hD⟩
 subst hD
 refine QA rfl ?_
 refine ⟨fun x E => x = 20 ∧ E = D, fun _ _ => 0, ⟨rfl, rfl⟩, ?_⟩
 rintro _ E ⟨rfl, hE⟩
 subst hE
 exact QA rfl k
theorem Qg3 {H : Heap} {K : Sl → Heap → Prop} (h : s.len = 0) (k : K s H) : Qn C s f K H := by
 apply Q6
 unfold QB
 rw [h]
 exact QaU rfl k
end
end Sx.SR
end

noncomputable section
set_option linter.unusedVariables false
set_option linter.unusedSimpArgs false
set_option maxRecDepth 10000
namespace Sx
section
open Go Go.Proofs
section
variable {α β : Type} {κ : α → α → Int} {ι : α → Nat} {κ' : β → β → Int} {ι' : β → Nat}
theorem Rep.map {f : α → β} (hk : ∀ a b, κ a b = κ' (f a) (f b)) (hi : ∀ a, ι a = ι' (f a)) {L A : List α} (h : Rep κ ι L A) : Rep κ' ι' (L.map f) (A.map f) := by
 refine ⟨List.pairwise_map.2 (h.asc.imp fun {a b} e => by rw [← hk]; exact e), fun y hy => ?_, fun x hx => ?_, fun y hy x hx e => ?_⟩
 ·obtain ⟨z, hz, rfl⟩ := List.mem_map.1 hy
  exact List.mem_map.2 ⟨z, h.sub z hz, rfl⟩
 ·obtain ⟨z, hz, rfl⟩ := List.mem_map.1 hx
  obtain ⟨y, hy, e⟩ := h.all z hz
  exact ⟨f y, List.mem_map.2 ⟨y, hy, rfl⟩, by rw [← hk]; exact e⟩
 ·obtain ⟨z, hz, rfl⟩ := List.mem_map.1 hx
  obtain ⟨u, hu, rfl⟩ := List.mem_map.1 hy
  rcases h.fst u hu z hz (by rw [hk]; exact e) with e | e
  ·exact .inl (by rw [e])
  ·exact .inr (by rw [← hi, ← hi]; exact e)
theorem QhX (L : List α) : L.zipIdx.Pairwise fun a b => a.2 < b.2 := by
 rw [List.pairwise_iff_getElem]
 intro i j hi hj h
 simp only [List.getElem_zipIdx]; omega
end
section
variable {C : Ctx} {H : Heap}
theorem Qeu {R : Heap} {P : Sl × (List V × Nat) → Prop} (hP : ∀ e, P e → VRow R e.1 e.2.1 ∧ VBs e.2.1 ∧ e.2.1.length ≤ 140737488355328) {A : Heap} (hA : R.le A) {x y : Sl × (List V × Nat)} (hx : P x) (hy : P y) {K : Int → Heap → Prop} (k : K (cmpR x.2.1 y.2.1) A) :
 QG C x.1 y.1 K A := by
 obtain ⟨x1, x2, x3⟩ := hP x hx
 obtain ⟨y1, y2, y3⟩ := hP y hy
 exact Qb7 (x1.le hA) (y1.le hA) x3 y3 x2 y2 k
theorem Qjt {A : Heap} {ls : List (List V)} {t : Sl} {K : Sl → Heap → Prop} (hv : VRows A t ls) (hle : A.le H) (hn : ls.length ≤ 1000) (hb : ∀ l ∈ ls, VBs l ∧ l.length ≤ 140737488355328 ∧ wids l ≤ 2513169434843)
 (k : ∀ t2 H2 A2, Srt H H2 ls t2 A2 → K t2 H2) : Qc0 C t K H := by
 apply QfZ
 unfold Qed
 rw [hv.len]
 refine ⟨fun x D => ∃ (s : Sl) (ys : List Sl), x = (s, (ys.length : Int)) ∧ Og H D ls s ys, fun x _ => ls.length - x.2.toNat, ⟨Sl.nil, [], rfl, Og.nil⟩, ?_⟩
 rintro _ D ⟨s, ys, rfl, ho⟩
 refine ift.of (fun h => ?_) (fun h => ?_)
 ·have hlt : ys.length < ls.length := by have := of_decide_eq_true h; dsimp only at this; omega
  have hleD := hle.trans ho.own.le
  refine hv.ld hleD rfl hlt fun x hx => Qkd hx hleD (hb _ (List.getElem_mem hlt)).2.2 fun t2 H2 hm => ?_
  have hsl : s.len = ys.length := by have := ho.own.own.1; simp at this; omega
  refine Qdd (zc := [slv Sl.nil]) (ho.own.own.le hm.le).off rfl (by dsimp only; omega) (by dsimp only; omega) fun r H3 h4 hr => ?_
  rw [Qi (by omega) (by omega)]
  refine ⟨⟨r, ys ++ [t2], by simp, ho.step hlt hm h4⟩, by first | omega | (dsimp only; omega)⟩
 have hyl : ys.length = ls.length := by have := of_decide_eq_false h; dsimp only at this; have := ho.le; omega
 obtain ⟨o1, o2, o3, o4⟩ := ho.own.own
 have hsl : s.len = ys.length := by simp at o1; omega
 rcases o4 with ⟨p0, c0⟩ | ⟨b, sp, hp, hbk, hc⟩
 ·have h0 : s.len = 0 := by omega
  have hls : ls = [] := List.length_eq_zero_iff.1 (by omega)
  have hys : ys = [] := List.length_eq_zero_iff.1 (by omega)
  refine SR.Qjo h0 (SR.Qg3 h0 (k _ _ [] ⟨?_, fun e he => (by cases he), ?_, ?_⟩))
  ·have := ho.own; rw [hys] at this; exact this
  ·rw [hls]; exact ⟨.nil, fun y hy => (by cases hy), fun x hx => (by cases hx), fun y hy => (by cases hy)⟩
  ·exact Nat.zero_le _
 have hbF : H b = none := ho.own.fresh _ hp
 let H0 := D.off s
 have h0b : H0 b = none := Heap.off_fresh s D _ hp
 have hH0 : H.le H0 := Heap.le_off ho.own.le ho.own.fresh
 let L0 : List (Sl × (List V × Nat)) := ys.zip ls.zipIdx
 have hz1 : L0.map (fun e => e.1) = ys := List.map_fst_zip (by simp; omega)
 have hz2 : L0.map (fun e => e.2) = ls.zipIdx := List.map_snd_zip (by simp; omega)
 have hL0 : L0.length = ls.length := by have := congrArg List.length hz1; simp at this; omega
 have hflat : L0.flatMap SR.enc = ys.map slv := by
  have e : ∀ L : List (Sl × (List V × Nat)), L.flatMap SR.enc = (L.map (fun e => e.1)).map slv := fun L => by
   induction L with
   | nil => rfl
   | cons e L ih => rw [List.flatMap_cons, ih]; rfl
  rw [e, hz1]
 have hD : D = SR.arr H0 b sp L0 := by
  funext x
  by_cases hx : x = b
  ·subst hx; unfold SR.arr; rw [Heap.put_same, hbk, hflat]
  ·unfold SR.arr
   rw [Heap.put_ne _ _ _ hx]
   show D x = Heap.off s D x
   unfold Heap.off
   rw [if_neg]
   rw [hp]; simp; exact fun e => hx e.symm
 have hmem : ∀ e ∈ L0, Made H H0 e.2.1 e.1 ∧ e.2.1 ∈ ls := fun e he => by
  obtain ⟨i, hi, rfl⟩ := List.getElem_of_mem he
  have hi1 : i < ys.length := by omega
  have hi2 : i < ls.length := by omega
  have e1 : L0[i].1 = ys[i] := by show (ys.zip ls.zipIdx)[i].1 = _; rw [List.getElem_zip]
  have e2 : L0[i].2.1 = ls[i] := by show (ys.zip ls.zipIdx)[i].2.1 = _; rw [List.getElem_zip, List.getElem_zipIdx]
  rw [e1, e2]
  exact ⟨ho.done i _ _ (List.getElem?_eq_getElem hi2) (List.getElem?_eq_getElem hi1), List.getElem_mem hi2⟩
 let P : Sl × (List V × Nat) → Prop := fun e => VRow H0 e.1 e.2.1 ∧ VBs e.2.1 ∧ e.2.1.length ≤ 140737488355328
 have hP : ∀ e ∈ L0, P e := fun e he => by
  obtain ⟨m1, m2⟩ := hmem e he
  exact ⟨m1.row2, (hb _ m2).1, (hb _ m2).2.1⟩
 have hsls : SR.Sls s b ls.length := ⟨hp, o2, by omega, by omega⟩
 have hlin : Lin (fun a c : Sl × (List V × Nat) => cmpR a.2.1 c.2.1) P := (Lin.row.comp fun e : Sl × (List V × Nat) => e.2.1).sub fun _ _ => trivial
 have hι : L0.Pairwise fun x y => (fun e : Sl × (List V × Nat) => e.2.2) x < (fun e : Sl × (List V × Nat) => e.2.2) y := by
  have := QhX ls
  rw [← hz2, List.pairwise_map] at this
  exact this
 rw [hD]
 refine SR.Qhj (R := H0) (P := P) (κ := fun a c => cmpR a.2.1 c.2.1) (ι := fun e => e.2.2) ⟨hsls, Heap.le.refl _, h0b, ⟨fun B hB x y hx hy Φ hΦ => ?_⟩, hlin⟩ hL0 hP hι fun Z hZp hZs => ?_
 ·have h : QG C x.1 y.1 (fun r B => Φ (.int .i64 r) B) B := Qeu (fun _ h => h) hB hx hy hΦ
  exact ⟨_, [], [], rfl, Qat, Spec.mono h fun v B2 ⟨r, e, h⟩ => by rw [e]; exact h⟩
 have hZ : ∀ e ∈ Z, e ∈ L0 := fun e he => hZp.mem_iff.1 he
 have hPZ : ∀ e ∈ Z, P e := fun e he => hP e (hZ e he)
 have hrep := QiZ hlin hZs hPZ
 refine SR.QhL (R := H0) (P := P) (κ := fun a c => cmpR a.2.1 c.2.1) hsls (by dsimp only; omega) (Heap.le.refl _) h0b ⟨fun B hB x y hx hy Φ hΦ => ?_⟩ (by rw [hZp.length_eq, hL0]) hPZ fun sp2 hsp => ?_
 ·have h : Qdn C x.1 y.1 (fun r B => Φ (.bool r) B) B := by
   apply QeT
   unfold Qc9
   exact Qeu (fun _ h => h) hB hx hy hΦ
  exact ⟨_, [], [], rfl, Qe7, Spec.mono h fun v B2 ⟨r, e, h⟩ => by rw [e]; exact h⟩
 have hlz := hZp.length_eq
 have hcl := Qh5 (κ := fun a c : Sl × (List V × Nat) => cmpR a.2.1 c.2.1) Z
 generalize hQ : cmpct (fun a c : Sl × (List V × Nat) => cmpR a.2.1 c.2.1) Z = Q at *
 have hfQ : Q.flatMap SR.enc = Q.map fun e => slv e.1 := by
  clear hrep hQ hsp hcl
  induction Q with
  | nil => rfl
  | cons e Q ih => rw [List.flatMap_cons, ih]; rfl
 have hup : H0.le ((SR.arr H0 b sp2 Q).off ⟨some (b, 0), Q.length, s.cap, none⟩) := fun x e hx => by
  have hne : x ≠ b := fun e' => by rw [e', h0b] at hx; cases hx
  refine Heap.off_some ?_ fun p hp' e' => ?_
  ·unfold SR.arr; rw [Heap.put_ne _ _ _ hne]; exact hx
  ·simp only [Option.some.injEq] at hp'
   subst hp'; exact hne e'.symm
 refine k _ _ Q ⟨⟨SR.QhZ hH0 hbF sp2 Q, ⟨by simp, rfl, by show Q.length ≤ s.cap; omega, .inr ⟨b, sp2, rfl, ?_, ?_⟩⟩, fun p hp' => ?_⟩, fun e he => ?_, ?_, by omega⟩
 ·unfold SR.arr; rw [Heap.put_same, hfQ]
 ·show s.cap * 1 ≤ _
  rw [List.length_append, List.length_map] at *
  omega
 ·simp only [Option.some.injEq] at hp'
  subst hp'; exact hbF
 ·exact (hmem e (hZ e (hrep.sub e he))).1.up hup
 ·rw [← hz2]
  exact Rep.map (κ' := fun a b : List V × Nat => cmpR a.1 b.1) (ι' := fun a : List V × Nat => a.2) (f := fun e : Sl × (List V × Nat) => e.2) (fun _ _ => rfl) (fun _ => rfl) (hrep.perm hZp)
theorem Srt.rows {H2 : Heap} {ls : List (List V)} {t : Sl} {A : List (Sl × (List V × Nat))} (h : Srt H H2 ls t A) : VRows H2 t (A.map fun e => e.2.1) := by
 refine ⟨A.map fun e => e.1, ?_, by have := h.own.own.1; simp at this; simp; omega, by simp, fun i x l hx hl => ?_⟩
 ·have := h.own.own.rdsl; rw [List.map_map]; exact this
 ·rw [List.getElem?_map] at hx hl
  cases he : A[i]? with
  | none => rw [he] at hx; cases hx
  | some e =>
   rw [he] at hx hl
   simp only [Option.map_some, Option.some.injEq] at hx hl
   subst hx; subst hl
   exact (h.row e (List.mem_of_getElem? he)).row2.le (Heap.off_le _ _)
theorem Srt.mem {H2 : Heap} {ls : List (List V)} {t : Sl} {A : List (Sl × (List V × Nat))} (h : Srt H H2 ls t A) {l : List V} (hl : l ∈ A.map fun e => e.2.1) : l ∈ ls := by
 obtain ⟨e, he, rfl⟩ := List.mem_map.1 hl
 have := h.rep.sub e.2 (List.mem_map.2 ⟨e, he, rfl⟩)
 rw [List.mem_zipIdx_iff_getElem?] at this
 exact List.mem_of_getElem? this
theorem Srt.asc {H2 : Heap} {ls : List (List V)} {t : Sl} {A : List (Sl × (List V × Nat))} (h : Srt H H2 ls t A) : (A.map fun e => e.2.1).Pairwise fun a b => cmpR a b < 0 := by
 have := h.rep.asc
 rw [List.pairwise_map] at this ⊢
 exact this
end
end
section
open Go Go.Proofs
/-- a list of entries that grows; rows are read in R -/
structure EnX (R H B : Heap) (es : List En) (s : Sl) (ys : List Qa) : Prop where
 own : OwnF H B 2 s (ys.flatMap Qa.c)
 len : ys.length = es.length
 done : ∀ (j : Nat) (e : En) (y : Qa), es[j]? = some e → ys[j]? = some y → EnIs R e y
theorem EnX.nil {R H : Heap} : EnX R H H [] Sl.nil [] := ⟨OwnF.nil H 2, rfl, fun j e y he => by simp at he⟩
theorem EnX.slen {R H B : Heap} {es : List En} {s : Sl} {ys : List Qa} (h : EnX R H B es s ys) : s.len = es.length := by have := h.own.own.1; rw [QbJ] at this; have := h.len; omega
theorem EnX.up {R H B B' : Heap} {es : List En} {s : Sl} {ys : List Qa} (h : EnX R H B es s ys) (hle : B.le B') : EnX R H B' es s ys := ⟨h.own.up hle, h.len, h.done⟩
theorem EnX.sl {R H B : Heap} {es : List En} {s : Sl} {ys : List Qa} (h : EnX R H B es s ys) (hn : es.length ≤ 140737488355328) : SlIs (EnIs R) Qa.c B s es :=
 ⟨ys, h.own.own.rdsl, by rw [h.slen, h.len], h.len.symm, hn, h.done⟩
theorem EnX.step {R H B B' : Heap} {es : List En} {s : Sl} {ys : List Qa} {e : En} {y : Qa} {K : Sl → Heap → Prop} (h : EnX R H B es s ys) (hle : B.le B') (hy : EnIs R e y) (hn : es.length ≤ 1000000)
 (k : ∀ r B2, EnX R H B2 (es ++ [e]) r (ys ++ [y]) → (B'.off s).le B2 → K r B2) : apd (Qa.c Qa.zero) 32 s (Qa.c y ++ []) 1 K B' := by
 have h := h.up hle
 have hsl := h.slen
 refine Qdd (zc := Qa.c Qa.zero) (cs := ys.flatMap Qa.c) h.own.own.off rfl (by omega) (by omega) fun r B2 q1 q2 => k r B2 ?_ q1.le
 have hHo := Heap.le_off h.own.le h.own.fresh
 refine ⟨?_, by simp [h.len], fun j e' y' he hy' => ?_⟩
 ·rw [List.flatMap_append]
  exact q1.down hHo
 ·by_cases hj : j < ys.length
  ·rw [List.getElem?_append_left hj] at hy'
   rw [List.getElem?_append_left (by rw [← h.len]; exact hj)] at he
   exact h.done j e' y' he hy'
  ·have hjl := (List.getElem?_eq_some_iff.1 hy').1
   rw [List.length_append, List.length_singleton] at hjl
   have hje : j = ys.length := by omega
   subst hje
   rw [List.getElem?_append_right (Nat.le_refl _), Nat.sub_self] at hy'
   rw [List.getElem?_append_right (by rw [h.len]; exact Nat.le_refl _), h.len, Nat.sub_self] at he
   simp only [List.getElem?_cons_zero, Option.some.injEq] at hy' he
   subst hy'; subst he; exact hy
theorem takeS {α : Type} {l : List α} {i : Nat} (h : i < l.length) : l.take (i + 1) = l.take i ++ [l[i]] := by rw [List.take_add_one, List.getElem?_eq_getElem h]; rfl
open Classical in
noncomputable def sumOf (l : List En) : List En := if h : ∃ o, IsSum l o then choose h else []
/-- the error of entries -/
noncomputable def errE (l : List En) : Int := if chkE l ≠ 0 then chkE l else if (sumOf l).any (fun o => outE o.2) then 80 else 0
/-- the entries, clean -/
noncomputable def clnE (l : List En) : List En := if errE l = 0 then nzE (sumOf l) else []
theorem QeP {l : List En} (h : chkE l = 0) : IsSum l (sumOf l) := by
 have hx := QiL _ l rfl (QgZ h).1
 unfold sumOf
 rw [dif_pos hx]
 exact Classical.choose_spec hx
theorem Qh1 {l : List En} (h : chkE l ≠ 0) : errE l = chkE l ∧ clnE l = [] := by
 have e : errE l = chkE l := by unfold errE; rw [if_pos h]
 exact ⟨e, by unfold clnE; rw [if_neg (by rw [e]; exact h)]⟩
theorem ResP.fn {l : List En} {e : Int} {out : List En} (h : ResP l e out) : e = errE l ∧ out = clnE l := by
 by_cases c : chkE l = 0
 ·have hs := QeP c
  cases hb : (sumOf l).any fun o => outE o.2 with
  | true =>
   have e1 : errE l = 80 := by unfold errE; rw [if_neg (by simpa using c), hb]; rfl
   obtain ⟨q1, q2⟩ := h.over c _ hs hb
   exact ⟨by rw [q1, e1], by rw [q2]; unfold clnE; rw [if_neg (by rw [e1]; decide)]⟩
  | false =>
   have e1 : errE l = 0 := by unfold errE; rw [if_neg (by simpa using c), hb]; rfl
   obtain ⟨q1, q2⟩ := h.ok c _ hs hb
   exact ⟨by rw [q1, e1], by rw [q2]; unfold clnE; rw [if_pos e1]⟩
 ·obtain ⟨q1, q2⟩ := h.err c
  obtain ⟨e1, e2⟩ := Qh1 c
  exact ⟨by rw [q1, e1], by rw [q2, e2]⟩
theorem Qg8 {l : List En} : errE l = 0 ↔ OkS l := by
 constructor
 ·intro h
  have c : chkE l = 0 := Classical.byContradiction fun c => by rw [(Qh1 c).1] at h; exact c h
  obtain ⟨m1, m2⟩ := QgZ c
  have hs := QeP c
  refine ⟨m1, m2, fun r => ?_⟩
  by_cases hr : ∃ e ∈ l, e.1 = r
  ·have hm := (hs.mem r (totE l r)).2 ⟨hr, rfl⟩
   cases hb : (sumOf l).any fun o => outE o.2 with
   | true => unfold errE at h; rw [if_neg (by simpa using c), hb] at h; cases h
   | false =>
    rw [List.any_eq_false] at hb
    simpa using hb _ hm
  ·rw [QaE fun e he e' => hr ⟨e, he, e'⟩]; rfl
 ·intro h
  have c := QjE h
  have hs := QeP c
  unfold errE
  rw [if_neg (by simpa using c), if_neg]
  rw [List.any_eq_true]
  rintro ⟨x, hx, hb⟩
  obtain ⟨_, h2⟩ := (hs.mem x.1 x.2).1 hx
  rw [h2, h.tot] at hb; cases hb
theorem Qe2 {l : List En} (h : errE l = 0) : IsSum l (sumOf l) ∧ clnE l = nzE (sumOf l) := by
 refine ⟨QeP (Classical.byContradiction fun c => by rw [(Qh1 c).1] at h; exact c h), ?_⟩
 unfold clnE; rw [if_pos h]
theorem Qg0 (l : List En) : (clnE l).length ≤ l.length := by
 by_cases h : errE l = 0
 ·obtain ⟨h1, h2⟩ := Qe2 h; rw [h2]; exact Qii h1
 ·unfold clnE; rw [if_neg h]; exact Nat.zero_le _
theorem QeO (l : List En) : (clnE l).Pairwise fun a b => cmpR a.1 b.1 < 0 := by
 by_cases h : errE l = 0
 ·obtain ⟨h1, h2⟩ := Qe2 h; rw [h2]; exact Qhc h1
 ·unfold clnE; rw [if_neg h]; exact List.Pairwise.nil
theorem Qeo {l : List En} {e : En} (h : e ∈ clnE l) : errE l = 0 ∧ (∃ x ∈ l, x.1 = e.1) ∧ e.2 = totE l e.1 ∧ e.2 ≠ 0 := by
 by_cases h0 : errE l = 0
 ·obtain ⟨h1, h2⟩ := Qe2 h0
  rw [h2] at h
  obtain ⟨q1, q2⟩ := Qkb h1 h
  exact ⟨h0, q1, q2, ((Qhx h1 e.1 e.2).1 h).2⟩
 ·unfold clnE at h; rw [if_neg h0] at h; simp at h
theorem Qh2 {l : List En} : ∀ e ∈ clnE l, mayR e.1 = true ∧ outE e.2 = false := fun e he => by
 obtain ⟨h0, ⟨x, hx, hr⟩, hn, _⟩ := Qeo he
 have ho := Qg8.1 h0
 exact ⟨by rw [← hr]; exact ho.may x hx, by rw [hn]; exact ho.tot _⟩
theorem Qe1 {l : List En} (hb : ∀ e ∈ l, okE e) : ∀ e ∈ clnE l, okE e := fun e he => by
 obtain ⟨h0, ⟨x, hx, hr⟩, hn, _⟩ := Qeo he
 have h1 := QjN (Qh2 e he).2
 have h2 := hb x hx
 unfold okE at h2 ⊢
 rw [hr] at h2
 exact ⟨h2.1, h2.2.1, by omega, by omega⟩
theorem Qhq {l : List En} {m : Nat} (hb : ∀ e ∈ l, wids e.1 ≤ m) : ∀ e ∈ clnE l, wids e.1 ≤ m := fun e he => by
 obtain ⟨h0, ⟨x, hx, hr⟩, hn, _⟩ := Qeo he
 rw [← hr]; exact hb x hx
/-- clean lists, rising, without 0: they stay -/
theorem Qhp {l : List En} (hp : l.Pairwise fun a b => cmpR a.1 b.1 < 0) (hm : ∀ e ∈ l, mayR e.1 = true ∧ outE e.2 = false) (h0 : ∀ e ∈ l, e.2 ≠ 0) : errE l = 0 ∧ clnE l = l := by
 have ht : ∀ e ∈ l, totE l e.1 = e.2 := fun e he => QiN hp he
 have ho : OkS l := ⟨fun e he => (hm e he).1, fun e he => (hm e he).2, fun r => by
  by_cases hr : ∃ e ∈ l, e.1 = r
  ·obtain ⟨e, he, rfl⟩ := hr; rw [ht e he]; exact (hm e he).2
  ·rw [QaE fun e he e' => hr ⟨e, he, e'⟩]; rfl⟩
 have he := Qg8.2 ho
 refine ⟨he, ?_⟩
 obtain ⟨h1, h2⟩ := Qe2 he
 rw [h2]
 refine Qd6 (Qhc h1) hp fun x => ?_
 obtain ⟨r, n⟩ := x
 rw [Qhx h1]
 constructor
 ·rintro ⟨rfl, hn⟩
  have : ∃ e ∈ l, e.1 = r := Classical.byContradiction fun hc => hn (QaE fun e he e' => hc ⟨e, he, e'⟩)
  obtain ⟨e, he, rfl⟩ := this
  rw [ht e he]; exact he
 ·intro hx
  exact ⟨(ht _ hx).symm, h0 _ hx⟩
theorem Qen (l : List En) : errE (clnE l) = 0 ∧ clnE (clnE l) = clnE l := Qhp (QeO l) Qh2 fun e he => (Qeo he).2.2.2
theorem Qjg {l : List En} (hl : errE l = 0) : errE (posE (clnE l)) = 0 ∧ clnE (posE (clnE l)) = posE (clnE l) := by
 have hk : (keepE (clnE l)).Sublist (clnE l) := List.filter_sublist ..
 refine Qhp ?_ (fun e he => ?_) fun e he => ?_
 ·unfold posE
  rw [List.pairwise_map]
  exact (QeO l).sublist hk
 ·obtain ⟨x, hx, rfl⟩ := List.mem_map.1 he
  exact ⟨(Qh2 x (hk.subset hx)).1, rfl⟩
 ·obtain ⟨x, hx, rfl⟩ := List.mem_map.1 he
  show (1 : Int) ≠ 0
  decide
theorem Qis {l : List En} (h : ∀ e ∈ l, okE e) : ∀ e ∈ posE l, okE e := fun e he => by
 obtain ⟨x, hx, rfl⟩ := List.mem_map.1 he
 have := h x (List.mem_filter.1 hx).1
 exact ⟨this.1, this.2.1, by dsimp only; omega, by dsimp only; omega⟩
section
variable {C : Ctx} {H A : Heap}
theorem pCleanF {a : Sl} {la : List En} {K : Sl → Int → Heap → Prop} (ha : EnL H a la) (hn : la.length ≤ 1000000) (hsz : ∀ x ∈ la, wids x.1 ≤ 2513169434843)
 (k : ∀ cs ys H0, OgE H H0 (clnE la) cs ys → K cs (errE la) H0) : Qay C a K H := by
 refine Qfc ha hn hsz (QhD (fun x hx => ?_) fun e out cs ys H0 h1 h2 => ?_)
 ·simp [seqS] at hx
  obtain ⟨r, n, h, rfl⟩ := hx
  exact (ha.oks _ h).2.2
 ·rw [esC] at h1
  obtain ⟨rfl, rfl⟩ := h1.fn
  exact k cs ys H0 h2
theorem pDistF {a : Sl} {la : List En} {K : Sl → Int → Heap → Prop} (ha : EnL H a la) (hn : la.length ≤ 1000000) (hsz : ∀ x ∈ la, wids x.1 ≤ 2513169434843)
 (k : ∀ cs ys H0, OgE H H0 (posE (clnE la)) cs ys → K cs (errE la) H0) : Qad C a K H := by
 refine Qi9 ha hn hsz fun e out cs ys H0 h1 _ h2 => ?_
 obtain ⟨rfl, rfl⟩ := h1.fn
 exact k cs ys H0 h2
end
end
section
open Go Go.Proofs
theorem Qir (l : List En) : posE (posE l) = posE l := by
 have h : keepE (posE l) = posE l := by
  refine List.filter_eq_self.2 fun e he => ?_
  obtain ⟨x, _, rfl⟩ := List.mem_map.1 he
  simp
 show (keepE (posE l)).map _ = posE l
 rw [h]
 refine (List.map_congr_left (g := id) fun e he => ?_).trans (List.map_id _)
 obtain ⟨x, _, rfl⟩ := List.mem_map.1 he
 rfl
def uniE (ls : List (List V)) : List En := ls.map fun l => (l, (1 : Int))
theorem QiR (r : List V) : ∀ ls : List (List V), 0 ≤ totE (uniE ls) r ∧ (r ∈ ls → 0 < totE (uniE ls) r)
 | [] => ⟨by simp [uniE, totE], fun h => by simp at h⟩
 | l :: ls => by
  obtain ⟨h1, h2⟩ := QiR r ls
  simp only [uniE, List.map_cons, totE] at h1 h2 ⊢
  refine ⟨by split <;> omega, fun h => ?_⟩
  rcases List.mem_cons.1 h with rfl | h
  ·rw [if_pos (Qbo.2 rfl)]; omega
  ·have := h2 h
   split <;> omega
theorem Qkc {ls : List (List V)} (hm : ∀ l ∈ ls, mayR l = true) (hn : ls.length ≤ 1000) : errE (uniE ls) = 0 := by
 refine Qg8.2 (Qim (fun e he => ?_) (by unfold uniE; rw [List.length_map]; omega))
 obtain ⟨l, hl, rfl⟩ := List.mem_map.1 he
 exact ⟨by dsimp only; omega, by dsimp only; omega, hm l hl⟩
theorem Qjf (l : List En) : (posE (clnE l)).Pairwise fun a b => cmpR a.1 b.1 < 0 := by
 unfold posE
 rw [List.pairwise_map]
 exact (QeO l).sublist (List.filter_sublist ..)
theorem QjM {ls : List (List V)} (h0 : errE (uniE ls) = 0) (x : En) : x ∈ posE (clnE (uniE ls)) ↔ x.1 ∈ ls ∧ x.2 = 1 := by
 constructor
 ·intro h
  obtain ⟨y, hy, rfl⟩ := List.mem_map.1 h
  obtain ⟨_, ⟨z, hz, hzr⟩, _⟩ := Qeo (List.mem_filter.1 hy).1
  obtain ⟨l, hl, rfl⟩ := List.mem_map.1 hz
  exact ⟨by dsimp only at hzr ⊢; rw [← hzr]; exact hl, rfl⟩
 ·rintro ⟨h1, h2⟩
  have ht := (QiR x.1 ls).2 h1
  obtain ⟨s1, s2⟩ := Qe2 h0
  have hm : (x.1, totE (uniE ls) x.1) ∈ clnE (uniE ls) := by rw [s2]; exact (Qhx s1 _ _).2 ⟨rfl, by omega⟩
  refine List.mem_map.2 ⟨_, List.mem_filter.2 ⟨hm, by simp; omega⟩, ?_⟩
  obtain ⟨r, n⟩ := x
  dsimp only at h2; subst h2; rfl
theorem QjT {ls R : List (List V)} (h0 : errE (uniE ls) = 0) (hr : R.Pairwise fun a b => cmpR a b < 0) (hm : ∀ r, r ∈ R ↔ r ∈ ls) : (posE (clnE (uniE ls))).map (fun e => e.1) = R := by
 have h : posE (clnE (uniE ls)) = R.map fun r => (r, (1 : Int)) := by
  refine Qd6 (Qjf _) (by rw [List.pairwise_map]; exact hr) fun x => ?_
  rw [QjM h0, List.mem_map]
  constructor
  ·rintro ⟨h1, h2⟩; exact ⟨x.1, (hm _).2 h1, by rw [← h2]⟩
  ·rintro ⟨r, h1, rfl⟩; exact ⟨(hm _).1 h1, rfl⟩
 rw [h, List.map_map]
 exact List.map_id _
section
variable {C : Ctx} {H A : Heap}
theorem Qke {s : Sl} {ls : List (List V)} {K : Sl → Int → Heap → Prop} (hs : VRows A s ls) (hA : A.le H) (hb : ∀ l ∈ ls, VBs l ∧ l.length ≤ 2513169434843) (hn : ls.length ≤ 1000)
 (k : ∀ cs ys H0, OgE H H0 (clnE (uniE ls)) cs ys → K cs (errE (uniE ls)) H0) : QeW C s K H := by
 apply QhI
 unfold QfQ
 refine ⟨fun x D => ∃ (i : Nat) (ys : List Qa), x.2 = (i : Int) ∧ i ≤ ls.length ∧ EnX A H D (uniE (ls.take i)) x.1 ys, fun x _ => ls.length - x.2.toNat, ⟨0, [], rfl, Nat.zero_le _, EnX.nil⟩, ?_⟩
 rintro ⟨r, _⟩ D ⟨i, ys, rfl, hi, hg⟩
 have hlen : (uniE (ls.take i)).length ≤ 1000 := by unfold uniE; rw [List.length_map, List.length_take]; omega
 have hAD := hA.trans hg.own.le
 rw [hs.len]
 refine ift.of (fun hc => ?_) (fun hc => ?_)
 ·have hlt : i < ls.length := by have := of_decide_eq_true hc; dsimp only at this; omega
  have hbl := hb _ (List.getElem_mem hlt)
  refine hs.ld hAD rfl hlt fun t ht => ?_
  refine hg.step (e := (ls[i], 1)) (y := (⟨t, 1⟩ : Qa)) (Heap.le.refl _) ⟨ht, hbl.1, by dsimp only; omega, rfl, by dsimp only; omega, by dsimp only; omega⟩ (by omega) fun r2 B2 h3 _ => ?_
  rw [Qi (by dsimp only; omega) (by dsimp only; omega)]
  refine ⟨⟨i + 1, ys ++ [(⟨t, 1⟩ : Qa)], by dsimp only; omega, by omega, ?_⟩, by first | omega | (dsimp only; omega)⟩
  unfold uniE at h3 ⊢
  rw [takeS hlt, List.map_append]; exact h3
 ·have hie : i = ls.length := by have := of_decide_eq_false hc; dsimp only at this; omega
  subst hie
  rw [List.take_length] at hg hlen
  have he : EnL D r (uniE ls) := SlIs.le (Heap.le.refl _) (hg.sl (by omega)) fun _ _ _ h => h.le hAD
  refine pCleanF he (by omega) (fun x hx => ?_) fun cs ys H0 g => k cs ys H0 (g.down hg.own.le)
  obtain ⟨l, hl, rfl⟩ := List.mem_map.1 hx
  exact Qhm (hb l hl).1 (hb l hl).2
theorem Qja {s : Sl} {l : List En} {K : Sl → Int → Heap → Prop} (hs : EnL H s l) (hn : l.length ≤ 1000) (hsz : ∀ x ∈ l, wids x.1 ≤ 2513169434843)
 (k : ∀ r H0, H.le H0 → VRows H0 r ((posE (clnE l)).map fun e => e.1) → K r (errE l) H0) : QdD C s K H := by
 apply Qgo
 unfold QeG
 refine pDistF hs (by omega) hsz fun r1 y1 H3 g => ?_
 have hl := Qg0 l
 have hpl : (posE (clnE l)).length ≤ 1000 := by
  unfold posE keepE
  rw [List.length_map]
  exact Nat.le_trans (List.length_filter_le ..) (by omega)
 have e1 : EnL H3 r1 (posE (clnE l)) := g.en (Qis (Qe1 hs.oks)) (by omega)
 refine ⟨fun x D => ∃ (i : Nat) (xs : List Sl), x.2 = (i : Int) ∧ i ≤ (posE (clnE l)).length ∧ OwnF H3 D 1 x.1 (xs.map slv) ∧ xs.length = i ∧ ∀ (j : Nat) (x : Sl) (v : En), xs[j]? = some x → (posE (clnE l))[j]? = some v → VRow H3 x v.1, fun x _ => (posE (clnE l)).length - x.2.toNat, ⟨0, [], rfl, Nat.zero_le _, OwnF.nil H3 1, rfl, fun j x v hx => by simp at hx⟩, ?_⟩
 rintro ⟨r, _⟩ D ⟨i, xs, rfl, hi, hO, hxl, hx⟩
 have hsl : r.len = i := by have h1 : (xs.map slv).length = r.len * 1 := hO.own.1; rw [List.length_map] at h1; omega
 rw [e1.len]
 refine ift.of (fun hc => ?_) (fun hc => ?_)
 ·have hlt : i < (posE (clnE l)).length := by have := of_decide_eq_true hc; dsimp only at this; omega
  refine SlIs.ld e1 hO.le (z := 2) (fun _ => rfl) (by omega) rfl hlt fun y hy => ?_
  intro b nb
  refine nwT rfl ?_
  have lb := Heap.le_put nb (g := .row (Qa.c y)) (m := true)
  have cb : (D.put b (.row (Qa.c y))) b = some (true, .row (Qa.c y)) := Heap.put_same ..
  refine fL cb (t := y.Row) rfl ?_
  refine Qdd (zc := [slv Sl.nil]) (hO.up lb) rfl (by show (r.len + 1) * 24 ≤ _; omega) (by show r.len + 1 ≤ _; omega) fun r2 D2 q1 q2 => ?_
  rw [Qi (by dsimp only; omega) (by dsimp only; omega)]
  refine ⟨⟨i + 1, xs ++ [y.Row], by dsimp only; omega, by omega, by rw [List.map_append]; exact q1, by simp [hxl], fun j x v hxj hv => ?_⟩, by first | omega | (dsimp only; omega)⟩
  by_cases hj : j < xs.length
  ·rw [List.getElem?_append_left hj] at hxj
   exact hx j x v hxj hv
  ·have hjl := (List.getElem?_eq_some_iff.1 hxj).1
   rw [List.length_append, List.length_singleton] at hjl
   have hje : j = i := by omega
   subst hje
   rw [List.getElem?_append_right (by omega), hxl, Nat.sub_self] at hxj
   simp only [List.getElem?_cons_zero, Option.some.injEq] at hxj
   rw [List.getElem?_eq_getElem hlt] at hv
   have hv := Option.some.inj hv
   subst hxj; subst hv
   exact hy.1
 ·have hie : i = (posE (clnE l)).length := by have := of_decide_eq_false hc; dsimp only at this; omega
  refine k r D (g.own.le.trans hO.le) ⟨xs, hO.own.rdsl, by omega, by rw [List.length_map]; omega, fun j x v hxj hv => ?_⟩
  rw [List.getElem?_map] at hv
  obtain ⟨e, he, rfl⟩ := Option.map_eq_some_iff.1 hv
  exact (hx j x e hxj he).le hO.le
theorem QgT {A B : Heap} {ls : List (List V)} {s t : Sl} {K : Bool → Heap → Prop} (hs : VRows A s ls) (ht : VRows B t ls) (hA : A.le H) (hB : B.le H) (hn : ls.length ≤ 140737488355328) (hb : ∀ l ∈ ls, VBs l ∧ l.length ≤ 140737488355328) (k : K true H) : QbO C s t K H := by
 apply Qel
 unfold QcD
 rw [hs.len, ht.len]
 refine QA (by simp) ?_
 refine ⟨fun x D => D = H ∧ ∃ i : Nat, x = (i : Int) ∧ i ≤ ls.length, fun x _ => ls.length - x.toNat, ⟨rfl, 0, rfl, Nat.zero_le _⟩, ?_⟩
 rintro _ D ⟨rfl, i, rfl, hi⟩
 refine ift.of (fun h => ?_) (fun h => k)
 have hlt : i < ls.length := by have := of_decide_eq_true h; omega
 have hm := hb _ (List.getElem_mem hlt)
 refine ⟨_, Heap.le.refl _, hs.ld hA rfl hlt fun x hx => ht.ld hB rfl hlt fun y hy => QfF (hx.le hA) (hy.le hB) hm.2 hm.1 ⟨Heap.le.refl _, ?_⟩⟩
 rw [Qbo.2 rfl]
 refine QA rfl ?_
 rw [Qi (by omega) (by omega)]
 exact ⟨⟨rfl, i + 1, by omega, by omega⟩, by first | omega | (dsimp only; omega)⟩
/-- the rows, sorted, each once -/
theorem QjY {H2 : Heap} {ls : List (List V)} {t : Sl} {S : List (Sl × (List V × Nat))} (h : Srt H H2 ls t S) (hm : ∀ l ∈ ls, mayR l = true) (r : List V) : r ∈ (S.map fun e => e.2.1) ↔ r ∈ ls := by
 refine ⟨fun hr => h.mem hr, fun hr => ?_⟩
 obtain ⟨i, hi, rfl⟩ := List.getElem_of_mem hr
 obtain ⟨y, hy, e⟩ := h.rep.all (ls[i], i) (by rw [List.mem_zipIdx_iff_getElem?]; exact List.getElem?_eq_getElem hi)
 obtain ⟨z, hz, rfl⟩ := List.mem_map.1 hy
 have hz1 : z.2.1 ∈ ls := h.mem (List.mem_map.2 ⟨z, hz, rfl⟩)
 have : z.2.1 = ls[i] := by
  dsimp only at e
  exact (QdR (hm _ hz1) (hm _ (List.getElem_mem hi))).1 e
 rw [← this]
 exact List.mem_map.2 ⟨z, hz, rfl⟩
end
end
section
open Go Go.Proofs
theorem tdiv10 {r : Nat} (h : r ≤ 140737488355328) : w .i64 (Int.tdiv (r : Int) 10) = ((r / 10 : Nat) : Int) := by
 have e : Int.tdiv (r : Int) 10 = ((r / 10 : Nat) : Int) := by rw [Int.tdiv_eq_ediv_of_nonneg (by omega)]; omega
 rw [e, Qi (by omega) (by omega)]
theorem wN {x : Int} {n : Nat} (h : x = (n : Int)) (hn : n ≤ 1000000000000000) : w .i64 x = (n : Int) := by subst h; rw [Qi (by omega) (by omega)]
theorem QjS {l : List En} {m : Nat} (h : ∀ e ∈ l, wids e.1 ≤ m) : ∀ e ∈ posE l, wids e.1 ≤ m := fun e he => by
 obtain ⟨x, hx, rfl⟩ := List.mem_map.1 he
 exact h x (List.mem_filter.1 hx).1
theorem QjR (l : List En) : (posE l).length ≤ l.length := by
 unfold posE keepE
 rw [List.length_map]
 exact List.length_filter_le ..
section
variable {C : Ctx} {H A : Heap}
theorem QgU (hw : ∀ {K : Bool → Heap → Prop} {H : Heap}, (∀ H2, H.le H2 → K true H2) → QbA C K H) {sx sr : Sl} {l : List En} {ls : List (List V)} {K : Bool → Heap → Prop} (hl : EnL H sx l) (hr : VRows H sr ls) (hb : ∀ l ∈ ls, VBs l ∧ l.length ≤ 2513169434843) (hn : ls.length ≤ 140737488355328) (k : ∀ H2, K true H2) : QaP C sx sr K H := by
 apply Qek
 unfold QcC
 have hll := hr.len
 rw [hll]
 refine ⟨fun x D => H.le D ∧ ∃ n i : Nat, x = ((n : Int), (i : Int)) ∧ i ≤ n ∧ i ≤ ls.length ∧ n ≤ 17592186044416, fun x _ => ls.length - x.2.toNat, ⟨Heap.le.refl _, 0, 0, rfl, Nat.le_refl _, Nat.zero_le _, by omega⟩, ?_⟩
 rintro _ D ⟨hD, n, i, rfl, hin, hi, hnb⟩
 refine ift.of (fun hc => ?_) (fun hc => ?_)
 ·rw [Bool.and_eq_true] at hc
  have hlt : i < ls.length := by have := of_decide_eq_true hc.1; dsimp only at this; omega
  have h40 : n < 40 := by have := of_decide_eq_true hc.2; dsimp only at this; omega
  have hbl := hb _ (List.getElem_mem hlt)
  rw [wN (x := ((n : Int), (i : Int)).1 + 1) (n := n + 1) (by dsimp only; omega) (by omega)]
  refine ⟨fun y E => H.le E ∧ ∃ m q : Nat, y = ((m : Int), (q : Int)) ∧ i + 1 ≤ m ∧ q ≤ ls[i].length ∧ m ≤ 17592186044416, fun y _ => ls[i].length - y.2.toNat, ⟨hD, n + 1, 0, rfl, by omega, Nat.zero_le _, by omega⟩, ?_⟩
  rintro _ E ⟨hE, m, q, rfl, him, hq, hmb⟩
  refine hr.ld hE rfl hlt fun t ht => ?_
  rw [ht.len]
  refine ift.of (fun hc2 => ?_) (fun hc2 => ?_)
  ·rw [Bool.and_eq_true] at hc2
   have hql : q < ls[i].length := by have := of_decide_eq_true hc2.1; dsimp only at this; omega
   have hm40 : m < 40 := by have := of_decide_eq_true hc2.2; dsimp only at this; omega
   refine hr.ld hE rfl hlt fun t2 ht2 => ht2.ld hE rfl hql fun y hy => ?_
   refine QgQ (m := 10) (hy.le hE) (hbl.1.mem (List.getElem_mem hql)) (by omega) (by omega) fun r r1 r2 _ => ?_
   rw [tdiv10 (by omega), wN (x := ((m : Int), (q : Int)).1 + ((r / 10 : Nat) : Int)) (n := m + r / 10) (by dsimp only; omega) (by omega), wN (x := ((m : Int), (q : Int)).2 + 1) (n := q + 1) (by dsimp only; omega) (by omega)]
   exact ⟨⟨hE, m + r / 10, q + 1, rfl, by omega, by omega, by omega⟩, by first | omega | (dsimp only; omega)⟩
  ·rw [wN (x := ((n : Int), (i : Int)).2 + 1) (n := i + 1) (by dsimp only; omega) (by omega)]
   exact ⟨⟨hE, m, i + 1, rfl, by omega, by omega, hmb⟩, by first | omega | (dsimp only; omega)⟩
 have h39 : decide (((n : Int), (i : Int)).1 ≥ 40) = false → ls.length ≤ 39 := fun h => by
  have h1 := of_decide_eq_false h
  dsimp only at h1
  have hi2 : ¬ i < ls.length := fun hlt => by
   have : (decide (((n : Int), (i : Int)).2 < (ls.length : Int)) && decide (((n : Int), (i : Int)).1 < 40)) = true := by
    rw [decide_eq_true (by dsimp only; omega), decide_eq_true (by dsimp only; omega)]; rfl
   rw [this] at hc; cases hc
  omega
 refine Qi5 hl hD fun r34 h34 => ?_
 refine ⟨fun b E => D.le E ∧ (b = false → (l.length ≤ 500 ∧ ∀ e ∈ l, vsizes e.1 ≤ 500) ∧ ls.length ≤ 39), ?_, ?_⟩
 ·refine ift.of (fun _ => ⟨Heap.le.refl _, fun e => (nomatch e)⟩) (fun h => ?_)
  rw [Bool.or_eq_false_iff] at h
  exact hw fun H3 h3 => ⟨h3, fun _ => ⟨h34 h.1, h39 h.2⟩⟩
 rintro b37 E ⟨hE, h37⟩
 refine ift.of (fun _ => hw fun H3 _ => k H3) (fun hb37 => ?_)
 obtain ⟨⟨l1, l2⟩, hls⟩ := h37 hb37
 have hHE := hD.trans hE
 clear h34 h37 h39 hc hb37
 have lw : ∀ e ∈ l, wids e.1 ≤ 2513169434843 := fun e he => by have := Qj3 e.1 (l2 e he); omega
 refine Qi2 hl hHE (by omega) lw fun r47 y47 H48 g1 => ?_
 have l48 := hHE.trans g1.own.le
 have e47 : EnL H48 r47 l := g1.en hl.oks (by omega)
 refine pCleanF e47 (by omega) lw fun r49 y49 H51 g2 => ?_
 have l51 := l48.trans g2.own.le
 have hcl := Qg0 l
 have e49 : EnL H51 r49 (clnE l) := g2.en (Qe1 hl.oks) (by omega)
 have cw : ∀ e ∈ clnE l, wids e.1 ≤ 2513169434843 := Qhq lw
 refine ⟨fun _ F => H51.le F, ?_, ?_⟩
 ·refine ift.of (fun h50 => ?_) (fun _ => Heap.le.refl _)
  have z0 : errE l = 0 := by simpa using h50
  refine pCleanF e49 (by omega) cw fun r57 y57 H59 g3 => ?_
  rw [(Qen l).1, z0]
  rw [(Qen l).2] at g3
  refine QiC (e49.le g3.own.le) (g3.en (Qe1 hl.oks) (by omega)) (Heap.le.refl _) rfl (by omega) fun H61 l61 => ?_
  refine QA rfl ?_
  have e61 := e49.le (g3.own.le.trans l61)
  rw [e61.len]
  refine ⟨fun x F => H61.le F ∧ ∃ i : Nat, x = (i : Int) ∧ i ≤ (clnE l).length, fun x _ => (clnE l).length - x.toNat, ⟨Heap.le.refl _, 0, rfl, Nat.zero_le _⟩, ?_⟩
  rintro _ F ⟨hF, i, rfl, hi⟩
  refine ift.of (fun hc => ?_) (fun hc => ?_)
  ·have hlt : i < (clnE l).length := by have := of_decide_eq_true hc; omega
   refine ⟨fun b G => G = F ∧ b = false, ?_, ?_⟩
   ·refine ⟨F, Heap.le.refl _, SlIs.fI e61 hF (z := 2) (fun _ => rfl) (by omega) rfl hlt (j := 1) (f := fun y => y.N) (fun _ => rfl) fun y hy => ?_⟩
    have hne := (Qeo (List.getElem_mem hlt)).2.2.2
    rw [hy.2.2.2.1]
    refine QA (by simpa using hne) ?_
    refine ift.of (fun hp => ?_) (fun _ => ⟨rfl, rfl⟩)
    have hp : 0 < i := by have := of_decide_eq_true hp; omega
    rw [wN (x := (i : Int) - 1) (n := i - 1) (by omega) (by omega)]
    refine SlIs.fL e61 hF (z := 2) (fun _ => rfl) (by omega) rfl (i := i - 1) (by omega) (j := 0) (f := fun y => y.Row) (fun _ => rfl) fun y1 h1 => SlIs.fL e61 hF (z := 2) (fun _ => rfl) (by omega) rfl hlt (j := 0) (f := fun y => y.Row) (fun _ => rfl) fun y2 h2 => ?_
    refine Qb7 (h1.1.le hF) (h2.1.le hF) h1.2.2.1 h2.2.2.1 h1.2.1 h2.2.1 ⟨Heap.le.refl _, rfl, ?_⟩
    have q1 := List.pairwise_iff_getElem.1 (QeO l) (i - 1) i (by omega) hlt (by omega)
    have q2 := (Lin.row.rng (clnE l)[i - 1].1 (clnE l)[i].1 trivial trivial).1
    have q3 : cmpR (clnE l)[i - 1].1 (clnE l)[i].1 = -1 := by omega
    rw [q3]; rfl
   ·rintro b G ⟨rfl, rfl⟩
    refine QA rfl ?_
    rw [wN (x := (i : Int) + 1) (n := i + 1) (by omega) (by omega)]
    exact ⟨⟨hF, i + 1, rfl, by omega⟩, by first | omega | (dsimp only; omega)⟩
  have hpl := QjR (clnE l)
  have pok := Qis (Qe1 hl.oks)
  refine pDistF (e61.le hF) (by omega) cw fun r100 y100 H102 g4 => ?_
  rw [(Qen l).1]
  rw [(Qen l).2] at g4
  have e100 := g4.en pok (by omega)
  have ps := Qjg z0
  refine pDistF e100 (by omega) (QjS cw) fun r103 y103 H105 g5 => ?_
  rw [ps.1]
  rw [ps.2, Qir] at g5
  refine QiC (e100.le g5.own.le) (g5.en pok (by omega)) (Heap.le.refl _) rfl (by omega) fun H107 l107 => ?_
  refine QA rfl ?_
  exact (g3.own.le.trans l61).trans (hF.trans (g4.own.le.trans (g5.own.le.trans l107)))
 rintro _ F hF
 have hHF := l51.trans hF
 refine ⟨fun x G => H.le G ∧ ∃ i : Nat, x = (i : Int) ∧ i ≤ ls.length ∧ ∀ j, (h : j < ls.length) → j < i → mayR ls[j] = true, fun x _ => ls.length - x.toNat, ⟨hHF, 0, rfl, Nat.zero_le _, fun j _ h => by omega⟩, ?_⟩
 rintro _ G ⟨hG, i, rfl, hi, hq⟩
 refine ift.of (fun hc => ?_) (fun hc => ?_)
 ·have hlt : i < ls.length := by have := of_decide_eq_true hc; omega
  have hbl := hb _ (List.getElem_mem hlt)
  refine ⟨fun x E => H.le E ∧ ∃ m : Nat, x = (m : Int) ∧ m ≤ ls[i].length ∧ (ls[i].take m).all mayV = true, fun x _ => ls[i].length - x.toNat, ⟨hG, 0, rfl, Nat.zero_le _, rfl⟩, ?_⟩
  rintro _ E2 ⟨hE2, m, rfl, hm, hqm⟩
  refine hr.ld hE2 rfl hlt fun t ht => ?_
  rw [ht.len]
  refine ift.of (fun hc => ?_) (fun hc => ?_)
  ·have hmt : m < ls[i].length := by have := of_decide_eq_true hc; omega
   refine hr.ld hE2 rfl hlt fun t2 ht2 => ht2.ld hE2 rfl hmt fun z hz => ?_
   refine Qcw (hz.le hE2) (hbl.1.mem (List.getElem_mem hmt)) ?_
   have hck : ((checkV ls[i][m] : Int) != 0) = !(mayV ls[i][m]) := by unfold mayV; rfl
   rw [hck]
   refine ift.of (fun _ => k _) (fun h3 => ?_)
   have h3 : mayV ls[i][m] = true := by simpa using h3
   rw [wN (x := (m : Int) + 1) (n := m + 1) (by omega) (by omega)]
   refine ⟨⟨hE2, m + 1, rfl, by omega, ?_⟩, by first | omega | (dsimp only; omega)⟩
   rw [List.take_add_one, List.getElem?_eq_getElem hmt, List.all_append, hqm]
   simp [h3]
  ·have hme : m = ls[i].length := by have := of_decide_eq_false hc; omega
   rw [wN (x := (i : Int) + 1) (n := i + 1) (by omega) (by omega)]
   refine ⟨⟨hE2, i + 1, rfl, by omega, fun j hj hji => ?_⟩, by first | omega | (dsimp only; omega)⟩
   rcases Nat.lt_or_ge j i with h4 | h4
   ·exact hq j hj h4
   ·have : j = i := by omega
    subst this
    rw [hme, List.take_length] at hqm
    exact hqm
 have hie : i = ls.length := by have := of_decide_eq_false hc; omega
 have hall : ∀ l ∈ ls, mayR l = true := fun l hl => by
  obtain ⟨j, hj, rfl⟩ := List.getElem_of_mem hl
  exact hq j hj (by omega)
 have z0 := Qkc hall (by omega)
 have o1 : (uniE ls).length = ls.length := by unfold uniE; rw [List.length_map]
 have okO : ∀ e ∈ uniE ls, okE e := fun e he => by
  obtain ⟨l, hl, rfl⟩ := List.mem_map.1 he
  have := hb l hl
  exact ⟨this.1, by dsimp only; omega, by dsimp only; omega, by dsimp only; omega⟩
 have owd : ∀ e ∈ uniE ls, wids e.1 ≤ 2513169434843 := fun e he => by
  obtain ⟨l, hl, rfl⟩ := List.mem_map.1 he
  exact Qhm (hb l hl).1 (hb l hl).2
 have c1 := Qg0 (uniE ls)
 refine Qke hr hG hb (by omega) fun r141 y141 H143 g1 => ?_
 rw [z0]
 have e141 : EnL H143 r141 (clnE (uniE ls)) := g1.en (Qe1 okO) (by omega)
 refine Qja e141 (by omega) (Qhq owd) fun r144 H146 l146 v144 => ?_
 rw [(Qen (uniE ls)).1]
 rw [(Qen (uniE ls)).2] at v144
 have hG6 := hG.trans (g1.own.le.trans l146)
 refine ⟨fun b _ => b = true, QaU rfl ?_, fun b E3 hb3 => by subst hb3; exact k _⟩
 refine Qjt hr hG6 (by omega) (fun l hl => ⟨(hb l hl).1, by have := (hb l hl).2; omega, Qhm (hb l hl).1 (hb l hl).2⟩) fun t2 H153 S hS => ?_
 have hR := QjT z0 hS.asc fun r => QjY hS hall r
 rw [hR] at v144
 refine QgT v144 hS.rows hS.own.le (Heap.le.refl _) (by have := hS.few; rw [List.length_map]; omega) (fun l hl => ?_) rfl
 have := hb l (hS.mem hl)
 exact ⟨this.1, by omega⟩
end
end
section
set_option maxRecDepth 100000
open Go Go.Proofs
section
variable {P : Program} {W : World}
theorem Qkk {α β : Type} {R : α → β → Prop} {c : β → List Value} {t e : TypeId} {z n : Nat} {cs : List Value} (h : TrW P W n t cs) (ht : P.underlying t = some (.slice e)) (hz : P.cellsOf e = z) (hz0 : 0 < z) (hb : 1 ≤ P.bytesOf e)
 (ih : ∀ m, m < n → ∀ cs, TrW P W m e cs → ∃ (v : α) (x : β), cs = c x ∧ R v x) : ∃ (s : Sl) (l : List α), cs = [slv s] ∧ SlIs R c (heapOf W) s l := by
 obtain ⟨s, css, m, hm, h1, h2, h3, h4, h5, h6, h7⟩ := h.slice ht hz hz0
 have key : ∀ (css : List (List Value)), (∀ c' ∈ css, ∃ (v : α) (x : β), c' = c x ∧ R v x) → ∃ (l : List α) (xs : List β), css.flatten = xs.flatMap c ∧ css.length = xs.length ∧ l.length = xs.length ∧ ∀ (i : Nat) (v : α) (x : β), l[i]? = some v → xs[i]? = some x → R v x := by
  intro css
  induction css with
  | nil => intro _; exact ⟨[], [], rfl, rfl, rfl, fun i v x hv => by simp at hv⟩
  | cons c' css ihc =>
   intro hh
   obtain ⟨v, x, g1, g2⟩ := hh c' (List.mem_cons_self ..)
   obtain ⟨l, xs, k1, k2, k3, k4⟩ := ihc fun c' hc => hh c' (List.mem_cons_of_mem _ hc)
   refine ⟨v :: l, x :: xs, by rw [List.flatten_cons, List.flatMap_cons, k1, g1], by simp [k2], by simp [k3], fun i v' x' hv hx => ?_⟩
   cases i with
   | zero => simp at hv hx; subst hv; subst hx; exact g2
   | succ i => exact k4 i v' x' (by simpa using hv) (by simpa using hx)
 obtain ⟨l, xs, k1, k2, k3, k4⟩ := key css fun c' hc => ih m hm c' (h7 c' hc).2
 have hmx : reachBytes = 140737488351232 := rfl
 rw [hmx] at h4
 have hsl : s.len ≤ 140737488351232 := Nat.le_trans (Nat.le_mul_of_pos_right _ (by omega)) h4
 exact ⟨s, l, h1, xs, by rw [← k1]; exact h6, by omega, k3, by omega, k4⟩
end
section
variable {W : World}
theorem valTE : ValT Tryz.prog 39 36 := ⟨⟨_, Tryz.underlying39, rfl, ⟨_, _, rfl, rfl, rfl, Tryz.underlying5, by kernel_rfl⟩, ⟨_, _, rfl, rfl, rfl, Tryz.underlying2, by kernel_rfl⟩, ⟨_, _, rfl, rfl, rfl, Tryz.underlying9, by kernel_rfl⟩, ⟨_, rfl, rfl, rfl, by kernel_rfl⟩⟩, by kernel_rfl, Tryz.underlying36⟩
theorem Qkh (n : Nat) {cs : List Value} (h : TrW Tryz.prog W n 52 cs) : ∃ (v : En) (x : Qa), cs = Qa.c x ∧ EnIs (heapOf W) v x := by
 obtain ⟨hl, m, rfl, hf⟩ := h.struct Tryz.underlying52
 rw [show Tryz.prog.cellsOf 52 = 2 by kernel_rfl] at hl
 match cs, hl with
 | [q0, q1], _ =>
 have g0 : TrW Tryz.prog W m 36 (([q0, q1].drop 0).take (Tryz.prog.cellsOf 36)) := hf 0 _ rfl
 have g1 : TrW Tryz.prog W m 3 (([q0, q1].drop 1).take (Tryz.prog.cellsOf 3)) := hf 1 _ rfl
 rw [show Tryz.prog.cellsOf 36 = 1 by kernel_rfl] at g0
 rw [show Tryz.prog.cellsOf 3 = 1 by kernel_rfl] at g1
 replace g0 : TrW Tryz.prog W m 36 [q0] := g0
 replace g1 : TrW Tryz.prog W m 3 [q1] := g1
 obtain ⟨y1, r1, z1, v1, w1, u1⟩ := Qiz valTE (of_decide_eq_true (by kernel_rfl)) g0
 obtain ⟨x1, e1, w2⟩ := g1.int Tryz.underlying3
 have hw : -9223372036854775808 ≤ x1 ∧ x1 ≤ 9223372036854775807 := by simpa [Lit.wf, IntKind.min, IntKind.max, IntKind.signed, IntKind.bits] using w2
 exact ⟨(r1, x1), ⟨y1, x1⟩, (show [q0, q1] = [q0] ++ [q1] from rfl).trans (by rw [z1, e1]; rfl), v1, w1, Nat.le_trans u1 (by decide), rfl, hw.1, by show x1 < _; omega⟩
theorem QiX {H : Type} {enc : TypeId × Value → H} {base : Nat} {v : Value} {d : DataW H} {p : List MemPlace} (hv : Value.okWide Tryz.prog W .any base 22 v) (h : DataW.Trod enc Tryz.prog W 0 (fun _ => true) true 22 v d p) (hw : ∀ w ∈ d.weights Tryz.prog 22, w ≤ reachBytes) :
 ∃ (s : Sl) (a : List En), v = slv s ∧ EnL (heapOf W) s a := by
 obtain ⟨x, len, c, rfl⟩ := WideShapes.okWide_slice Tryz.underlying22 hv
 obtain ⟨n, hn⟩ := TrW.of h hw
 obtain ⟨s, a, h1, h2⟩ := Qkk (R := EnIs (heapOf W)) (c := Qa.c) hn Tryz.underlying22 (show Tryz.prog.cellsOf 52 = 2 by kernel_rfl) (by omega) (of_decide_eq_true (by kernel_rfl)) (fun m hm cs hc => Qkh m hc)
 refine ⟨s, a, ?_, h2⟩
 simpa [Value.cells] using h1
end
end
section
open Go Go.Proofs
theorem ZsetOnce_all {C : Ctx} {H : Heap} {s t : Sl} {l : List En} {ls : List (List V)} (hl : EnL H s l) (hm : VRows H t ls) (hb : ∀ l ∈ ls, VBs l ∧ l.length ≤ 2513169434843) (hn : ls.length ≤ 140737488355328) : QaP C s t (fun r _ => r = true) H :=
 QgU (fun k => QiY k) hl hm hb hn fun _ => rfl
end
end Sx
end
