/-
  Texts of this family, one behind the other: Zs15, Zs16, Zs17, Zs18, Zs19, Zs20, Zs21, Zs22, ZsG, ZsH, ZsD, ZsE, DlQ, DlK, DlB, DlP, DlF, DlJ, DlG, DlX, DlY, DlL, DlM, DlN, DlO, DlA, EntR, RowI.
-/
import Derived.Test.YtgmcalaliipajaaGreatDoorAT5
noncomputable section
set_option linter.unusedVariables false
set_option linter.unusedSimpArgs false
set_option maxRecDepth 10000
namespace Sx
open Go Go.Proofs
theorem and_split {a b c d : Int} (h : (decide (a < b) && decide (c < d)) = false) : b ≤ a ∨ d ≤ c := by
 rw [Bool.and_eq_false_iff] at h
 rcases h with h | h
 ·left; have := of_decide_eq_false h; omega
 ·right; have := of_decide_eq_false h; omega
theorem and_both {a b c d : Int} (h : (decide (a < b) && decide (c < d)) = true) : a < b ∧ c < d := by
 rw [Bool.and_eq_true] at h
 exact ⟨of_decide_eq_true h.1, of_decide_eq_true h.2⟩
theorem large_ok {C : Ctx} {H A : Heap} {s : Sl} {l : List En} {K : Bool → Heap → Prop} (hs : EnL A s l) (hA : A.le H) (k : ∀ b, (b = false → l.length ≤ 120 ∧ ∀ e ∈ l, vsizes e.1 ≤ 120) → K b H) : c_law24_large C s K H := by
 apply ad_law24_large
 unfold sh_law24_large
 have hb := hs.bd
 rw [hs.len]
 refine ⟨fun x D => D = H ∧ ∃ i n : Nat, x.1 = (n : Int) ∧ x.2 = (i : Int) ∧ i ≤ l.length ∧ n ≤ 562949953421312 ∧ l.length ≤ n ∧ (n < 120 → ∀ j, (h : j < l.length) → j < i → vsizes l[j].1 ≤ n), fun x _ => l.length - x.2.toNat, ⟨rfl, 0, l.length, rfl, rfl, Nat.zero_le _, by omega, Nat.le_refl _, fun _ j h hj => by omega⟩, ?_⟩
 rintro ⟨_, _⟩ D ⟨rfl, i, n, rfl, rfl, hi, hn, hln, hq⟩
 refine ift.of (fun h => ?_) (fun h => ?_)
 ·have h0 := and_both h
  have hlt : i < l.length := by have := h0.1; dsimp only at this; omega
  have hn5 : n < 120 := by have := h0.2; dsimp only at this; omega
  refine SlIs.fL hs hA (z := 2) (fun _ => rfl) (by omega) rfl hlt (j := 0) (f := fun y => y.Row) (fun _ => rfl) fun y1 hy1 => ?_
  have hrl := hy1.1.len
  have hrb := hy1.2.2.1
  rw [hrl, w_i64 (by dsimp only; omega) (by dsimp only; omega)]
  refine ⟨fun x E => E = D ∧ ∃ m n2 : Nat, x.1 = (n2 : Int) ∧ x.2 = (m : Int) ∧ m ≤ l[i].1.length ∧ n2 ≤ 562949953421312 ∧ n ≤ n2 ∧ (n2 < 120 → n + l[i].1.length + vsizes (l[i].1.take m) ≤ n2), fun x _ => l[i].1.length - x.2.toNat, ⟨rfl, 0, n + l[i].1.length, by dsimp only; omega, rfl, Nat.zero_le _, by omega, by omega, fun _ => by simp [vsizes]⟩, ?_⟩
  rintro ⟨_, _⟩ E ⟨rfl, m, n2, rfl, rfl, hm, hn2, hnn, hq2⟩
  refine SlIs.fL hs hA (z := 2) (fun _ => rfl) (by omega) rfl hlt (j := 0) (f := fun y => y.Row) (fun _ => rfl) fun y2 hy2 => ?_
  rw [hy2.1.len]
  refine ift.of (fun h => ?_) (fun h => ?_)
  ·have h1 := and_both h
   have hmt : m < l[i].1.length := by have := h1.1; dsimp only at this; omega
   have hn25 : n2 < 120 := by have := h1.2; dsimp only at this; omega
   refine SlIs.fL hs hA (z := 2) (fun _ => rfl) (by omega) rfl hlt (j := 0) (f := fun y => y.Row) (fun _ => rfl) fun y3 hy3 => ?_
   refine SlIs.ld (VLs hy3.1 hy3.2.2.1) hA (z := 4) (fun _ => rfl) (by omega) rfl hmt fun x hx => ?_
   refine weight_ok (m := 120) (hx.le hA) (hy3.2.1.mem (List.getElem_mem hmt)) (by omega) (by omega) fun r r1 r2 r3 => ?_
   rw [w_i64 (by dsimp only; omega) (by dsimp only; omega), w_i64 (by dsimp only; omega) (by dsimp only; omega)]
   refine ⟨⟨rfl, m + 1, n2 + r, by dsimp only; omega, by dsimp only; omega, by omega, by omega, by omega, fun h5 => ?_⟩, by first | omega | (dsimp only; omega)⟩
   have h6 := hq2 hn25
   have h7 := r3 (by omega)
   rw [vsizes_take hmt]; omega
  ·have h1 := and_split h
   dsimp only at h1
   rw [w_i64 (by dsimp only; omega) (by dsimp only; omega)]
   refine ⟨⟨rfl, i + 1, n2, rfl, by dsimp only; omega, by omega, hn2, by omega, fun h5 j hj hji => ?_⟩, by first | omega | (dsimp only; omega)⟩
   have hme : m = l[i].1.length := by omega
   have h6 := hq2 h5
   rw [hme, List.take_length] at h6
   by_cases he : j = i
   ·subst he; omega
   ·have := hq (by omega) j hj (by omega); omega
 ·have h1 := and_split h
  dsimp only at h1
  refine k _ fun hf => ?_
  have hn5 : n < 120 := by have : ¬ (n : Int) ≥ 120 := of_decide_eq_false hf; omega
  have hie : i = l.length := by omega
  refine ⟨by omega, fun e he => ?_⟩
  obtain ⟨j, hj, rfl⟩ := List.getElem_of_mem he
  have := hq hn5 j hj (by omega); omega
end Sx
end

noncomputable section
set_option linter.unusedVariables false
set_option linter.unusedSimpArgs false
set_option maxRecDepth 10000
namespace Sx
open Go Go.Proofs
theorem ysE_take : ∀ (ys : List T_zset_Entry) (a : Nat), (ys.flatMap T_zset_Entry.c).take (a * 2) = (ys.take a).flatMap T_zset_Entry.c
 | [], a => by simp
 | y :: ys, 0 => by simp
 | y :: ys, a + 1 => by
  rw [List.flatMap_cons, List.take_succ_cons, List.flatMap_cons, List.take_append, show (T_zset_Entry.c y).length = 2 from rfl, List.take_of_length_le (by rw [show (T_zset_Entry.c y).length = 2 from rfl]; omega), show (a + 1) * 2 - 2 = a * 2 by omega, ysE_take ys a]
theorem ysE_drop : ∀ (ys : List T_zset_Entry) (a : Nat), (ys.flatMap T_zset_Entry.c).drop (a * 2) = (ys.drop a).flatMap T_zset_Entry.c
 | [], a => by simp
 | y :: ys, 0 => by simp
 | y :: ys, a + 1 => by
  rw [List.flatMap_cons, List.drop_succ_cons, List.drop_append, show (T_zset_Entry.c y).length = 2 from rfl, List.drop_of_length_le (by rw [show (T_zset_Entry.c y).length = 2 from rfl]; omega), List.nil_append, show (a + 1) * 2 - 2 = a * 2 by omega, ysE_drop ys a]
theorem ysE_set : ∀ (ys : List T_zset_Entry) (i : Nat) (n : Int) (h : i < ys.length) (sp : List Value), ((ys.flatMap T_zset_Entry.c) ++ sp).set (i * 2 + 1) (.int .i64 n) = ((ys.set i (⟨ys[i].Row, n⟩ : T_zset_Entry)).flatMap T_zset_Entry.c) ++ sp
 | [], i, n, h, sp => by simp at h
 | y :: ys, 0, n, h, sp => by simp [T_zset_Entry.c]
 | y :: ys, i + 1, n, h, sp => by
  have ih := ysE_set ys i n (by simpa using h) sp
  have e : (i + 1) * 2 + 1 = (i * 2 + 1) + 1 + 1 := by omega
  rw [List.set_cons_succ, List.flatMap_cons, List.flatMap_cons, e]
  show (slv y.Row :: Value.int .i64 y.N :: (ys.flatMap T_zset_Entry.c ++ sp)).set (i * 2 + 1 + 1 + 1) (.int .i64 n) = _
  rw [List.set_cons_succ, List.set_cons_succ, ih]
  rfl
theorem off_put {H : Heap} {s : Sl} {g : Nat} {o : GO} {x : Nat} (hp : s.p = some (g, x)) : (H.put g o).off s = H.off s := by
 funext b
 unfold Heap.off
 by_cases hb : g = b
 ·subst hb; rw [if_pos (by rw [hp]; rfl), if_pos (by rw [hp]; rfl)]
 ·rw [if_neg (by rw [hp]; simpa using hb), if_neg (by rw [hp]; simpa using hb), Heap.put_ne _ _ _ fun e => hb e.symm]
/-- an owned entry's number is set -/
theorem OgE.setN {H B : Heap} {es : List En} {s : Sl} {ys : List T_zset_Entry} {i : Nat} {n : Int} {g : Nat} {c : List Value} (h : OgE H B es s ys) (hi : i < es.length) (hp : s.p = some (g, 0)) (hc : B g = some (true, .row c)) :
 OgE H (B.put g (.row (c.set (i * 2 + 1) (.int .i64 n)))) (es.set i (es[i].1, n)) s (ys.set i (⟨(ys[i]'(by rw [h.len]; exact hi)).Row, n⟩ : T_zset_Entry)) := by
 have hi2 : i < ys.length := by rw [h.len]; exact hi
 obtain ⟨hle, ⟨q1, q2, q3, q4⟩, hf⟩ := h.own
 have hHg : H g = none := hf _ hp
 refine ⟨⟨le_put_off hle hHg, ⟨?_, q2, q3, ?_⟩, hf⟩, by simp [h.len], fun j e y he hy => ?_⟩
 ·rw [ysE_len, List.length_set, ← ysE_len]; exact q1
 ·rcases q4 with ⟨p0, _⟩ | ⟨g', sp, hp', hb, hcl⟩
  ·rw [p0] at hp; cases hp
  ·rw [hp] at hp'; injection hp' with hp'; injection hp' with hp' _; subst hp'
   rw [hc] at hb; injection hb with hb; injection hb with _ hb; injection hb with hb; subst hb
   refine .inr ⟨g, sp, hp, ?_, ?_⟩
   ·rw [Heap.put_same, ysE_set ys i n hi2 sp]
   ·rw [List.length_append, ysE_len, List.length_set, ← ysE_len, ← List.length_append]; exact hcl
 ·rw [off_put hp]
  by_cases hij : i = j
  ·subst hij
   rw [List.getElem?_set_self hi] at he
   rw [List.getElem?_set_self hi2] at hy
   injection he with he; injection hy with hy; subst he; subst hy
   obtain ⟨m1, _⟩ := h.done i _ _ (List.getElem?_eq_getElem hi) (List.getElem?_eq_getElem hi2)
   exact ⟨m1, rfl⟩
  ·rw [List.getElem?_set_ne hij] at he hy
   exact h.done j e y he hy
end Sx
end

noncomputable section
set_option linter.unusedVariables false
set_option linter.unusedSimpArgs false
set_option maxRecDepth 10000
namespace Sx
open Go Go.Proofs
end Sx
end

noncomputable section
set_option linter.unusedVariables false
set_option linter.unusedSimpArgs false
set_option maxRecDepth 10000
namespace Sx
open Go Go.Proofs
def okE (e : En) : Prop := VBs e.1 ∧ e.1.length ≤ 140737488355328 ∧ -9223372036854775808 ≤ e.2 ∧ e.2 < 9223372036854775808
section
variable {C : Ctx} {H A : Heap}
/-- where the document's entries stand -/
structure DC (H : Heap) (l : List En) (i : Nat) (outs : List En) (s : Sl) (D : Heap) : Prop where
 og : ∃ ys, OgE H D outs s ys
 sum : IsSum (l.take i) outs
 few : outs.length ≤ i
theorem mem_sum {es out : List En} (h : IsSum es out) {o : En} (ho : o ∈ out) : (∃ e ∈ es, e.1 = o.1) ∧ o.2 = totE es o.1 := (h.mem o.1 o.2).1 ho
theorem DC.ok {l : List En} {i : Nat} {outs : List En} {s : Sl} {D : Heap} (h : DC H l i outs s D) (hl : l.length ≤ 1000000) (hb : ∀ e ∈ l, VBs e.1 ∧ e.1.length ≤ 140737488355328) (hN : ∀ e ∈ l, -2147483647 ≤ e.2 ∧ e.2 ≤ 2147483647) : ∀ e ∈ outs, okE e ∧ -(2147483647 * (l.length : Int)) ≤ e.2 ∧ e.2 ≤ 2147483647 * (l.length : Int) := fun e he => by
 obtain ⟨⟨x, hx, hxe⟩, hn⟩ := mem_sum h.sum he
 have h1 := hb x (List.mem_of_mem_take hx)
 have h2 := totE_bd (r := e.1) (l := l.take i) fun y hy => hN y (List.mem_of_mem_take hy)
 have h3 : (l.take i).length ≤ l.length := by rw [List.length_take]; omega
 rw [← hn] at h2
 exact ⟨⟨by rw [← hxe]; exact h1.1, by rw [← hxe]; exact h1.2, by omega, by omega⟩, by omega, by omega⟩
end
end Sx
end

noncomputable section
set_option linter.unusedVariables false
set_option linter.unusedSimpArgs false
set_option maxRecDepth 10000
namespace Sx
open Go Go.Proofs
section
variable {C : Ctx} {H A : Heap}
end
end Sx
end

noncomputable section
set_option linter.unusedVariables false
set_option linter.unusedSimpArgs false
set_option maxRecDepth 10000
namespace Sx
open Go Go.Proofs
theorem put_id {H : Heap} {g : Nat} {c : List Value} (h : H g = some (true, .row c)) : H.put g (.row c) = H := by
 funext b
 by_cases hb : b = g
 ·subst hb; rw [Heap.put_same, h]
 ·rw [Heap.put_ne _ _ _ hb]
section
variable {C : Ctx} {H A : Heap}
end
end Sx
end

noncomputable section
set_option linter.unusedVariables false
set_option linter.unusedSimpArgs false
set_option maxRecDepth 10000
namespace Sx
open Go Go.Proofs
section
variable {C : Ctx} {H A : Heap}
end
end Sx
end

noncomputable section
set_option linter.unusedVariables false
set_option linter.unusedSimpArgs false
set_option maxRecDepth 10000
namespace Sx
open Go Go.Proofs
def nzE (o : List En) : List En := o.filter fun o => !(o.2 == 0)
structure ResP (l : List En) (e : Int) (out : List En) : Prop where
 err : chkE l ≠ 0 → e = chkE l ∧ out = []
 over : chkE l = 0 → ∀ o, IsSum l o → o.any (fun e => outE e.2) = true → e = 80 ∧ out = []
 ok : chkE l = 0 → ∀ o, IsSum l o → o.any (fun e => outE e.2) = false → e = 0 ∧ out = nzE o
def ResD (l : List En) (e : Int) (out : List En) : Prop := (chkE l ≠ 0 ∧ e = chkE l ∧ out = []) ∨ (chkE l = 0 ∧ ∃ o, IsSum l o ∧ ((o.any (fun e => outE e.2) = true ∧ e = 80 ∧ out = []) ∨ (o.any (fun e => outE e.2) = false ∧ e = 0 ∧ out = nzE o)))
theorem ResP.eq {l : List En} {e f : Int} {a b : List En} (h1 : ResP l e a) (h2 : ResD l f b) : e = f ∧ a = b := by
 rcases h2 with ⟨c, h3, h4⟩ | ⟨c, o, ho, ⟨q, h3, h4⟩ | ⟨q, h3, h4⟩⟩
 ·obtain ⟨g1, g2⟩ := h1.err c; exact ⟨by rw [g1, h3], by rw [g2, h4]⟩
 ·obtain ⟨g1, g2⟩ := h1.over c o ho q; exact ⟨by rw [g1, h3], by rw [g2, h4]⟩
 ·obtain ⟨g1, g2⟩ := h1.ok c o ho q; exact ⟨by rw [g1, h3], by rw [g2, h4]⟩
theorem out_do {b : Bool} {n : Int} (h0 : -9223372036854775808 ≤ n) (h1 : n < 9223372036854775808) : outE (doE b n) = outE n := by
 cases b with
 | false => rfl
 | true =>
  show outE (w .i64 (0 - n)) = outE n
  by_cases hm : n = -9223372036854775808
  ·subst hm; rfl
  ·rw [w_i64 (by omega) (by omega)]
   unfold outE
   rw [Bool.eq_iff_iff]
   simp only [Bool.or_eq_true, decide_eq_true_iff]
   omega
theorem sumsK_of {S : List (En × Bool)} {H : Heap} {K : Sl → Int → Heap → Prop} (hr : ∀ x ∈ S, -9223372036854775808 ≤ x.1.2 ∧ x.1.2 < 9223372036854775808) (k : ∀ e out cs ys H0, ResP (esS S) e out → OgE H H0 out cs ys → K cs e H0) : SumsK S H K := by
 have nil : ∀ H0, H.le H0 → OgE H H0 [] Sl.nil [] := fun H0 hH => OgE.nil.up hH
 have hmem : ∀ e ∈ esS S, ∃ x ∈ S, e = (x.1.1, doE x.2 x.1.2) := fun e he => by
  obtain ⟨x, hx, rfl⟩ := List.mem_map.1 he; exact ⟨x, hx, rfl⟩
 have hma : (∀ x ∈ S, mayR x.1.1 = true) → (esS S).any (fun e => !(mayR e.1)) = false := fun h => by
  rw [List.any_eq_false]; intro e he
  obtain ⟨x, hx, rfl⟩ := hmem e he
  rw [h x hx]; simp
 have hou : (esS S).any (fun e => outE e.2) = S.any fun x => outE x.1.2 := by
  unfold esS
  rw [List.any_map]
  rw [Bool.eq_iff_iff, List.any_eq_true, List.any_eq_true]
  constructor
  ·rintro ⟨x, hx, h⟩; exact ⟨x, hx, by rw [← out_do (b := x.2) (hr x hx).1 (hr x hx).2]; exact h⟩
  ·rintro ⟨x, hx, h⟩; exact ⟨x, hx, by show outE (doE x.2 x.1.2) = true; rw [out_do (hr x hx).1 (hr x hx).2]; exact h⟩
 have c0 : (∀ x ∈ S, mayR x.1.1 = true) → S.any (fun x => outE x.1.2) = false → chkE (esS S) = 0 := fun h1 h2 => by
  unfold chkE; rw [hma h1, hou, h2]; simp
 refine ⟨fun h H0 hH => k 4 [] _ _ H0 ?_ (nil H0 hH), fun h h2 H0 hH => k 80 [] _ _ H0 ?_ (nil H0 hH), fun h h2 h3 H0 hH => k 80 [] _ _ H0 ?_ (nil H0 hH), fun h h2 out cs ys H0 g1 g2 g3 => k 0 (nzE out) cs ys H0 ?_ g3⟩
 ·have : chkE (esS S) = 4 := by
   obtain ⟨x, hx, h⟩ := List.any_eq_true.1 h
   have hin : (x.1.1, doE x.2 x.1.2) ∈ esS S := List.mem_map.2 ⟨x, hx, rfl⟩
   have hany : (esS S).any (fun e => !(mayR e.1)) = true := List.any_eq_true.2 ⟨_, hin, h⟩
   unfold chkE
   rw [if_pos hany]
  exact ⟨fun _ => ⟨this.symm, rfl⟩, fun c => (by rw [this] at c; cases c), fun c => (by rw [this] at c; cases c)⟩
 ·have : chkE (esS S) = 80 := by unfold chkE; rw [hma h, hou, h2]; simp
  exact ⟨fun _ => ⟨this.symm, rfl⟩, fun c => (by rw [this] at c; cases c), fun c => (by rw [this] at c; cases c)⟩
 ·have c := c0 h h2
  obtain ⟨r, he, ho⟩ := h3
  refine ⟨fun n => absurd c n, fun _ o _ _ => ⟨rfl, rfl⟩, fun _ o hs hn => ?_⟩
  have := (hs.mem r _).2 ⟨he, rfl⟩
  rw [List.any_eq_true.2 ⟨_, this, ho⟩] at hn; cases hn
 ·have c := c0 h h2
  refine ⟨fun n => absurd c n, fun _ o hs hn => ?_, fun _ o hs hn => ⟨rfl, by rw [hs.uniq g1]⟩⟩
  rw [hs.uniq g1, g2] at hn; cases hn
section
variable {C : Ctx} {H A : Heap}
theorem EnL.nil {H : Heap} : EnL H Sl.nil [] := ⟨[], .inl rfl, rfl, rfl, by simp, fun i v x hv => by simp at hv⟩
theorem esS2 {la lb : List En} {tb : Bool} : esS (seqS [(la, false), (lb, tb)]) = la ++ lb.map fun e => (e.1, doE tb e.2) := by
 unfold esS seqS
 simp [List.map_append, Function.comp_def, doE]
end
end Sx
end

noncomputable section
set_option linter.unusedVariables false
set_option linter.unusedSimpArgs false
set_option maxRecDepth 10000
namespace Sx
open Go Go.Proofs
theorem nz_mem {es out : List En} (h : IsSum es out) (r : List V) (n : Int) : (r, n) ∈ nzE out ↔ n = totE es r ∧ n ≠ 0 := by
 unfold nzE
 rw [List.mem_filter, h.mem]
 constructor
 ·rintro ⟨⟨_, h1⟩, h2⟩
  exact ⟨h1, by simpa using h2⟩
 ·rintro ⟨h1, h2⟩
  refine ⟨⟨?_, h1⟩, by simpa using h2⟩
  exact Classical.byContradiction fun hn => h2 (by rw [h1]; exact totE_none fun e he e' => hn ⟨e, he, e'⟩)
theorem nz_rise {es out : List En} (h : IsSum es out) : (nzE out).Pairwise fun a b => cmpR a.1 b.1 < 0 := h.rise.filter _
theorem nz_uniq {es fs o p : List En} (h1 : IsSum es o) (h2 : IsSum fs p) (h : ∀ r, totE es r = totE fs r) : nzE o = nzE p :=
 rise_ext (nz_rise h1) (nz_rise h2) fun x => by obtain ⟨r, n⟩ := x; rw [nz_mem h1, nz_mem h2, h r]
theorem totE_at : ∀ {l : List En}, l.Pairwise (fun a b => cmpR a.1 b.1 < 0) → ∀ {r : List V} {n : Int}, (r, n) ∈ l → totE l r = n
 | [], _, r, n, h => by simp at h
 | e :: l, hp, r, n, h => by
  have hp' := List.pairwise_cons.1 hp
  simp only [totE]
  rcases List.mem_cons.1 h with h | h
  ·subst h
   rw [if_pos (sameVs_iff.2 rfl), totE_none fun e he e' => by have := hp'.1 e he; rw [e'] at this; exact lt_irr this]; omega
  ·have hne : sameVs e.1 r = false := by
    cases hb : sameVs e.1 r with
    | false => rfl
    | true => have := hp'.1 _ h; rw [sameVs_iff.1 hb] at this; exact absurd this lt_irr
   rw [hne, totE_at hp'.2 h]; simp
theorem nz_tot {es o : List En} (h : IsSum es o) (r : List V) : totE (nzE o) r = totE es r := by
 by_cases h0 : totE es r = 0
 ·rw [h0]; exact totE_none fun e he e' => by
   obtain ⟨q, n⟩ := e
   have := (nz_mem h q n).1 he
   subst e'; exact this.2 (by rw [this.1]; exact h0)
 ·exact totE_at (nz_rise h) ((nz_mem h r _).2 ⟨rfl, h0⟩)
theorem nz_none {es o : List En} (h : IsSum es o) (h0 : ∀ r, totE es r = 0) : nzE o = [] := by
 cases hn : nzE o with
 | nil => rfl
 | cons e l =>
  obtain ⟨q, n⟩ := e
  have := (nz_mem h q n).1 (by rw [hn]; exact List.mem_cons_self ..)
  exact absurd (this.1.trans (h0 q)) this.2
theorem outE_of {n : Int} (h0 : -2147483647 ≤ n) (h1 : n ≤ 2147483647) : outE n = false := by
 unfold outE
 rw [decide_eq_false (by omega), decide_eq_false (by omega)]; rfl
theorem of_outE {n : Int} (h : outE n = false) : -2147483647 ≤ n ∧ n ≤ 2147483647 := by
 unfold outE at h
 rw [Bool.or_eq_false_iff] at h
 have h1 := of_decide_eq_false h.1
 have h2 := of_decide_eq_false h.2
 omega
/-- entries that may be, whose sums may be -/
structure OkS (es : List En) : Prop where
 may : ∀ e ∈ es, mayR e.1 = true
 n : ∀ e ∈ es, outE e.2 = false
 tot : ∀ r, outE (totE es r) = false
theorem chkE_ok {es : List En} (h : OkS es) : chkE es = 0 := by
 unfold chkE
 rw [if_neg, if_neg]
 ·rw [List.any_eq_true]; rintro ⟨x, hx, h1⟩; rw [h.n x hx] at h1; cases h1
 ·rw [List.any_eq_true]; rintro ⟨x, hx, h1⟩; rw [h.may x hx] at h1; cases h1
theorem OkS.of {l m : List En} (h : OkS m) (ht : ∀ r, totE l r = totE m r) (hm : ∀ e ∈ l, mayR e.1 = true) (hn : ∀ e ∈ l, outE e.2 = false) : OkS l := ⟨hm, hn, fun r => by rw [ht r]; exact h.tot r⟩
theorem len_sub {α : Type} : ∀ {a b : List α}, a.Pairwise (fun x y => x ≠ y) → (∀ x ∈ a, x ∈ b) → a.length ≤ b.length
 | [], b, _, _ => Nat.zero_le _
 | x :: a, b, hp, hs => by
  have hp' := List.pairwise_cons.1 hp
  obtain ⟨b1, b2, rfl⟩ := List.append_of_mem (hs x (List.mem_cons_self ..))
  have := len_sub (b := b1 ++ b2) hp'.2 fun y hy => by
   have h1 := hs y (List.mem_cons_of_mem _ hy)
   rcases List.mem_append.1 h1 with h1 | h1
   ·exact List.mem_append_left _ h1
   ·rcases List.mem_cons.1 h1 with h1 | h1
    ·exact absurd h1.symm (hp'.1 y hy)
    ·exact List.mem_append_right _ h1
  simp only [List.length_append, List.length_cons] at this ⊢
  omega
theorem sum_len {es out : List En} (h : IsSum es out) : out.length ≤ es.length := by
 have := len_sub (a := out.map fun e => e.1) (b := es.map fun e => e.1) (by
  rw [List.pairwise_map]
  exact h.rise.imp fun {a b} hab e => by rw [e] at hab; exact lt_irr hab) fun r hr => by
   obtain ⟨e, he, rfl⟩ := List.mem_map.1 hr
   obtain ⟨⟨x, hx, hxr⟩, _⟩ := (h.mem e.1 e.2).1 he
   exact List.mem_map.2 ⟨x, hx, hxr⟩
 simpa using this
theorem nz_len {es out : List En} (h : IsSum es out) : (nzE out).length ≤ es.length := Nat.le_trans (List.length_filter_le ..) (sum_len h)
theorem nz_sub {es o : List En} (h : IsSum es o) {e : En} (he : e ∈ nzE o) : (∃ x ∈ es, x.1 = e.1) ∧ e.2 = totE es e.1 := (h.mem e.1 e.2).1 (List.mem_filter.1 he).1
def negE (l : List En) : List En := l.map fun e => (e.1, doE true e.2)
theorem esA {la lb : List En} : esS (seqS [(la, false), (lb, false)]) = la ++ lb := by
 rw [esS2]
 have : (lb.map fun e : En => (e.1, doE false e.2)) = lb := by
  rw [show (fun e : En => (e.1, doE false e.2)) = id from rfl, List.map_id]
 rw [this]
theorem esL {la lb : List En} : esS (seqS [(la, false), (lb, true)]) = la ++ negE lb := esS2
theorem esC {la : List En} : esS (seqS [(la, false)]) = la := by
 have : esS (seqS [(la, false)]) = la.map fun e : En => (e.1, doE false e.2) := by
  unfold esS seqS
  simp [Function.comp_def]
 rw [this, show (fun e : En => (e.1, doE false e.2)) = id from rfl, List.map_id]
end Sx
end

noncomputable section
set_option linter.unusedVariables false
set_option linter.unusedSimpArgs false
set_option maxRecDepth 10000
namespace Sx
open Go Go.Proofs
section
variable {C : Ctx} {H A : Heap}
theorem EnL.oks {s : Sl} {l : List En} (hs : EnL A s l) : ∀ e ∈ l, Sx.okE e := fun e he => by
 obtain ⟨xs, x1, x2, x3, x4, x5⟩ := hs
 obtain ⟨j, hj, rfl⟩ := List.getElem_of_mem he
 have := x5 j _ _ (List.getElem?_eq_getElem hj) (List.getElem?_eq_getElem (by omega))
 exact ⟨this.2.1, this.2.2.1, this.2.2.2.2⟩
theorem parts1 {a : Sl} {la : List En} {c : Nat} {m : Bool} {cap : Nat} (ha : EnL H a la) (h : H c = some (m, .row (T_zset_part.c (⟨a, fnv false⟩ : T_zset_part) ++ []))) :
 SlIs (PtIs H) T_zset_part.c H (Sl.of (some (c, 0)) 1 cap) [(la, false)] := by
 refine ⟨[(⟨a, fnv false⟩ : T_zset_part)], .inr ⟨rfl, _, rfl, rds_row h fun j v hj => by simpa using hj⟩, rfl, rfl, by simp, fun i v x hv hx => ?_⟩
 match i with
 | 0 => simp at hv hx; subst hv; subst hx; exact ⟨ha, rfl⟩
 | i + 1 => simp at hv
theorem pClean_ok {a : Sl} {la : List En} {K : Sl → Int → Heap → Prop} (ha : EnL H a la) (hn : la.length ≤ 1000000) (hsz : ∀ x ∈ la, vsizes x.1 ≤ 1000000) (k : SumsK (seqS [(la, false)]) H K) : c_zset_Clean C a K H := by
 apply ad_zset_Clean
 unfold sh_zset_Clean
 intro b1 n1
 have hle := Heap.le_put n1 (g := .row (T_zset_part.c (⟨a, fnv false⟩ : T_zset_part) ++ [])) (m := true)
 exact sums_ok (parts1 (ha.le hle) (Heap.put_same ..)) (by simp [seqS]; omega) (fun x hx => by
  simp [seqS] at hx
  obtain ⟨r, n, h, rfl⟩ := hx
  exact hsz (r, n) h) (k.up hle)
theorem same_ok {a b : Sl} {la lb : List En} {K : Bool → Heap → Prop} (ha : EnL A a la) (hb : EnL A b lb) (hA : A.le H) (hq : la = lb) (hn : la.length ≤ 1000000) (k : ∀ H2, H.le H2 → K true H2) : c_law24_same C a 0 b 0 K H := by
 subst hq
 apply ad_law24_same
 unfold sh_law24_same
 refine ⟨fun b E => b = true ∧ H.le E, ?_, ?_⟩
 ·exact ift_pos rfl (back_ok ha hA hn fun r H2 h2 g1 => back_ok hb (hA.trans h2) hn fun r2 H3 h3 g2 => dSameE_ok (g1.le h3) g2 (Heap.le.refl _) fun b hb => ⟨hb.2 rfl, h2.trans h3⟩)
 ·rintro b E ⟨rfl, hE⟩; exact k E hE
end
end Sx
end

noncomputable section
set_option linter.unusedVariables false
set_option linter.unusedSimpArgs false
set_option maxRecDepth 10000
namespace Sx
open Go Go.Proofs
section
variable {C : Ctx} {H A : Heap}
theorem eL {g : Nat} {s : Sl} {m : Bool} {zs : List T_zset_Entry} {sp : List Value} (hp : s.p = some (g, 0)) (hx : s.x = none) (hl : s.len = zs.length) (hn : zs.length ≤ 1000000) (hg : H g = some (m, .row (zs.flatMap T_zset_Entry.c ++ sp))) :
 SlIs (fun a b => b = a) T_zset_Entry.c H s zs :=
 ⟨zs, .inr ⟨hx, _, hp, rds_row hg fun j v hj => by rw [Nat.zero_add]; exact (List.getElem?_append_left (List.getElem?_eq_some_iff.1 hj).1).trans hj⟩, hl, rfl, by omega, fun i v x hv hx => by rw [hv] at hx; injection hx with hx; exact hx.symm⟩
theorem ysE_splice {zs : List T_zset_Entry} {sp : List Value} {i : Nat} {y : T_zset_Entry} (hi : i < zs.length) : splice (zs.flatMap T_zset_Entry.c ++ sp) (i * 2) (T_zset_Entry.c y) = (zs.set i y).flatMap T_zset_Entry.c ++ sp := by
 have hf := ysE_len zs
 unfold splice
 rw [List.take_append_of_le_length (by omega), ysE_take, show (T_zset_Entry.c y).length = 2 from rfl, show i * 2 + 2 = (i + 1) * 2 by omega, List.drop_append_of_le_length (by omega), ysE_drop, List.set_eq_take_append_cons_drop, if_pos hi]
 simp
theorem indexE_ok {xs : List T_zset_Entry} {s : Sl} {f : Value} {φ : T_zset_Entry → Bool} {K : Int → Heap → Prop} (hs : SlIs (fun a b => b = a) T_zset_Entry.c H s xs)
 (hf : ∀ x ∈ xs, ∀ Φ : Value → Heap → Prop, Φ (.bool (φ x)) H → callU Tryz.prog C f [.agg (T_zset_Entry.c x).toArray] H Φ)
 (k0 : xs.all (fun x => !(φ x)) = true → K (-1) H) (k1 : ∀ (i : Nat) (h : i < xs.length), φ xs[i] = true → (xs.take i).all (fun x => !(φ x)) = true → K i H) : c_slices_IndexFunc_zset_Entry_zset_Entry C s f K H := by
 apply ad_slices_IndexFunc_zset_Entry_zset_Entry
 unfold sh_slices_IndexFunc_zset_Entry_zset_Entry
 have hb := hs.bd
 rw [hs.len]
 refine ⟨fun x D => D = H ∧ ∃ i : Nat, x = (i : Int) ∧ i ≤ xs.length ∧ (xs.take i).all (fun x => !(φ x)) = true, fun x _ => xs.length - x.toNat, ⟨rfl, 0, rfl, Nat.zero_le _, by simp⟩, ?_⟩
 rintro _ D ⟨rfl, i, rfl, hi, hq⟩
 refine ift.of (fun h => ?_) (fun h => ?_)
 ·have hlt : i < xs.length := by have := of_decide_eq_true h; omega
  refine hs.ld (Heap.le.refl _) (fun _ => rfl) (by omega) rfl hlt fun y hy => ?_
  subst hy
  refine hf _ (List.getElem_mem hlt) _ ⟨_, rfl, ?_⟩
  refine ift.of (fun h2 => k1 i hlt h2 hq) (fun h2 => ?_)
  rw [w_i64 (by omega) (by omega)]
  refine ⟨⟨rfl, i + 1, by omega, by omega, ?_⟩, by first | omega | (dsimp only; omega)⟩
  rw [List.take_add_one, List.getElem?_eq_getElem hlt, List.all_append, hq]
  simp [h2]
 ·have hie : i = xs.length := by have := of_decide_eq_false h; omega
  rw [hie, List.take_length] at hq
  exact k0 hq
theorem filter_keep {α : Type} {p : α → Bool} {l : List α} {j : Nat} (hj : j < l.length) : (l.take (j + 1)).filter p = (l.take j).filter p ++ if p l[j] then [l[j]] else [] := by
 rw [List.take_add_one, List.getElem?_eq_getElem hj, List.filter_append]
 simp [List.filter_cons]
theorem deleteE_ok {Bo : Heap} {g : Nat} {s : Sl} {ys : List T_zset_Entry} {sp : List Value} {f : Value} {φ : T_zset_Entry → Bool} {K : Sl → Heap → Prop} (hp : s.p = some (g, 0)) (hx : s.x = none) (hl : s.len = ys.length) (hc : s.len ≤ s.cap)
 (hn : ys.length ≤ 1000000) (hB : Bo g = none) (hf : ∀ (E : Heap) (x : T_zset_Entry), x ∈ ys → Bo.le E → ∀ Φ : Value → Heap → Prop, Φ (.bool (φ x)) E → callU Tryz.prog C f [.agg (T_zset_Entry.c x).toArray] E Φ)
 (k : ∀ (E : Heap) (sp2 : List Value), Bo.le E → ((ys.filter fun x => !(φ x)).flatMap T_zset_Entry.c ++ sp2).length = (ys.flatMap T_zset_Entry.c ++ sp).length →
  K ⟨some (g, 0), (ys.filter fun x => !(φ x)).length, s.cap, none⟩ (E.put g (.row ((ys.filter fun x => !(φ x)).flatMap T_zset_Entry.c ++ sp2)))) :
 c_slices_DeleteFunc_zset_Entry_zset_Entry C s f K (Bo.put g (.row (ys.flatMap T_zset_Entry.c ++ sp))) := by
 have hse : s = ⟨some (g, 0), ys.length, s.cap, none⟩ := by
  obtain ⟨p, l, c, x⟩ := s
  simp only at hp hx hl
  subst hp; subst hx; subst hl; rfl
 apply ad_slices_DeleteFunc_zset_Entry_zset_Entry
 unfold sh_slices_DeleteFunc_zset_Entry_zset_Entry
 have hgg : (Bo.put g (.row (ys.flatMap T_zset_Entry.c ++ sp))) g = some (true, .row (ys.flatMap T_zset_Entry.c ++ sp)) := Heap.put_same ..
 refine indexE_ok (eL hp hx hl hn hgg) (fun x hx Φ h => hf _ x hx (le_put_off (Heap.le.refl _) hB) Φ h) (fun h => ?_) (fun i0 hi0 h1 h2 => ?_)
 ·refine ift_pos rfl ?_
  have e : (ys.filter fun x => !(φ x)) = ys := List.filter_eq_self.2 fun a ha => List.all_eq_true.1 h a ha
  have := k Bo sp (Heap.le.refl _) (by rw [e])
  rw [e, ← hse] at this
  exact this
 refine ift_neg (by simp) ?_
 rw [w_i64 (x := (i0 : Int) + 1) (by omega) (by omega), hl]
 refine ⟨fun x D => ∃ (E : Heap) (zs : List T_zset_Entry) (i j : Nat), x = ((i : Int), (j : Int)) ∧ D = E.put g (.row (zs.flatMap T_zset_Entry.c ++ sp)) ∧ Bo.le E ∧ zs.length = ys.length ∧ i < j ∧ j ≤ ys.length ∧ zs.take i = (ys.take j).filter (fun x => !(φ x)) ∧ zs.drop j = ys.drop j,
  fun x _ => ys.length - x.2.toNat, ⟨Bo, ys, i0, i0 + 1, rfl, rfl, Heap.le.refl _, rfl, by omega, by omega, ?_, rfl⟩, ?_⟩
 ·rw [filter_keep hi0, h1, List.filter_eq_self.2 fun a ha => List.all_eq_true.1 h2 a ha]
  simp
 rintro _ D ⟨E, zs, i, j, rfl, rfl, hE, hz, hij, hj, ht, hd⟩
 have hD : (E.put g (.row (zs.flatMap T_zset_Entry.c ++ sp))) g = some (true, .row (zs.flatMap T_zset_Entry.c ++ sp)) := Heap.put_same ..
 have hf2 := ysE_len zs
 refine ift.of (fun h => ?_) (fun h => ?_)
 ·have hlt : j < ys.length := by have := of_decide_eq_true h; dsimp only at this; omega
  have hzj : zs[j]'(by omega) = ys[j] := by
   have := congrArg (fun l => l[0]?) hd
   simp only [List.getElem?_drop, Nat.add_zero] at this
   rw [List.getElem?_eq_getElem (by omega), List.getElem?_eq_getElem hlt] at this
   injection this
  have hsl := eL hp hx (by rw [hl, hz]) (by omega) hD
  have w1 : w .i64 ((j : Int) + 1) = ((j + 1 : Nat) : Int) := by rw [w_i64 (by omega) (by omega)]; omega
  have w2 : w .i64 ((i : Int) + 1) = ((i + 1 : Nat) : Int) := by rw [w_i64 (by omega) (by omega)]; omega
  have hdj : zs.drop (j + 1) = ys.drop (j + 1) := by
   have := congrArg (List.drop 1) hd
   simpa [List.drop_drop] using this
  refine ⟨fun x9 D' => ∃ (E' : Heap) (zs' : List T_zset_Entry) (i' : Nat), x9 = (i' : Int) ∧ D' = E'.put g (.row (zs'.flatMap T_zset_Entry.c ++ sp)) ∧ Bo.le E' ∧ zs'.length = ys.length ∧ i' < j + 1 ∧ zs'.take i' = (ys.take (j + 1)).filter (fun x => !(φ x)) ∧ zs'.drop (j + 1) = ys.drop (j + 1), ?_, ?_⟩
  ·refine hsl.ld (Heap.le.refl _) (fun _ => rfl) (by omega) rfl (by omega) fun y hy => ?_
   subst hy
   rw [hzj]
   intro b nb
   refine nwT rfl ?_
   have hbg : b ≠ g := fun e => by subst e; rw [hD] at nb; cases nb
   have hEb : E b = none := by rw [Heap.put_ne _ _ _ hbg] at nb; exact nb
   rw [Heap.put_comm _ _ _ _ _ hbg.symm]
   have hE' : Bo.le (E.put b (.row (T_zset_Entry.c ys[j]))) := hE.trans (Heap.le_put hEb)
   have hb2 : ((E.put b (.row (T_zset_Entry.c ys[j]))).put g (.row (zs.flatMap T_zset_Entry.c ++ sp))) b = some (true, .row (T_zset_Entry.c ys[j])) := by rw [Heap.put_ne _ _ _ hbg, Heap.put_same]
   generalize E.put b (.row (T_zset_Entry.c ys[j])) = E2 at *
   refine bxT hb2 ?_
   refine hf _ _ (List.getElem_mem hlt) (le_put_off hE' hB) _ ⟨_, rfl, ?_⟩
   refine ift.of (fun h3 => ?_) (fun h3 => ?_)
   ·refine bxT hb2 ?_
    refine ⟨(g, 0), hp, hx, by omega, by omega, ?_⟩
    refine ⟨_, Heap.put_same .., ?_, ?_⟩
    ·show 0 + (i : Int).toNat * 2 + 2 ≤ _
     rw [List.length_append, hf2]; omega
    show ∃ E' zs' i', _
    refine ⟨E2, zs.set i ys[j], i + 1, w2, ?_, hE', by simp [hz], by omega, ?_, ?_⟩
    ·rw [Heap.put_put]
     have e0 : (g, 0).2 + ((i : Int)).toNat * 2 = i * 2 := by show 0 + _ = _; omega
     rw [e0, ysE_splice (by omega)]
    ·rw [filter_keep hlt, if_pos h3, ← ht, List.take_add_one, List.getElem?_set_self (by omega), List.take_set_of_le (by omega)]
     rfl
    ·rw [List.drop_set_of_lt (by omega)]; exact hdj
   ·have h4 : φ ys[j] = true := by simpa using h3
    refine ⟨E2, zs, i, rfl, rfl, hE', hz, by omega, ?_, hdj⟩
    rw [filter_keep hlt, if_neg (by simp [h4]), List.append_nil]; exact ht
  ·rintro x9 D' ⟨E', zs', i', rfl, rfl, q1, q2, q3, q4, q5⟩
   rw [w1]
   exact ⟨⟨E', zs', i', j + 1, rfl, rfl, q1, q2, q3, by omega, q4, q5⟩, by first | omega | (dsimp only; omega)⟩
 ·have hje : j = ys.length := by have := of_decide_eq_false h; dsimp only at this; omega
  subst hje
  rw [List.take_length] at ht
  have hfl : (ys.filter fun x => !(φ x)).length = i := by rw [← ht, List.length_take]; omega
  have hne : ¬ ((s.cap : Int) = (i : Int)) := by omega
  refine ⟨by omega, by omega, by omega, by omega, _, rfl, ?_⟩
  rw [if_neg hne, hp]
  have hx0 : (if (s.cap : Int) = (i : Int) ∨ (i : Int).toNat * 2 = 0 then s.x else none) = none := by rw [hx]; split <;> rfl
  rw [hx0]
  refine .inr ⟨(g, 0 + (i : Int).toNat * 2), _, rfl, rfl, Heap.put_same .., ?_, ?_⟩
  ·show 0 + (i : Int).toNat * 2 + ((ys.length : Int) - (i : Int)).toNat * 2 ≤ _
   rw [List.length_append, hf2]; omega
  rw [Heap.put_put]
  refine ⟨by omega, by omega, by omega, by omega, _, rfl, ?_⟩
  have hne2 : ¬ ((s.cap : Int) = 0) := by omega
  rw [if_neg hne2, hp]
  have hx1 : (if (s.cap : Int) = 0 ∨ (0 : Int).toNat * 2 = 0 then s.x else none) = none := by rw [hx]; split <;> rfl
  rw [hx1]
  have e1 : ((g, 0).1, (g, 0).2 + (0 : Int).toNat * 2) = (g, 0) := rfl
  simp only [Option.map_some, e1]
  have hZl : (zeros (T_zset_Entry.c T_zset_Entry.zero) (⟨some ((g, 0).1, (g, 0).2 + (i : Int).toNat * 2), ((ys.length : Int) - (i : Int)).toNat, ((s.cap : Int) - (i : Int)).toNat, none⟩ : Sl).len).length = (ys.length - i) * 2 := by
   rw [zeros_length]
   show ((ys.length : Int) - (i : Int)).toNat * 2 = _
   omega
  generalize zeros (T_zset_Entry.c T_zset_Entry.zero) (⟨some ((g, 0).1, (g, 0).2 + (i : Int).toNat * 2), ((ys.length : Int) - (i : Int)).toNat, ((s.cap : Int) - (i : Int)).toNat, none⟩ : Sl).len = Z at *
  have hs2 : splice (zs.flatMap T_zset_Entry.c ++ sp) (g, 0 + (i : Int).toNat * 2).2 Z = (ys.filter fun x => !(φ x)).flatMap T_zset_Entry.c ++ (Z ++ (zs.flatMap T_zset_Entry.c ++ sp).drop ((g, 0 + (i : Int).toNat * 2).2 + Z.length)) := by
   have e0 : (g, 0 + (i : Int).toNat * 2).2 = i * 2 := by show 0 + _ = _; omega
   unfold splice
   rw [e0, List.take_append_of_le_length (by omega), ysE_take, ht, List.append_assoc]
  have hl2 : (splice (zs.flatMap T_zset_Entry.c ++ sp) (g, 0 + (i : Int).toNat * 2).2 Z).length = (zs.flatMap T_zset_Entry.c ++ sp).length := splice_length (by
   show 0 + (i : Int).toNat * 2 + Z.length ≤ _
   rw [hZl, List.length_append, hf2]; omega)
  rw [hs2] at hl2 ⊢
  have e3 : ((i : Int) - 0).toNat = (ys.filter fun x => !(φ x)).length := by omega
  have e4 : ((s.cap : Int) - 0).toNat = s.cap := by omega
  rw [e3, e4]
  exact k E _ hE (by rw [hl2, List.length_append, List.length_append, hf2, ysE_len, hz])
theorem distinct1_ok {x : T_zset_Entry} {K : Bool → Heap → Prop} (k : K (decide (x.N < 0)) H) : c_zset_Distinct_1 C x K H := by
 apply c_zset_Distinct_1.gh
 apply ad_zset_Distinct_1
 unfold sh_zset_Distinct_1
 intro b1 n1
 exact fI (Heap.put_same ..) rfl ⟨H, Gh.le (Heap.le_put n1), k⟩
def keepE (l : List En) : List En := l.filter fun e => !(decide (e.2 < 0))
def posE (l : List En) : List En := (keepE l).map fun e => (e.1, 1)
theorem filter_two {α β : Type} {p : α → Bool} {q : β → Bool} : ∀ {al : List α} {bs : List β}, al.length = bs.length → (∀ (j : Nat) (a : α) (b : β), al[j]? = some a → bs[j]? = some b → p a = q b) →
 (al.filter p).length = (bs.filter q).length ∧ ∀ (j : Nat) (a : α) (b : β), (al.filter p)[j]? = some a → (bs.filter q)[j]? = some b → ∃ i : Nat, al[i]? = some a ∧ bs[i]? = some b
 | [], [], _, _ => ⟨rfl, fun j a b h => by simp at h⟩
 | a :: al, b :: bs, hl, h => by
  obtain ⟨h1, h2⟩ := filter_two (p := p) (q := q) (al := al) (bs := bs) (by simpa using hl) fun j x y hx hy => h (j + 1) x y (by simpa using hx) (by simpa using hy)
  have h0 := h 0 a b rfl rfl
  simp only [List.filter_cons, h0]
  cases hq : q b with
  | true =>
   simp only [if_true, List.length_cons, h1, true_and]
   intro j x y hx hy
   cases j with
   | zero => simp at hx hy; exact ⟨0, by simp [hx], by simp [hy]⟩
   | succ j =>
    obtain ⟨i, q1, q2⟩ := h2 j x y (by simpa using hx) (by simpa using hy)
    exact ⟨i + 1, by simpa using q1, by simpa using q2⟩
  | false =>
   simp only [Bool.false_eq_true, if_false, h1, true_and]
   intro j x y hx hy
   obtain ⟨i, q1, q2⟩ := h2 j x y hx hy
   exact ⟨i + 1, by simpa using q1, by simpa using q2⟩
theorem delOg {B : Heap} {es : List En} {s : Sl} {ys : List T_zset_Entry} {K : Sl → Heap → Prop} (h : OgE H B es s ys) (hn : es.length ≤ 1000000) (k : ∀ r zs D, OgE H D (keepE es) r zs → K r D) :
 c_slices_DeleteFunc_zset_Entry_zset_Entry C s (.func (.func 49) (List.toArray []) (List.toArray []) : Value) K B := by
 obtain ⟨hle, ⟨q1, q2, q3, q4⟩, hf⟩ := h.own
 have hsl := h.slen
 have hlen := h.len
 have e2 : ∀ x : T_zset_Entry, (!(decide (x.N < 0))) = !(decide (x.N < 0)) := fun _ => rfl
 rcases q4 with ⟨p0, c0⟩ | ⟨g, sp, hp, hb, hcl⟩
 ·have h0 : es = [] := List.length_eq_zero_iff.1 (by omega)
  subst h0
  have hy0 : ys = [] := List.length_eq_zero_iff.1 (by rw [hlen]; rfl)
  subst hy0
  apply ad_slices_DeleteFunc_zset_Entry_zset_Entry
  unfold sh_slices_DeleteFunc_zset_Entry_zset_Entry
  refine indexE_ok (xs := []) (φ := fun _ => false) ⟨[], .inl rfl, hsl, rfl, by simp, fun i v x hv => by simp at hv⟩ (fun x hx => by simp at hx) (fun _ => ift_pos rfl (k s [] B h)) (fun i hi => by simp at hi)
 have hB0 : (B.off s) g = none := Heap.off_fresh s B _ hp
 have heq : B = (B.off s).put g (.row (ys.flatMap T_zset_Entry.c ++ sp)) := by
  funext x
  by_cases hx : x = g
  ·subst hx; rw [Heap.put_same]; exact hb
  ·rw [Heap.put_ne _ _ _ hx]
   unfold Heap.off
   rw [if_neg (by rw [hp]; simpa using fun e : g = x => hx e.symm)]
 rw [heq]
 have hHo : H.le (B.off s) := Heap.le_off hle hf
 refine deleteE_ok (φ := fun x => decide (x.N < 0)) hp q2 (by rw [hsl, hlen]) q3 (by omega) hB0 (fun E x _ _ Φ hΦ => cu ok_zset_Distinct_1 (Spec.mono (distinct1_ok (C := C) (x := x) (H := E) (K := fun r H2 => Φ (.bool r) H2) hΦ) fun v H2 ⟨r, hv, hr⟩ => by rw [hv]; exact hr)) (fun E sp2 hE hl2 => ?_)
 obtain ⟨f1, f2⟩ := filter_two (p := fun e : En => !(decide (e.2 < 0))) (q := fun x : T_zset_Entry => !(decide (x.N < 0))) (al := es) (bs := ys) hlen.symm fun j a b ha hb => by rw [(h.done j a b ha hb).2]
 refine k _ (ys.filter fun x => !(decide (x.N < 0))) _ ⟨⟨le_put_off (hHo.trans hE) (hf _ hp), ⟨?_, rfl, ?_, .inr ⟨g, sp2, rfl, Heap.put_same .., ?_⟩⟩, fun p hp' => by injection hp' with hp'; subst hp'; exact hf _ hp⟩, f1.symm, fun j e y he hy => ?_⟩
 ·rw [ysE_len]
 ·show (ys.filter _).length ≤ s.cap
  have := List.length_filter_le (fun x : T_zset_Entry => !(decide (x.N < 0))) ys
  omega
 ·rw [hl2]; exact hcl
 ·rw [off_put (x := 0) rfl]
  obtain ⟨i, i1, i2⟩ := f2 j e y he hy
  obtain ⟨m1, m2⟩ := h.done i e y i1 i2
  refine ⟨m1.up fun x e hx => ?_, m2⟩
  have hxg : x ≠ g := fun e' => by subst e'; rw [hB0] at hx; cases hx
  unfold Heap.off
  rw [if_neg (by simpa using fun e : g = x => hxg e.symm)]
  exact hE _ _ hx
end
end Sx
end

noncomputable section
set_option linter.unusedVariables false
set_option linter.unusedSimpArgs false
set_option maxRecDepth 10000
namespace Sx
open Go Go.Proofs
theorem rise_split : ∀ {o : List En}, o.Pairwise (fun a b => cmpR a.1 b.1 < 0) → (∀ e ∈ o, mayR e.1 = true) → ∀ {r : List V}, mayR r = true → (∃ A n B, o = A ++ (r, n) :: B) ∨ ∃ A B, o = A ++ B ∧ (∀ a ∈ A, cmpR a.1 r < 0) ∧ ∀ b ∈ B, cmpR r b.1 < 0
 | [], _, _, r, _ => .inr ⟨[], [], rfl, fun a h => by simp at h, fun a h => by simp at h⟩
 | e :: o, hp, hm, r, hr => by
  have hp' := List.pairwise_cons.1 hp
  have he := hm e (List.mem_cons_self ..)
  rcases Int.lt_trichotomy (cmpR e.1 r) 0 with h | h | h
  ·rcases rise_split hp'.2 (fun x hx => hm x (List.mem_cons_of_mem _ hx)) hr with ⟨A, n, B, q⟩ | ⟨A, B, q, q1, q2⟩
   ·exact .inl ⟨e :: A, n, B, by rw [q]; rfl⟩
   ·refine .inr ⟨e :: A, B, by rw [q]; rfl, fun a ha => ?_, q2⟩
    rcases List.mem_cons.1 ha with rfl | ha
    ·exact h
    ·exact q1 a ha
  ·have e1 := (cmpR_zero he hr).1 h
   subst e1
   exact .inl ⟨[], e.2, o, rfl⟩
  ·have h2 : cmpR r e.1 < 0 := by have := Lin.row.anti e.1 r trivial trivial; omega
   refine .inr ⟨[], e :: o, rfl, fun a h => by simp at h, fun b hb => ?_⟩
   rcases List.mem_cons.1 hb with rfl | hb
   ·exact h2
   ·have h3 := hp'.1 b hb
    exact (Lin.row.tr r e.1 b.1 trivial trivial trivial (by omega) (by omega)).2 (.inl h2)
theorem sum_ex : ∀ (n : Nat) (es : List En), es.length = n → (∀ e ∈ es, mayR e.1 = true) → ∃ o, IsSum es o
 | 0, es, hn, _ => by
  have : es = [] := List.length_eq_zero_iff.1 hn
  subst this; exact ⟨[], IsSum.nil⟩
 | n + 1, es, hn, hm => by
  have hne : es ≠ [] := fun e => by subst e; simp at hn
  obtain ⟨fs, e, rfl⟩ : ∃ fs e, es = fs ++ [e] := ⟨es.dropLast, es.getLast hne, (List.dropLast_concat_getLast hne).symm⟩
  obtain ⟨o, ho⟩ := sum_ex n fs (by simpa using hn) fun x hx => hm x (List.mem_append_left _ hx)
  obtain ⟨r, m⟩ := e
  have hr : mayR r = true := hm (r, m) (List.mem_append_right _ (List.mem_cons_self ..))
  have ho' : ∀ x ∈ o, mayR x.1 = true := fun x hx => by
   obtain ⟨⟨y, hy, e⟩, _⟩ := (ho.mem x.1 x.2).1 hx
   rw [← e]; exact hm y (List.mem_append_left _ hy)
  rcases rise_split ho.rise ho' hr with ⟨A, k, B, q⟩ | ⟨A, B, q, q1, q2⟩
  ·subst q; exact ⟨_, ho.add⟩
  ·subst q; exact ⟨_, ho.ins q1 q2⟩
theorem chk_may {l : List En} (h : chkE l = 0) : (∀ e ∈ l, mayR e.1 = true) ∧ ∀ e ∈ l, outE e.2 = false := by
 unfold chkE at h
 split at h
 ·cases h
 ·rename_i h1
  split at h
  ·cases h
  ·rename_i h2
   refine ⟨fun e he => ?_, fun e he => ?_⟩
   ·cases hb : mayR e.1 with
    | true => rfl
    | false => exact absurd (List.any_eq_true.2 ⟨e, he, by rw [hb]; rfl⟩) h1
   ·cases hb : outE e.2 with
    | false => rfl
    | true => exact absurd (List.any_eq_true.2 ⟨e, he, hb⟩) h2
theorem pres_len {l : List En} {e : Int} {out : List En} (h : ResP l e out) : out.length ≤ l.length := by
 by_cases c : chkE l = 0
 ·obtain ⟨o, ho⟩ := sum_ex _ l rfl (chk_may c).1
  cases hb : o.any fun e => outE e.2 with
  | true => rw [(h.over c o ho hb).2]; exact Nat.zero_le _
  | false => rw [(h.ok c o ho hb).2]; exact nz_len ho
 ·rw [(h.err c).2]; exact Nat.zero_le _
section
variable {C : Ctx} {H A : Heap}
def oneE (l : List En) : List En := l.map fun e => (e.1, 1)
theorem ones_ok {B : Heap} {es : List En} {s : Sl} {ys : List T_zset_Entry} {K : Heap → Prop} (h : OgE H B es s ys) (hn : es.length ≤ 1000000) (k : ∀ zs D, OgE H D (oneE es) s zs → K D) :
 lp (α := Int) 0 B (fun x6 J7 H8 =>
  ift (decide ((x6 : Int) < (Sl.len s : Int)))
   (ixa s x6 fun p10 => st ((p10.1, p10.2 + (x6 : Int).toNat * 2).1, (p10.1, p10.2 + (x6 : Int).toNat * 2).2 + 1) (.int .i64 1) (fun H15 => J7 (w .i64 (x6 + 1)) H15) H8)
   (K H8)) := by
 have hlen := h.len
 refine ⟨fun x D => ∃ (i : Nat) (fs : List En) (zs : List T_zset_Entry), x = (i : Int) ∧ i ≤ es.length ∧ fs.length = es.length ∧ OgE H D fs s zs ∧ (∀ j, (hj : j < es.length) → fs[j]? = some (if j < i then (es[j].1, 1) else es[j])), fun x _ => es.length - x.toNat,
  ⟨0, es, ys, rfl, Nat.zero_le _, rfl, h, fun j hj => by rw [List.getElem?_eq_getElem hj, if_neg (by omega)]⟩, ?_⟩
 rintro _ D ⟨i, fs, zs, rfl, hi, hfl, hg, hq⟩
 have hsl := hg.slen
 rw [hsl, hfl]
 refine ift.of (fun hc => ?_) (fun hc => ?_)
 ·have hlt : i < es.length := by have := of_decide_eq_true hc; omega
  have hif : i < fs.length := by omega
  obtain ⟨hle, ⟨q1, q2, q3, q4⟩, hf⟩ := hg.own
  rcases q4 with ⟨p0, c0⟩ | ⟨g, sp, hp, hb, hcl⟩
  ·omega
  have hzl := hg.len
  refine ⟨(g, 0), hp, q2, by omega, by omega, ?_⟩
  have e0 : ((g, 0).1, (g, 0).2 + ((i : Int)).toNat * 2).2 + 1 = i * 2 + 1 := by show 0 + (i : Int).toNat * 2 + 1 = _; omega
  refine ⟨_, hb, ?_, ?_⟩
  ·show ((g, 0).1, (g, 0).2 + ((i : Int)).toNat * 2).2 + 1 < _
   rw [e0, List.length_append, ysE_len]; omega
  show (∃ i' fs' zs', _) ∧ _
  have e1 : (((g, 0).1, (g, 0).2 + ((i : Int)).toNat * 2).1, ((g, 0).1, (g, 0).2 + ((i : Int)).toNat * 2).2 + 1).2 = i * 2 + 1 := e0
  rw [w_i64 (by omega) (by omega)]
  refine ⟨⟨i + 1, fs.set i (fs[i].1, 1), zs.set i (⟨(zs[i]'(by omega)).Row, 1⟩ : T_zset_Entry), by omega, by omega, by rw [List.length_set, hfl], ?_, fun j hj => ?_⟩, by first | omega | (dsimp only; omega)⟩
  ·have := hg.setN (n := 1) hif hp hb
   rw [e1]
   exact this
  ·have h0 := hq i hlt
   rw [if_neg (Nat.lt_irrefl _), List.getElem?_eq_getElem hif] at h0
   injection h0 with h0
   by_cases hji : j = i
   ·subst hji
    rw [List.getElem?_set_self hif, if_pos (by omega), h0]
   ·rw [List.getElem?_set_ne fun e => hji e.symm, hq j hj]
    by_cases hlt2 : j < i
    ·rw [if_pos hlt2, if_pos (by omega)]
    ·rw [if_neg hlt2, if_neg (by omega)]
 ·have hie : i = es.length := by have := of_decide_eq_false hc; omega
  have e : fs = oneE es := by
   unfold oneE
   refine List.ext_getElem? fun j => ?_
   by_cases hj : j < es.length
   ·rw [hq j hj, if_pos (by omega), List.getElem?_map, List.getElem?_eq_getElem hj]; rfl
   ·rw [List.getElem?_eq_none (by omega), List.getElem?_map, List.getElem?_eq_none (by omega)]; rfl
  rw [e] at hg
  exact k zs D hg
theorem keep_len (l : List En) : (keepE l).length ≤ l.length := List.length_filter_le ..
/-- behind Clean -/
theorem dist_rest {H0 : Heap} {out : List En} {cs : Sl} {ys : List T_zset_Entry} {e : Int} {K : Sl → Int → Heap → Prop} (h : OgE H H0 out cs ys) (hn : out.length ≤ 1000000) (k : ∀ r zs D, OgE H D (posE out) r zs → K r e D) :
 c_slices_DeleteFunc_zset_Entry_zset_Entry C cs (.func (.func 49) (List.toArray []) (List.toArray []) : Value) (fun r4 H5 =>
  lp (α := Int) 0 H5 (fun x6 J7 H8 =>
   ift (decide ((x6 : Int) < (Sl.len r4 : Int)))
    (ixa r4 x6 fun p10 => st ((p10.1, p10.2 + (x6 : Int).toNat * 2).1, (p10.1, p10.2 + (x6 : Int).toNat * 2).2 + 1) (.int .i64 1) (fun H15 => J7 (w .i64 (x6 + 1)) H15) H8)
    (K r4 e H8))) H0 :=
 delOg h hn fun r zs D hd => ones_ok hd (by have := keep_len out; omega) fun zs2 D2 h2 => k r zs2 D2 h2
theorem pDist_ok {a : Sl} {la : List En} {K : Sl → Int → Heap → Prop} (ha : EnL H a la) (hn : la.length ≤ 1000000) (hsz : ∀ x ∈ la, vsizes x.1 ≤ 1000000)
 (k : ∀ e out cs ys H0, ResP la e out → out.length ≤ la.length → OgE H H0 (posE out) cs ys → K cs e H0) : c_zset_Distinct C a K H := by
 apply ad_zset_Distinct
 unfold sh_zset_Distinct
 refine pClean_ok ha hn hsz ?_
 have hrg : ∀ x ∈ seqS [(la, false)], -9223372036854775808 ≤ x.1.2 ∧ x.1.2 < 9223372036854775808 := fun x hx => by
  simp [seqS] at hx
  obtain ⟨r, n, h, rfl⟩ := hx
  exact (ha.oks _ h).2.2
 refine sumsK_of hrg fun e out cs ys H0 h1 h2 => ?_
 rw [esC] at h1
 exact dist_rest h2 (by have := pres_len h1; omega) fun r zs D hd => k e out r zs D h1 (pres_len h1) hd
/-- sums of closed lists -/
def riseB : List En → Bool
 | [] => true
 | e :: l => l.all (fun x => decide (cmpR e.1 x.1 < 0)) && riseB l
theorem riseB_ok : ∀ {l : List En}, riseB l = true → l.Pairwise fun a b => cmpR a.1 b.1 < 0
 | [], _ => List.Pairwise.nil
 | e :: l, h => by
  simp only [riseB, Bool.and_eq_true] at h
  exact List.pairwise_cons.2 ⟨fun x hx => of_decide_eq_true (List.all_eq_true.1 h.1 x hx), riseB_ok h.2⟩
def calcB (es l : List En) : Bool := riseB l && l.all (fun e => decide (e.2 = totE es e.1) && decide (e.2 ≠ 0)) && es.all fun e => decide (totE es e.1 = 0) || l.any fun x => sameVs x.1 e.1 && decide (x.2 = totE es e.1)
theorem nz_calc {es o l : List En} (h : IsSum es o) (hc : calcB es l = true) : nzE o = l := by
 unfold calcB at hc
 simp only [Bool.and_eq_true] at hc
 obtain ⟨⟨h1, h2⟩, h3⟩ := hc
 refine rise_ext (nz_rise h) (riseB_ok h1) fun x => ?_
 obtain ⟨r, n⟩ := x
 rw [nz_mem h]
 constructor
 ·rintro ⟨rfl, h0⟩
  have : ∃ e ∈ es, e.1 = r := Classical.byContradiction fun hn => h0 (totE_none fun e he e' => hn ⟨e, he, e'⟩)
  obtain ⟨e, he, rfl⟩ := this
  have := List.all_eq_true.1 h3 e he
  rw [Bool.or_eq_true] at this
  rcases this with this | this
  ·exact absurd (of_decide_eq_true this) h0
  ·obtain ⟨x, hx, hb⟩ := List.any_eq_true.1 this
   rw [Bool.and_eq_true] at hb
   obtain ⟨x1, x2⟩ := x
   have e1 := sameVs_iff.1 hb.1
   have e2 := of_decide_eq_true hb.2
   simp only at e1 e2
   rw [← e1, ← e2] at *
   exact hx
 ·intro hx
  have := List.all_eq_true.1 h2 _ hx
  rw [Bool.and_eq_true] at this
  exact ⟨of_decide_eq_true this.1, of_decide_eq_true this.2⟩
def okB (es : List En) : Bool := es.all fun e => mayR e.1 && !(outE e.2) && !(outE (totE es e.1))
theorem okB_ok {es : List En} (h : okB es = true) : OkS es := by
 unfold okB at h
 have h1 : ∀ e ∈ es, (mayR e.1 = true ∧ outE e.2 = false) ∧ outE (totE es e.1) = false := fun e he => by
  have := List.all_eq_true.1 h e he
  simpa [Bool.and_eq_true] using this
 refine ⟨fun e he => (h1 e he).1.1, fun e he => (h1 e he).1.2, fun r => ?_⟩
 by_cases hr : ∃ e ∈ es, e.1 = r
 ·obtain ⟨e, he, rfl⟩ := hr; exact (h1 e he).2
 ·rw [totE_none fun e he e' => hr ⟨e, he, e'⟩]; rfl
theorem lit_ens {b n cap : Nat} {m : Bool} {es : List En} {xs : List T_zset_Entry} {cs : List Value} (h : H b = some (m, .row cs)) (hc : cs = xs.flatMap T_zset_Entry.c ++ []) (hn : n = xs.length) (hl : es.length = xs.length) (hb : es.length ≤ 140737488355328)
 (hr : ∀ (i : Nat) (v : En) (x : T_zset_Entry), es[i]? = some v → xs[i]? = some x → EnIs H v x) : EnL H (Sl.of (some (b, 0)) n cap) es := by
 subst hc
 exact ⟨xs, .inr ⟨rfl, _, rfl, rds_row h fun j v hj => by simpa using hj⟩, hn, hl, hb, hr⟩
end
end Sx
end

noncomputable section
set_option linter.unusedVariables false
set_option linter.unusedSimpArgs false
set_option maxRecDepth 10000
namespace Sx
open Go Go.Proofs
def pick (row : List V) (p : Int) : Option V := if p < 0 then none else row[p.toNat]?
def picks (row : List V) : List Int → Option (List V)
 | [] => some []
 | p :: ps => match pick row p, picks row ps with
  | some v, some vs => some (v :: vs)
  | _, _ => none
def showK (vs : List V) : Str := vs.flatMap fun v => showV v ++ [59]
def keyE (ps : List Int) (row : List V) : Option Str := (picks row ps).map showK
def fitB (on : List (Int × Int)) (a b : List V) : Bool :=
 match picks a (on.map fun p => p.1), picks b (on.map fun p => p.2) with
 | some vs, some ws => sameVs vs ws
 | _, _ => false
theorem pick_mem {row : List V} {p : Int} {v : V} (h : pick row p = some v) : v ∈ row := by
 unfold pick at h
 split at h
 ·cases h
 ·exact List.mem_of_getElem? h
theorem picks_mem {row : List V} : ∀ {ps : List Int} {vs : List V}, picks row ps = some vs → ∀ v ∈ vs, v ∈ row
 | [], vs, h, v, hv => by simp [picks] at h; subst h; simp at hv
 | p :: ps, vs, h, v, hv => by
  simp only [picks] at h
  split at h
  ·rename_i w ws h1 h2
   injection h with h; subst h
   rcases List.mem_cons.1 hv with rfl | hv
   ·exact pick_mem h1
   ·exact picks_mem h2 v hv
  ·cases h
theorem picks_snoc {row : List V} {p : Int} : ∀ {ps : List Int}, picks row (ps ++ [p]) = (match picks row ps, pick row p with
 | some vs, some v => some (vs ++ [v])
 | _, _ => none)
 | [] => by simp only [List.nil_append, picks]; cases pick row p <;> rfl
 | q :: ps => by
  simp only [List.cons_append, picks, picks_snoc (ps := ps)]
  cases pick row q <;> cases picks row ps <;> cases pick row p <;> rfl
theorem showK_snoc (vs : List V) (v : V) : showK (vs ++ [v]) = showK vs ++ (showV v ++ [59]) := by simp [showK]
theorem showK_ne {v : V} {vs : List V} : showK (v :: vs) ≠ [] := fun e => by
 have := congrArg List.length e
 simp [showK] at this
theorem showK_inj : ∀ {vs ws : List V}, (∀ v ∈ vs, mayV v = true) → (∀ v ∈ ws, mayV v = true) → showK vs = showK ws → vs = ws
 | [], [], _, _, _ => rfl
 | [], w :: ws, _, _, h => absurd h.symm showK_ne
 | v :: vs, [], _, _, h => absurd h showK_ne
 | v :: vs, w :: ws, h1, h2, h => by
  have e : ∀ (v : V) (vs : List V), showK (v :: vs) = showV v ++ (59 :: showK vs) := fun v vs => by simp [showK]
  rw [e, e] at h
  have m1 := h1 v (List.mem_cons_self ..)
  have m2 := h2 w (List.mem_cons_self ..)
  obtain ⟨e1, e2⟩ := show_inj v w _ _ (mayV_form m1) (mayV_form m2) (.inr ⟨59, _, rfl, by simp⟩) (.inr ⟨59, _, rfl, by simp⟩) h
  injection e2 with _ e2
  rw [e1, showK_inj (fun x hx => h1 x (List.mem_cons_of_mem _ hx)) (fun x hx => h2 x (List.mem_cons_of_mem _ hx)) e2]
theorem may_all {r : List V} (h : mayR r = true) : ∀ v ∈ r, mayV v = true := fun v hv => List.all_eq_true.1 h v hv
theorem fit_none {on : List (Int × Int)} {a b : List V} (h : keyE (on.map fun p => p.1) a = none) : fitB on a b = false := by
 unfold keyE at h
 unfold fitB
 rw [Option.map_eq_none_iff] at h
 rw [h]
theorem fit_key {on : List (Int × Int)} {a b : List V} {k : Str} (ha : mayR a = true) (hb : mayR b = true) (h : keyE (on.map fun p => p.1) a = some k) : fitB on a b = (keyE (on.map fun p => p.2) b == some k) := by
 unfold keyE at h
 obtain ⟨vs, h1, h2⟩ := Option.map_eq_some_iff.1 h
 unfold fitB keyE
 rw [h1]
 cases hq : picks b (on.map fun p => p.2) with
 | none => rfl
 | some ws =>
  show sameVs vs ws = (some (showK ws) == some k)
  rw [Bool.eq_iff_iff, sameVs_iff]
  constructor
  ·rintro rfl; rw [h2]; simp
  ·intro he
   have he : showK ws = k := by simpa using he
   exact showK_inj (fun v hv => may_all ha v (picks_mem h1 v hv)) (fun v hv => may_all hb v (picks_mem hq v hv)) (by rw [h2, he])
def pairE (on : List (Int × Int)) (a b : List En) : List En := a.flatMap fun x => (b.filter fun y => fitB on x.1 y.1).map fun y => (x.1 ++ y.1, x.2 * y.2)
def noneE (on : List (Int × Int)) (a b : List En) : List En := a.filter fun x => !(b.any fun y => fitB on x.1 y.1)
theorem mayR_append {a b : List V} (ha : mayR a = true) (hb : mayR b = true) : mayR (a ++ b) = true := by
 unfold mayR at *; rw [List.all_append, ha, hb]; rfl
theorem pair_mem {on : List (Int × Int)} {a b : List En} {e : En} (h : e ∈ pairE on a b) : ∃ x ∈ a, ∃ y ∈ b, e = (x.1 ++ y.1, x.2 * y.2) := by
 obtain ⟨x, hx, h⟩ := List.mem_flatMap.1 h
 obtain ⟨y, hy, rfl⟩ := List.mem_map.1 h
 exact ⟨x, hx, y, (List.mem_filter.1 hy).1, rfl⟩
def lin (g : List V → Int) : List En → Int
 | [] => 0
 | e :: l => e.2 * g e.1 + lin g l
def negL (l : List En) : List En := l.map fun e => (e.1, -e.2)
theorem totE_negL (r : List V) : ∀ (a : List En), totE (negL a) r = - totE a r
 | [] => rfl
 | e :: a => by
  have ih := totE_negL r a
  simp only [negL, List.map_cons, totE] at ih ⊢
  rw [ih]; split <;> omega
def isR (r : List V) (e : En) : Bool := sameVs e.1 r
theorem totE_out (r q : List V) : ∀ l : List En, totE (l.filter fun e => !(isR r e)) q = if sameVs r q then 0 else totE l q
 | [] => by simp [totE]
 | e :: l => by
  have ih := totE_out r q l
  simp only [List.filter_cons, isR] at ih ⊢
  cases hb : sameVs e.1 r with
  | true =>
   have := sameVs_iff.1 hb
   simp only [Bool.not_true, Bool.false_eq_true, if_false]
   rw [ih]
   simp only [totE, this]
   split
   ·rfl
   ·omega
  | false =>
   simp only [Bool.not_false, if_true, totE]
   rw [ih]
   cases hq : sameVs r q with
   | true =>
    have := sameVs_iff.1 hq
    subst this
    simp [hb]
   | false => simp
def mass : List En → Int
 | [] => 0
 | e :: l => (if e.2 < 0 then -e.2 else e.2) + mass l
theorem mass_nn : ∀ l : List En, 0 ≤ mass l
 | [] => Int.le_refl _
 | e :: l => by have := mass_nn l; simp only [mass]; split <;> omega
theorem mass_append : ∀ (a b : List En), mass (a ++ b) = mass a + mass b
 | [], b => by simp [mass]
 | e :: a, b => by simp only [List.cons_append, mass, mass_append a b]; omega
theorem mass_tot (r : List V) : ∀ l : List En, -(mass l) ≤ totE l r ∧ totE l r ≤ mass l
 | [] => by simp [mass, totE]
 | e :: l => by
  have := mass_tot r l
  simp only [mass, totE]
  split <;> split <;> omega
theorem mass_mem {e : En} : ∀ {l : List En}, e ∈ l → -(mass l) ≤ e.2 ∧ e.2 ≤ mass l
 | x :: l, h => by
  have h0 := mass_nn l
  simp only [mass]
  rcases List.mem_cons.1 h with rfl | h
  ·split <;> omega
  ·have := mass_mem h; split <;> omega
theorem mass_part (r : List V) : ∀ l : List En, mass l = mass (l.filter fun e => isR r e) + mass (l.filter fun e => !(isR r e))
 | [] => rfl
 | e :: l => by
  have ih := mass_part r l
  simp only [List.filter_cons]
  cases isR r e <;> simp only [mass, Bool.not_true, Bool.not_false, Bool.false_eq_true, if_true, if_false] <;> omega
theorem totE_in (r : List V) : ∀ l : List En, totE (l.filter fun e => isR r e) r = totE l r
 | [] => rfl
 | e :: l => by
  have ih := totE_in r l
  simp only [List.filter_cons]
  cases hb : isR r e with
  | true => simp only [if_true, totE, ih]
  | false =>
   have : sameVs e.1 r = false := hb
   simp only [Bool.false_eq_true, if_false, totE, this, ih]; omega
theorem mass_sum : ∀ (o es : List En), o.Pairwise (fun a b => a.1 ≠ b.1) → (∀ e ∈ o, e.2 = totE es e.1) → mass o ≤ mass es
 | [], es, _, _ => mass_nn es
 | e :: o, es, hp, h => by
  have hp' := List.pairwise_cons.1 hp
  have h1 := mass_sum o (es.filter fun x => !(isR e.1 x)) hp'.2 fun x hx => by
   rw [totE_out]
   have hne : sameVs e.1 x.1 = false := by
    cases hb : sameVs e.1 x.1 with
    | false => rfl
    | true => exact absurd (sameVs_iff.1 hb) (hp'.1 x hx)
   rw [hne]
   exact h x (List.mem_cons_of_mem _ hx)
  have h2 := mass_tot e.1 (es.filter fun x => isR e.1 x)
  rw [totE_in, ← h e (List.mem_cons_self ..)] at h2
  rw [mass_part e.1 es]
  simp only [mass]
  split <;> omega
theorem rise_ne {o : List En} (h : o.Pairwise fun a b => cmpR a.1 b.1 < 0) : o.Pairwise fun a b => a.1 ≠ b.1 := h.imp fun {a b} hab e => by rw [e] at hab; exact lt_irr hab
theorem mass_nz {es o : List En} (h : IsSum es o) : mass (nzE o) ≤ mass es :=
 mass_sum _ _ (rise_ne (nz_rise h)) fun e he => (nz_sub h he).2
theorem mass_filter (p : En → Bool) : ∀ l : List En, mass (l.filter p) ≤ mass l
 | [] => Int.le_refl _
 | e :: l => by
  have ih := mass_filter p l
  simp only [List.filter_cons, mass]
  split
  ·simp only [mass]; omega
  ·split <;> omega
theorem mass_neg : ∀ l : List En, mass (negL l) = mass l
 | [] => rfl
 | e :: l => by
  have ih := mass_neg l
  simp only [negL, List.map_cons, mass] at ih ⊢
  rw [ih]; split <;> split <;> omega
theorem mass_row (x : En) : ∀ l : List En, mass (l.map fun y => (x.1 ++ y.1, x.2 * y.2)) = (if x.2 < 0 then -x.2 else x.2) * mass l
 | [] => by simp [mass]
 | e :: l => by
  have ih := mass_row x l
  simp only [List.map_cons, mass, ih]
  rw [Int.mul_add]
  have key : (if x.2 * e.2 < 0 then -(x.2 * e.2) else x.2 * e.2) = (if x.2 < 0 then -x.2 else x.2) * (if e.2 < 0 then -e.2 else e.2) := by
   by_cases h1 : x.2 < 0 <;> by_cases h2 : e.2 < 0
   ·have : 0 < x.2 * e.2 := Int.mul_pos_of_neg_of_neg h1 h2
    rw [if_neg (by omega), if_pos h1, if_pos h2, Int.neg_mul_neg]
   ·rw [if_pos h1, if_neg h2, Int.neg_mul]
    have h3 : x.2 * e.2 ≤ 0 := Int.mul_nonpos_of_nonpos_of_nonneg (by omega) (by omega)
    split <;> omega
   ·rw [if_neg h1, if_pos h2, Int.mul_neg]
    have h3 : x.2 * e.2 ≤ 0 := Int.mul_nonpos_of_nonneg_of_nonpos (by omega) (by omega)
    split <;> omega
   ·have h3 : 0 ≤ x.2 * e.2 := Int.mul_nonneg (by omega) (by omega)
    rw [if_neg (by omega), if_neg h1, if_neg h2]
  rw [key]
theorem mass_pair {on : List (Int × Int)} {b : List En} : ∀ a : List En, mass (pairE on a b) ≤ mass a * mass b
 | [] => by simp [pairE, mass]
 | x :: a => by
  have ih := mass_pair (on := on) (b := b) a
  unfold pairE at ih ⊢
  rw [List.flatMap_cons, mass_append, mass_row]
  simp only [mass]
  rw [Int.add_mul]
  have h0 : 0 ≤ (if x.2 < 0 then -x.2 else x.2) := by split <;> omega
  have h1 := Int.mul_le_mul_of_nonneg_left (mass_filter (fun y => fitB on x.1 y.1) b) h0
  omega
theorem mass_len {m : Int} (hm : 0 ≤ m) : ∀ {l : List En}, (∀ e ∈ l, -m ≤ e.2 ∧ e.2 ≤ m) → mass l ≤ m * (l.length : Int)
 | [], _ => by simp [mass]
 | e :: l, h => by
  have ih := mass_len hm (l := l) fun x hx => h x (List.mem_cons_of_mem _ hx)
  have h1 := h e (List.mem_cons_self ..)
  have e2 : m * ((l.length + 1 : Nat) : Int) = m * (l.length : Int) + m := by rw [Int.natCast_add, Int.mul_add]; simp
  simp only [mass, List.length_cons]
  rw [e2]
  split <;> omega
end Sx
end

noncomputable section
set_option linter.unusedVariables false
set_option linter.unusedSimpArgs false
set_option maxRecDepth 10000
namespace Sx
open Go Go.Proofs
def cI (x : Int) : List Value := [.int .i64 x]
def IL (A : Heap) := SlIs (fun v x : Int => x = v) cI A
abbrev Pr := Int × Int
def PrIs (v : Pr) (x : T_delta_Pair) : Prop := x.Left = v.1 ∧ x.Right = v.2
def PrL (A : Heap) := SlIs PrIs T_delta_Pair.c A
theorem IL.le {A B : Heap} {s : Sl} {l : List Int} (h : IL A s l) (hle : A.le B) : IL B s l := SlIs.le hle h fun _ _ _ h => h
theorem PrL.le {A B : Heap} {s : Sl} {l : List Pr} (h : PrL A s l) (hle : A.le B) : PrL B s l := SlIs.le hle h fun _ _ _ h => h
theorem IL.nil {A : Heap} : IL A Sl.nil [] := ⟨[], .inl rfl, rfl, rfl, by simp, fun i v x hv => by simp at hv⟩
theorem IL.rd {A H : Heap} {s : Sl} {l : List Int} (h : IL A s l) (hle : A.le H) {i : Nat} {x : Int} {K : Int → Prop} (hx : x = i) (hi : i < l.length) (k : K l[i]) : ixa s x fun p => ldI H .i64 (p.1, p.2 + x.toNat * 1) K :=
 SlIs.at_ h hle (z := 1) (fun _ => rfl) (by omega) hx hi fun p y hy hr => ⟨y, hr 0 _ rfl, by rw [hy]; exact k⟩
theorem cI_flat (l : List Int) : (l.flatMap cI).length = l.length := by
 induction l with
 | nil => rfl
 | cons a l ih =>
  rw [List.flatMap_cons, List.length_append, ih]
  show 1 + l.length = l.length + 1
  omega
theorem IL.eq {A : Heap} {s : Sl} {l : List Int} (h : IL A s l) : rdsl A s (l.flatMap cI) ∧ s.len = l.length := by
 obtain ⟨xs, x1, x2, x3, x4, x5⟩ := h
 have : xs = l := List.ext_getElem? fun i => by
  by_cases hi : i < l.length
  ·rw [List.getElem?_eq_getElem hi, List.getElem?_eq_getElem (by omega), x5 i _ _ (List.getElem?_eq_getElem hi) (List.getElem?_eq_getElem (by omega))]
  ·rw [List.getElem?_eq_none (by omega), List.getElem?_eq_none (by omega)]
 subst this; exact ⟨x1, x2⟩
theorem IL.of {A : Heap} {s : Sl} {l : List Int} (h : rdsl A s (l.flatMap cI)) (hl : s.len = l.length) (hb : l.length ≤ 140737488355328) : IL A s l := ⟨l, h, hl, rfl, hb, fun i v x hv hx => by rw [hv] at hx; injection hx with hx; exact hx.symm⟩
theorem picks_no {row : List V} {p : Int} : ∀ {ps : List Int}, p ∈ ps → pick row p = none → picks row ps = none
 | q :: ps, h, hp => by
  simp only [picks]
  rcases List.mem_cons.1 h with rfl | h
  ·rw [hp]
  ·rw [picks_no h hp]; cases pick row q <;> rfl
theorem showV_bd {row : List V} (hB : VBs row) (hm : mayR row = true) {v : V} (hv : v ∈ row) (hs : vsizes row ≤ 1000) : (showV v).length ≤ 17000000 := by
 have m := may_all hm v hv
 have hsz := vsize_mem hv
 obtain ⟨_, q2, q3⟩ := (mayV_iff v).1 m
 have := showV_len v (hB.mem hv) q2 q3
 have h2 : 17000 * vsize v ≤ 17000 * 1000 := Nat.mul_le_mul_left _ (by omega)
 omega
section
variable {C : Ctx} {H A : Heap}
theorem key_ok (hF : FmtC C) {ps : List Int} {x : T_delta_side} {row : List V} {s : Sl} {K : Str → Bool → Heap → Prop} (hp : IL A x.places_ ps) (hr : VRow A s row) (hA : A.le H) (hB : VBs row) (hm : mayR row = true) (hs : vsizes row ≤ 1000) (hn : ps.length ≤ 100000)
 (k1 : ∀ key, keyE ps row = some key → ∀ H2, H.le H2 → K key true H2) (k0 : keyE ps row = none → ∀ H2, H.le H2 → K [] false H2) : c_delta_side_key C x s K H := by
 apply ad_delta_side_key
 unfold sh_delta_side_key
 intro b1 n1
 have l1 := Heap.le_put n1 (g := .row (T_delta_side.c x)) (m := true)
 have c1 : (H.put b1 (.row (T_delta_side.c x))) b1 = some (true, .row (T_delta_side.c x)) := Heap.put_same ..
 generalize H.put b1 (.row (T_delta_side.c x)) = H1 at *
 have hrl := hr.len
 have hrv := vsizes_len row
 refine fL c1 (t := x.places_) rfl ?_
 refine ⟨fun y D => H.le D ∧ ∃ (i : Nat) (vs : List V), y.2 = (i : Int) ∧ i ≤ ps.length ∧ picks row (ps.take i) = some vs ∧ y.1 = showK vs ∧ (showK vs).length ≤ i * 17000001, fun y _ => ps.length - y.2.toNat, ⟨l1, 0, [], rfl, Nat.zero_le _, rfl, rfl, by simp [showK]⟩, ?_⟩
 rintro ⟨_, _⟩ D ⟨hD, i, vs, rfl, hi, hv, rfl, hvl⟩
 have hAD := hA.trans hD
 rw [hp.len]
 refine ift.of (fun h => ?_) (fun h => ?_)
 ·have hlt : i < ps.length := by have := of_decide_eq_true h; dsimp only at this; omega
  refine hp.rd hAD rfl hlt ?_
  have hmem := List.getElem_mem hlt
  rw [hrl]
  refine ift.of (fun h2 => ?_) (fun h2 => ?_)
  ·have hnone : pick row ps[i] = none := by
    unfold pick
    rw [Bool.or_eq_true] at h2
    rcases h2 with h2 | h2
    ·rw [if_pos (of_decide_eq_true h2)]
    ·have := of_decide_eq_true h2
     rw [if_neg (by omega)]
     exact List.getElem?_eq_none (by omega)
   exact k0 (by unfold keyE; rw [picks_no hmem hnone]; rfl) D hD
  ·rw [Bool.or_eq_false_iff] at h2
   have q1 := of_decide_eq_false h2.1
   have q2 := of_decide_eq_false h2.2
   have hpl : ps[i].toNat < row.length := by omega
   have hpk : pick row ps[i] = some row[ps[i].toNat] := by unfold pick; rw [if_neg (by omega), List.getElem?_eq_getElem hpl]
   have hmv := List.getElem_mem hpl
   refine hr.ld hAD (i := ps[i].toNat) (by omega) hpl fun z hz => ?_
   have hm1 := may_all hm _ hmv
   refine Show_ok hF (hz.le hAD) (hB.mem hmv) (fun _ => by have := showV_bd hB hm hmv hs; omega) fun H2 l2 => ?_
   rw [if_pos hm1]
   have hb := showV_bd hB hm hmv hs
   have hi2 : i * 17000001 ≤ 100000 * 17000001 := Nat.mul_le_mul_right _ (by omega)
   refine ⟨by unfold catOk; simp; omega, by unfold catOk; rw [List.length_append]; simp; omega, ?_⟩
   rw [w_i64 (by dsimp only; omega) (by dsimp only; omega)]
   refine ⟨⟨hD.trans l2, i + 1, vs ++ [row[ps[i].toNat]], by dsimp only; omega, by omega, by rw [List.take_add_one, List.getElem?_eq_getElem hlt, Option.toList_some, picks_snoc, hv, hpk], by rw [showK_snoc], ?_⟩, by first | omega | (dsimp only; omega)⟩
   rw [showK_snoc, List.length_append, List.length_append]
   simp only [List.length_singleton]
   omega
 ·have hie : i = ps.length := by have := of_decide_eq_false h; dsimp only at this; omega
  rw [hie, List.take_length] at hv
  exact k1 _ (by unfold keyE; rw [hv]; rfl) D hD
theorem picks_all : ∀ (row : List V) (n : Nat), n ≤ row.length → picks row ((List.range n).map fun i : Nat => (i : Int)) = some (row.take n)
 | row, 0, _ => rfl
 | row, n + 1, h => by
  rw [List.range_succ, List.map_append, List.map_singleton, picks_snoc, picks_all row n (by omega)]
  have : pick row (n : Int) = some row[n] := by unfold pick; rw [if_neg (by omega)]; exact List.getElem?_eq_getElem (by omega)
  rw [this, List.take_add_one, List.getElem?_eq_getElem (by omega)]; rfl
theorem keyE_all (row : List V) : keyE ((List.range row.length).map fun i : Nat => (i : Int)) row = some (showK row) := by
 unfold keyE; rw [picks_all row _ (Nat.le_refl _), List.take_length]; rfl
theorem whole_ok (hF : FmtC C) {x : T_delta_side} {row : List V} {s : Sl} {K : Str → Bool → Heap → Prop} (hx : x.places_ = Sl.nil) (hr : VRow A s row) (hA : A.le H) (hB : VBs row) (hm : mayR row = true) (hs : vsizes row ≤ 1000)
 (k1 : ∀ H2, H.le H2 → K (showK row) true H2) : c_delta_side_whole C x s K H := by
 apply ad_delta_side_whole
 unfold sh_delta_side_whole
 intro b1 n1
 have l1 := Heap.le_put n1 (g := .row (T_delta_side.c x)) (m := true)
 have hrl := hr.len
 have hrv := vsizes_len row
 refine ⟨fun y D => H.le D ∧ ∃ (i : Nat) (t : Sl) (E : Heap), y = (i : Int) ∧ i ≤ row.length ∧ D b1 = some (true, .row [slv t]) ∧ t.len ≤ t.cap ∧ H.le E ∧ E.le D ∧ E b1 = none ∧ IL E t ((List.range i).map fun i : Nat => (i : Int)), fun y _ => row.length - y.toNat, ⟨l1, 0, Sl.nil, H, rfl, Nat.zero_le _, by rw [Heap.put_same]; rw [show T_delta_side.c x = [slv x.places_] from rfl, hx], Nat.le_refl _, Heap.le.refl _, l1, n1, IL.nil⟩, ?_⟩
 rintro _ D ⟨hD, i, t, E, rfl, hi, hb, htc, hE, hED, hE1, hI⟩
 rw [hrl]
 refine ift.of (fun h => ?_) (fun h => ?_)
 ·have hlt : i < row.length := by have := of_decide_eq_true h; omega
  refine fL hb (t := t) rfl (fL hb (t := t) rfl (fL hb (t := t) rfl ?_))
  obtain ⟨x1, x2⟩ := hI.eq
  have htl : t.len = i := by simpa using x2
  refine ⟨Int.le_refl _, by omega, Int.le_refl _, by omega, _, rfl, ?_⟩
  have hr13 : rdsl D (⟨if (t.len : Int) = 0 then t.p else t.p.map fun p => (p.1, p.2 + (0 : Int).toNat * 1), ((t.len : Int) - 0).toNat, ((t.len : Int) - 0).toNat, if (t.len : Int) = 0 ∨ (0 : Int).toNat * 1 = 0 then t.x else none⟩ : Sl) (((List.range i).map fun i : Nat => (i : Int)).flatMap cI) := by
   have hp : (if (t.len : Int) = 0 then t.p else t.p.map fun p => (p.1, p.2 + (0 : Int).toNat * 1)) = t.p := by
    split
    ·rfl
    ·cases t.p <;> rfl
   rw [hp, if_pos (.inr rfl)]
   exact (rdsl_le hED x1).imp id fun h => h
  have hl13 : ((t.len : Int) - 0).toNat = i := by omega
  rw [hl13] at hr13 ⊢
  generalize (if (t.len : Int) = 0 then t.p else t.p.map fun p => (p.1, p.2 + (0 : Int).toNat * 1)) = q13 at *
  generalize (if (t.len : Int) = 0 ∨ (0 : Int).toNat * 1 = 0 then t.x else none) = z13 at *
  have hxl : (((List.range i).map fun i : Nat => (i : Int)).flatMap cI).length = i := by rw [cI_flat]; simp
  refine ⟨_, hr13, by rw [hxl]; show i = i * 1; omega, rfl, by dsimp only; omega, by dsimp only; omega, fun h => absurd h (by dsimp only; omega), fun _ b cap nb hc => ?_⟩
  have hbb : b ≠ b1 := fun e => by subst e; rw [hb] at nb; cases nb
  have hEb := hED.none nb
  refine ⟨[slv t], by rw [Heap.put_ne _ _ _ hbb.symm]; exact hb, by show 0 + 0 < 1; omega, ?_⟩
  rw [w_i64 (by omega) (by omega)]
  have hHb : H b1 = none := n1
  have lE := Heap.le_put hEb (g := .row (((List.range i).map fun i : Nat => (i : Int)).flatMap cI ++ [Value.int .i64 (i : Int)] ++ zeros [Value.int .i64 0] (cap - (i + 1)))) (m := true)
  have lDb : (E.put b (.row (((List.range i).map fun i : Nat => (i : Int)).flatMap cI ++ [Value.int .i64 (i : Int)] ++ zeros [Value.int .i64 0] (cap - (i + 1))))).le (D.put b (.row (((List.range i).map fun i : Nat => (i : Int)).flatMap cI ++ [Value.int .i64 (i : Int)] ++ zeros [Value.int .i64 0] (cap - (i + 1))))) := fun x e hx => by
   by_cases hxb : x = b
   ·subst hxb; rw [Heap.put_same] at hx ⊢; exact hx
   ·rw [Heap.put_ne _ _ _ hxb] at hx ⊢; exact hED _ _ hx
  refine ⟨⟨le_put_off (hD.trans (Heap.le_put nb)) hHb, i + 1, Sl.of (some (b, 0)) (i + 1) cap, E.put b (.row (((List.range i).map fun i : Nat => (i : Int)).flatMap cI ++ [Value.int .i64 (i : Int)] ++ zeros [Value.int .i64 0] (cap - (i + 1)))), by omega, by omega, by rw [Heap.put_same]; rfl, hc, hE.trans lE, le_put_off lDb (by rw [Heap.put_ne _ _ _ hbb.symm]; exact hE1), by rw [Heap.put_ne _ _ _ hbb.symm]; exact hE1, ?_⟩, by first | omega | (dsimp only; omega)⟩
  refine IL.of (.inr ⟨rfl, _, rfl, rds_row (Heap.put_same ..) fun j v hj => ?_⟩) (by simp) (by simp; omega)
  rw [Nat.zero_add]
  rw [List.range_succ, List.map_append, List.flatMap_append] at hj
  have hlt2 := (List.getElem?_eq_some_iff.1 hj).1
  exact (List.getElem?_append_left hlt2).trans hj
 ·have hie : i = row.length := by have := of_decide_eq_false h; omega
  subst hie
  refine bxT (c := T_delta_side.c) (x := (⟨t⟩ : T_delta_side)) hb ?_
  refine key_ok hF (A := E) hI (hr.le (hA.trans hE)) hED hB hm hs (by simp; omega) (fun key hk H2 h2 => ?_) (fun hk => ?_)
  ·rw [keyE_all] at hk; injection hk with hk; subst hk; exact k1 H2 (hD.trans h2)
  ·rw [keyE_all] at hk; cases hk
theorem stT_same {b : Nat} {cs : List Value} {K : Heap → Prop} (h : H b = some (true, .row cs)) (k : K H) : stT (b, 0) cs K H := by
 refine ⟨cs, h, by simp, ?_⟩
 have e : splice cs (b, 0).2 cs = cs := by unfold splice; simp
 rw [e, Heap.put_id h]; exact k
theorem own_off {D : Heap} {z : Nat} {s t : Sl} {cs : List Value} (h : Own D z t cs) (hd : ∀ p q, s.p = some p → t.p = some q → p.1 ≠ q.1) : Own (D.off s) z t cs := by
 obtain ⟨h1, h2, h3, h4⟩ := h
 refine ⟨h1, h2, h3, ?_⟩
 rcases h4 with h4 | ⟨b, sp, q1, q2, q3⟩
 ·exact .inl h4
 ·exact .inr ⟨b, sp, q1, Heap.off_some q2 fun p hp => hd p _ hp q1, q3⟩
theorem own_ne {D : Heap} {z : Nat} {s : Sl} {cs : List Value} {b : Nat} {m : Bool} {o : Obj} (h : Own D z s cs) (hb : D b = some (m, .obj o)) : ∀ p, s.p = some p → p.1 ≠ b := fun p hp e => by
 rcases h.2.2.2 with ⟨h4, _⟩ | ⟨b', sp, q1, q2, q3⟩
 ·rw [h4] at hp; cases hp
 ·rw [hp] at q1; injection q1 with q1; subst q1; subst e; rw [hb] at q2; cases q2
/-- a fresh slice's block is none that is known -/
theorem fresh_ne {D : Heap} {s : Sl} {b : Nat} {e : Bool × GO} (h : Fresh D s) (hb : D b = some e) : ∀ p, s.p = some p → p.1 ≠ b := fun p hp e' => by
 have := h p hp; rw [e', hb] at this; cases this
theorem grow {D : Heap} {t : Sl} {ls : List Int} {v : Int} {K : Sl → Heap → Prop} (o : Own D 1 t (ls.flatMap cI)) (hn : ls.length ≤ 1000000) (k : ∀ r D2, Own D2 1 r ((ls ++ [v]).flatMap cI) → (D.off t).le D2 → Fresh (D.off t) r → K r D2) : apd [.int .i64 0] 8 t [.int .i64 v] 1 K D := by
 have h1 := o.1
 rw [cI_flat] at h1
 refine apd_ownF (zc := [.int .i64 0]) o.off rfl (by omega) (by omega) fun r D2 q1 q2 => k r D2 ?_ q1.le q1.fresh
 have := q1.own
 rw [List.flatMap_append]
 exact this
def SidI (H D : Heap) (b1 b3 : Nat) (ls rs : List Int) : Prop := ∃ t1 t2 : Sl, H.le D ∧ D b1 = some (true, .row [slv t1]) ∧ D b3 = some (true, .row [slv t2]) ∧ Own D 1 t1 (ls.flatMap cI) ∧ Own D 1 t2 (rs.flatMap cI) ∧ Fresh H t1 ∧ Fresh H t2 ∧
 (∀ p, t1.p = some p → p.1 ≠ b1 ∧ p.1 ≠ b3) ∧ (∀ p, t2.p = some p → p.1 ≠ b1 ∧ p.1 ≠ b3) ∧ ∀ p q, t1.p = some p → t2.p = some q → p.1 ≠ q.1
theorem sides_ok {on : List Pr} {s : Sl} {K : T_delta_side → T_delta_side → Heap → Prop} (h : PrL A s on) (hA : A.le H) (hn : on.length ≤ 1000)
 (k : ∀ x y D, H.le D → IL D x.places_ (on.map fun p => p.1) → IL D y.places_ (on.map fun p => p.2) → K x y D) : c_delta_sides C s K H := by
 apply ad_delta_sides
 unfold sh_delta_sides
 intro b1 n1 b3 n3
 have ne : b3 ≠ b1 := fun e => by rw [e, Heap.put_same] at n3; cases n3
 have n3' : H b3 = none := by rw [Heap.put_ne _ _ _ ne] at n3; exact n3
 have l1 := Heap.le_put n1 (g := .row (T_delta_side.c T_delta_side.zero)) (m := true)
 have l3 := Heap.le_put n3 (g := .row (T_delta_side.c T_delta_side.zero)) (m := true)
 refine ⟨fun x D => ∃ i : Nat, x = (i : Int) ∧ i ≤ on.length ∧ SidI H D b1 b3 ((on.take i).map fun p => p.1) ((on.take i).map fun p => p.2), fun x _ => on.length - x.toNat, ⟨0, rfl, Nat.zero_le _, Sl.nil, Sl.nil, l1.trans l3, by rw [Heap.put_ne _ _ _ ne.symm, Heap.put_same]; rfl, by rw [Heap.put_same]; rfl, Own.nil _ 1, Own.nil _ 1, Fresh.nil _, Fresh.nil _, (fun p hp => by cases hp), (fun p hp => by cases hp), (fun p q hp => by cases hp)⟩, ?_⟩
 rintro _ D ⟨i, rfl, hi, t1, t2, hD, c1, c3, o1, o2, f1, f2, d1, d2, d12⟩
 rw [h.len]
 have hAD := hA.trans hD
 refine ift.of (fun hc => ?_) (fun hc => ?_)
 ·have hlt : i < on.length := by have := of_decide_eq_true hc; omega
  refine SlIs.ld h hAD (z := 2) (fun _ => rfl) (by omega) rfl hlt fun y hy => ?_
  intro b nb
  refine nwT rfl ?_
  have lb := Heap.le_put nb (g := .row (T_delta_Pair.c y)) (m := true)
  have bb1 := ne_of_none nb c1
  have bb3 := ne_of_none nb c3
  have bt1 : ∀ p, t1.p = some p → p.1 ≠ b := fun p hp => by obtain ⟨g, hg⟩ := o1.mine hp; exact ne_of_none nb hg
  have bt2 : ∀ p, t2.p = some p → p.1 ≠ b := fun p hp => by obtain ⟨g, hg⟩ := o2.mine hp; exact ne_of_none nb hg
  have cb : (D.put b (.row (T_delta_Pair.c y))) b = some (true, .row (T_delta_Pair.c y)) := Heap.put_same ..
  have c1 := lb _ _ c1
  have c3 := lb _ _ c3
  have o1 := o1.le lb
  have o2 := o2.le lb
  have hD := hD.trans lb
  generalize D.put b (.row (T_delta_Pair.c y)) = D1 at *
  refine fL c1 (t := t1) rfl (fI cb (t := y.Left) rfl ?_)
  have ll : ((on.take i).map fun p => p.1).length ≤ 1000000 := by simp; omega
  have lr : ((on.take i).map fun p => p.2).length ≤ 1000000 := by simp; omega
  refine grow o1 ll fun r H2 q1 q2 q3 => ?_
  have e1 := Heap.off_some c1 fun p hp => (d1 p hp).1
  have e3 := Heap.off_some c3 fun p hp => (d1 p hp).2
  have eb := Heap.off_some cb fun p hp => bt1 p hp
  have w2 := own_off o2 d12
  have hr1 := fresh_ne q3 e1
  have hr3 := fresh_ne q3 e3
  have hr2 : ∀ p q, r.p = some p → t2.p = some q → p.1 ≠ q.1 := fun p q hp hq => by obtain ⟨g, hg⟩ := w2.mine hq; exact fresh_ne q3 hg p hp
  have hH2 := (Heap.le_off hD f1).trans q2
  have hrf : Fresh H r := q3.le (Heap.le_off hD f1)
  refine stI (q2 _ _ e1) ?_
  have g1 : (H2.put b1 (.row [slv r])) b1 = some (true, .row [slv r]) := Heap.put_same ..
  have g3 : (H2.put b1 (.row [slv r])) b3 = some (true, .row [slv t2]) := by rw [Heap.put_ne _ _ _ ne]; exact q2 _ _ e3
  have gb : (H2.put b1 (.row [slv r])) b = some (true, .row (T_delta_Pair.c y)) := by rw [Heap.put_ne _ _ _ bb1.symm]; exact q2 _ _ eb
  have or_ : Own (H2.put b1 (.row [slv r])) 1 r _ := q1.put_off hr1
  have o2 : Own (H2.put b1 (.row [slv r])) 1 t2 _ := (w2.le q2).put_off fun p hp => (d2 p hp).1
  have hD := le_put_off (g := .row [slv r]) hH2 n1
  generalize H2.put b1 (.row [slv r]) = H3 at *
  refine fL g3 (t := t2) rfl (fI gb (t := y.Right) rfl ?_)
  refine grow o2 lr fun r2 H4 q4 q5 q6 => ?_
  have e1 := Heap.off_some g1 fun p hp => (d2 p hp).1
  have e3 := Heap.off_some g3 fun p hp => (d2 p hp).2
  have w1 := own_off or_ fun p q hp hq => (hr2 q p hq hp).symm
  have hs1 := fresh_ne q6 e1
  have hs3 := fresh_ne q6 e3
  have hsr : ∀ p q, r.p = some p → r2.p = some q → p.1 ≠ q.1 := fun p q hp hq => by obtain ⟨g, hg⟩ := w1.mine hp; exact (fresh_ne q6 hg q hq).symm
  have hH4 := (Heap.le_off hD f2).trans q5
  have hsf : Fresh H r2 := q6.le (Heap.le_off hD f2)
  refine stI (q5 _ _ e3) ?_
  rw [w_i64 (by omega) (by omega)]
  refine ⟨⟨i + 1, by omega, by omega, r, r2, le_put_off hH4 n3', by rw [Heap.put_ne _ _ _ ne.symm]; exact q5 _ _ e1, Heap.put_same .., ?_, ?_, hrf, hsf, fun p hp => ⟨hr1 p hp, hr3 p hp⟩, fun p hp => ⟨hs1 p hp, hs3 p hp⟩, hsr⟩, by first | omega | (dsimp only; omega)⟩
  ·rw [List.take_add_one, List.getElem?_eq_getElem hlt, List.map_append]
   have := (w1.le q5).put_off (g := .row [slv r2]) hr3
   rw [hy.1] at this
   exact this
  ·rw [List.take_add_one, List.getElem?_eq_getElem hlt, List.map_append]
   have := q4.put_off (g := .row [slv r2]) hs3
   rw [hy.2] at this
   exact this
 ·have hie : i = on.length := by have := of_decide_eq_false hc; omega
  subst hie
  rw [List.take_length] at o1 o2
  have i1 : IL D t1 (on.map fun p => p.1) := IL.of o1.rdsl (by have := o1.1; rw [cI_flat] at this; omega) (by simp; omega)
  have i2 : IL D t2 (on.map fun p => p.2) := IL.of o2.rdsl (by have := o2.1; rw [cI_flat] at this; omega) (by simp; omega)
  have hk := k (⟨t1⟩ : T_delta_side) (⟨t2⟩ : T_delta_side) D hD i1 i2
  have v1 : ∀ {K : T_delta_side → Prop}, K (⟨t1⟩ : T_delta_side) → ldT D T_delta_side.c (b1, 0) K := fun h => bxT c1 h
  have v3 : ∀ {K : T_delta_side → Prop}, K (⟨t2⟩ : T_delta_side) → ldT D T_delta_side.c (b3, 0) K := fun h => bxT c3 h
  have s1 : ∀ {K : Heap → Prop}, K D → stT (b1, 0) (T_delta_side.c (⟨t1⟩ : T_delta_side)) K D := fun h => stT_same c1 h
  have s3 : ∀ {K : Heap → Prop}, K D → stT (b3, 0) (T_delta_side.c (⟨t2⟩ : T_delta_side)) K D := fun h => stT_same c3 h
  have lr := Heap.le.refl D
  refine ⟨D, lr, v1 ⟨lr, v3 ⟨lr, s1 ⟨lr, s3 (v1 (v3 hk))⟩⟩, s1 ⟨lr, v3 ⟨lr, s3 (v1 (v3 hk))⟩⟩⟩, v3 ⟨lr, v1 ⟨lr, s1 ⟨lr, s3 (v1 (v3 hk))⟩⟩⟩⟩
end
end Sx
end

noncomputable section
set_option linter.unusedVariables false
set_option linter.unusedSimpArgs false
set_option maxRecDepth 10000
namespace Sx
open Go Go.Proofs
def encS (x : Sl) : Value := slv x
def byK (ps : List Int) (k : Str) (es : List En) : List En := es.filter fun e => keyE ps e.1 == some k
theorem byK_snoc (ps : List Int) (k : Str) (es : List En) (e : En) : byK ps k (es ++ [e]) = byK ps k es ++ if keyE ps e.1 == some k then [e] else [] := by
 unfold byK; rw [List.filter_append]; simp [List.filter_cons]
/-- entries by their keys, as they come to be -/
structure ByW (A H D : Heap) (mb : Nat) (ps : List Int) (es : List En) : Prop where
 le : H.le D
 nb : H mb = none
 ex : ∃ l : List (Str × Sl), MapIs encS D mb l ∧
  (∀ k s, lkL k l = some s → ∃ ys : List T_zset_Entry, Own D 2 s (ys.flatMap T_zset_Entry.c) ∧ Fresh H s ∧ ys.length = (byK ps k es).length ∧ ∀ (j : Nat) (e : En) (y : T_zset_Entry), (byK ps k es)[j]? = some e → ys[j]? = some y → EnIs A e y) ∧
  (∀ k, lkL k l = none → byK ps k es = []) ∧
  ∀ k s k' s', lkL k l = some s → lkL k' l = some s' → k ≠ k' → ∀ p q, s.p = some p → s'.p = some q → p.1 ≠ q.1
theorem ByW.step {A H D : Heap} {mb : Nat} {ps : List Int} {es : List En} {e : En} {y : T_zset_Entry} {key : Str} {K : Heap → Prop} (h : ByW A H D mb ps es) (hy : EnIs A e y) (hk : keyE ps e.1 = some key) (hn : es.length ≤ 1000000)
 (k : ∀ D2, ByW A H D2 mb ps (es ++ [e]) → K D2) :
 lkM encS Sl.nil (some mb) key (fun x31 is32 => apd (T_zset_Entry.c T_zset_Entry.zero) 32 x31 (T_zset_Entry.c y ++ []) 1 (fun r36 H37 => upM encS (some mb) key r36 K H37) D) D := by
 obtain ⟨l, hM, h1, h2, h3⟩ := h.ex
 have hfl : ∀ k, (byK ps k es).length ≤ es.length := fun k => List.length_filter_le ..
 have hne : (keyE ps e.1 == some key) = true := by rw [hk]; simp
 have hne2 : ∀ k2, k2 ≠ key → (keyE ps e.1 == some k2) = false := fun k2 hk2 => by
  rw [hk]
  cases hb : (some key == some k2) with
  | false => rfl
  | true => exact absurd (by simpa using hb : key = k2).symm hk2
 obtain ⟨⟨me, ck, hmb, hme⟩, hnd⟩ := hM
 have hM : MapIs encS D mb l := ⟨⟨me, ck, hmb, hme⟩, hnd⟩
 -- what is common to both ways
 have main : ∀ (s : Sl) (ys : List T_zset_Entry), Own D 2 s (ys.flatMap T_zset_Entry.c) → Fresh H s → ys.length = (byK ps key es).length → (∀ (j : Nat) (e : En) (y : T_zset_Entry), (byK ps key es)[j]? = some e → ys[j]? = some y → EnIs A e y) →
  (∀ k2 s2, lkL k2 l = some s2 → k2 ≠ key → ∀ p q, s.p = some p → s2.p = some q → p.1 ≠ q.1) →
  apd (T_zset_Entry.c T_zset_Entry.zero) 32 s (T_zset_Entry.c y ++ []) 1 (fun r36 H37 => upM encS (some mb) key r36 K H37) D := fun s ys o f hl hr hd => by
  have hsl : s.len = ys.length := by have := o.1; rw [ysE_len] at this; omega
  have hb := hfl key
  refine apd_ownF (zc := T_zset_Entry.c T_zset_Entry.zero) (cs := ys.flatMap T_zset_Entry.c) o.off rfl (by omega) (by omega) fun r D2 q1 q2 => ?_
  have eM := Heap.off_some hmb fun p hp => own_ne o hmb p hp
  have gM := q1.le _ _ eM
  have hM2 : MapIs encS D2 mb l := ⟨⟨me, ck, gM, hme⟩, hnd⟩
  have hrm := fresh_ne q1.fresh eM
  have hHo := Heap.le_off h.le f
  have hH2 := hHo.trans q1.le
  refine ⟨mb, l, rfl, hM2, fun g l2 m2 m3 _ => k _ ⟨le_put_off hH2 h.nb, h.nb, l2, m2, fun k2 s2 hk2 => ?_, fun k2 hk2 => ?_, fun k2 s2 k3 s3 hk2 hk3 hne' p q hp hq => ?_⟩⟩
  ·rw [m3] at hk2
   by_cases hkk : k2 = key
   ·rw [if_pos hkk] at hk2
    injection hk2 with hk2; subst hk2; subst hkk
    rw [byK_snoc, hne, if_pos rfl]
    refine ⟨ys ++ [y], ?_, q1.fresh.le hHo, by simp [hl], fun j e' y' he hy' => ?_⟩
    ·rw [List.flatMap_append]
     exact q1.own.put_off hrm
    ·by_cases hj : j < ys.length
     ·rw [List.getElem?_append_left hj] at hy'
      rw [List.getElem?_append_left (by omega)] at he
      exact hr j e' y' he hy'
     ·have hjl := (List.getElem?_eq_some_iff.1 hy').1
      rw [List.length_append, List.length_singleton] at hjl
      have hje : j = ys.length := by omega
      subst hje
      rw [List.getElem?_append_right (Nat.le_refl _), Nat.sub_self] at hy'
      rw [List.getElem?_append_right (by omega), hl, Nat.sub_self] at he
      simp only [List.getElem?_cons_zero, Option.some.injEq] at hy' he
      subst hy'; subst he; exact hy
   ·rw [if_neg hkk] at hk2
    obtain ⟨zs, z1, z2, z3, z4⟩ := h1 k2 s2 hk2
    rw [byK_snoc, hne2 k2 hkk]
    simp only [Bool.false_eq_true, if_false, List.append_nil]
    exact ⟨zs, ((own_off z1 (hd k2 s2 hk2 hkk)).le q1.le).put_off fun p hp => own_ne z1 hmb p hp, z2, z3, z4⟩
  ·rw [m3] at hk2
   by_cases hkk : k2 = key
   ·rw [if_pos hkk] at hk2; cases hk2
   ·rw [if_neg hkk] at hk2
    rw [byK_snoc, hne2 k2 hkk, h2 k2 hk2]; rfl
  ·rw [m3] at hk2 hk3
   have dr : ∀ k4 s4, lkL k4 l = some s4 → k4 ≠ key → ∀ p q, r.p = some p → s4.p = some q → p.1 ≠ q.1 := fun k4 s4 hk4 hkk p q hp hq => by
    obtain ⟨zs, z1, _⟩ := h1 k4 s4 hk4
    obtain ⟨g, hg⟩ := (own_off z1 (hd k4 s4 hk4 hkk)).mine hq
    exact fresh_ne q1.fresh hg p hp
   by_cases e2 : k2 = key
   ·rw [if_pos e2] at hk2
    injection hk2 with hk2; subst hk2
    rw [if_neg fun e3 => hne' (e2.trans e3.symm)] at hk3
    exact dr k3 s3 hk3 (fun e3 => hne' (e2.trans e3.symm)) p q hp hq
   ·rw [if_neg e2] at hk2
    by_cases e3 : k3 = key
    ·rw [if_pos e3] at hk3
     injection hk3 with hk3; subst hk3
     exact (dr k2 s2 hk2 e2 q p hq hp).symm
    ·rw [if_neg e3] at hk3
     exact h3 k2 s2 k3 s3 hk2 hk3 hne' p q hp hq
 refine hM.lk (fun x hx => ?_) (fun hx => ?_)
 ·obtain ⟨ys, o, f, hl, hr⟩ := h1 key x hx
  exact main x ys o f hl hr fun k2 s2 hk2 hkk p q hp hq => (h3 k2 s2 key x hk2 hx hkk q p hq hp).symm
 ·have h0 := h2 key hx
  exact main Sl.nil [] (Own.nil _ 2) (Fresh.nil _) (by rw [h0]; rfl) (fun j e y he hy => by simp at hy) fun k2 s2 _ _ p q hp => by cases hp
/-- entries by their keys -/
def ByI (D : Heap) (q : Option Nat) (ps : List Int) (es : List En) : Prop := ∃ mb l, q = some mb ∧ MapIs encS D mb l ∧ (∀ k s, lkL k l = some s → EnL D s (byK ps k es)) ∧ ∀ k, lkL k l = none → byK ps k es = []
theorem ByI.le {D E : Heap} {q : Option Nat} {ps : List Int} {es : List En} (h : ByI D q ps es) (hle : D.le E) : ByI E q ps es := by
 obtain ⟨mb, l, h1, h2, h3, h4⟩ := h
 exact ⟨mb, l, h1, h2.le hle, fun k s hk => (h3 k s hk).le hle, h4⟩
theorem ByI.lk {D E : Heap} {q : Option Nat} {ps : List Int} {es : List En} {key : Str} {K : Sl → Bool → Prop} (h : ByI E q ps es) (hle : E.le D) (k : ∀ s b, EnL E s (byK ps key es) → K s b) : lkM encS Sl.nil q key K D := by
 obtain ⟨mb, l, rfl, h2, h3, h4⟩ := h
 refine (h2.le hle).lk (fun x hx => k x true (h3 key x hx)) (fun hx => k Sl.nil false ?_)
 rw [h4 key hx]; exact EnL.nil
section
variable {C : Ctx} {H A : Heap}
theorem by_ok (hF : FmtC C) {ps : List Int} {x : T_delta_side} {es : List En} {s : Sl} {K : Option Nat → Heap → Prop} (hp : IL A x.places_ ps) (hs : EnL A s es) (hA : A.le H) (hn : es.length ≤ 1000000) (hm : ∀ e ∈ es, mayR e.1 = true ∧ vsizes e.1 ≤ 1000) (hpn : ps.length ≤ 1000)
 (k : ∀ q D, H.le D → ByI D q ps es → K q D) : c_delta_side_by C x s K H := by
 apply ad_delta_side_by
 unfold sh_delta_side_by
 intro b1 n1 b3 n3
 have ne : b3 ≠ b1 := fun e => by rw [e, Heap.put_same] at n3; cases n3
 have n3' : H b3 = none := by rw [Heap.put_ne _ _ _ ne] at n3; exact n3
 have l1 := Heap.le_put n1 (g := .row (T_delta_side.c x)) (m := true)
 have l3 := Heap.le_put n3 (g := .obj (.map #[] 0)) (m := true)
 have c1 : ((H.put b1 (.row (T_delta_side.c x))).put b3 (.obj (.map #[] 0))) b1 = some (true, .row (T_delta_side.c x)) := by rw [Heap.put_ne _ _ _ ne.symm, Heap.put_same]
 refine ⟨fun y D => ∃ i : Nat, y = (i : Int) ∧ i ≤ es.length ∧ ByW A H D b3 ps (es.take i) ∧ ∃ E, H.le E ∧ E b3 = none ∧ E b1 = some (true, .row (T_delta_side.c x)) ∧ ByW A E D b3 ps (es.take i), fun y _ => es.length - y.toNat, ?_, ?_⟩
 ·have h0 : ∀ {H0 : Heap}, H0 b3 = none → H0.le ((H.put b1 (.row (T_delta_side.c x))).put b3 (.obj (.map #[] 0))) → ByW A H0 ((H.put b1 (.row (T_delta_side.c x))).put b3 (.obj (.map #[] 0))) b3 ps (es.take 0) := fun h1 h2 =>
   ⟨h2, h1, [], MapIs.new, fun k s hk => by simp [lkL] at hk, fun k _ => rfl, fun k s k' s' hk => by simp [lkL] at hk⟩
  exact ⟨0, rfl, Nat.zero_le _, h0 n3' (l1.trans l3), H.put b1 (.row (T_delta_side.c x)), l1, n3, Heap.put_same .., h0 n3 l3⟩
 rintro _ D ⟨i, rfl, hi, _, E, hE, hE3, hE1, hW⟩
 have hED := hW.le
 have hAD := hA.trans (hE.trans hED)
 rw [hs.len]
 refine ift.of (fun hc => ?_) (fun hc => ?_)
 ·have hlt : i < es.length := by have := of_decide_eq_true hc; omega
  have hmem := List.getElem_mem hlt
  have htk : es.take (i + 1) = es.take i ++ [es[i]] := by rw [List.take_add_one, List.getElem?_eq_getElem hlt]; rfl
  refine ⟨fun _ D2 => ByW A E D2 b3 ps (es.take (i + 1)), ?_, ?_⟩
  ·refine SlIs.ld hs hAD (z := 2) (fun _ => rfl) (by omega) rfl hlt fun y hy => ?_
   intro b nb
   refine nwT rfl ?_
   have lb := Heap.le_put nb (g := .row (T_zset_Entry.c y)) (m := true)
   have cb : (D.put b (.row (T_zset_Entry.c y))) b = some (true, .row (T_zset_Entry.c y)) := Heap.put_same ..
   have c1 := lb _ _ (hED _ _ hE1)
   have hW2 : ByW A E (D.put b (.row (T_zset_Entry.c y))) b3 ps (es.take i) := by
    obtain ⟨l, m1, m2, m3, m4⟩ := hW.ex
    exact ⟨hED.trans lb, hW.nb, l, m1.le lb, fun k s hk => by obtain ⟨ys, z1, z2, z3, z4⟩ := m2 k s hk; exact ⟨ys, z1.le lb, z2, z3, z4⟩, m3, m4⟩
   have hAD := hAD.trans lb
   generalize D.put b (.row (T_zset_Entry.c y)) = D1 at *
   refine bxT (c := T_delta_side.c) c1 (fL cb (t := y.Row) rfl ?_)
   have hup : ∀ {H2 : Heap}, D1.le H2 → ByW A E H2 b3 ps (es.take i) := fun l2 => by
    obtain ⟨l, m1, m2, m3, m4⟩ := hW2.ex
    exact ⟨hW2.le.trans l2, hW2.nb, l, m1.le l2, fun k s hk => by obtain ⟨ys, z1, z2, z3, z4⟩ := m2 k s hk; exact ⟨ys, z1.le l2, z2, z3, z4⟩, m3, m4⟩
   refine key_ok hF hp hy.1 hAD hy.2.1 (hm _ hmem).1 (hm _ hmem).2 (by omega) (fun key hk H2 l2 => ?_) (fun hk H2 l2 => ?_)
   ·refine ift_pos rfl ?_
    have hk2 := (hup l2).step hy hk (by simp; omega) (K := fun D2 => ByW A E D2 b3 ps (es.take (i + 1))) fun D2 h2 => by rw [htk]; exact h2
    obtain ⟨x0, b0, q1, q2⟩ := hk2
    refine ⟨x0, b0, q1, ?_⟩
    exact bxT (c := T_zset_Entry.c) (l2 _ _ cb) q2
   ·refine ift_neg rfl ?_
    have hW3 := hup l2
    rw [htk]
    obtain ⟨l, m1, m2, m3, m4⟩ := hW3.ex
    have hsn : ∀ k, byK ps k (es.take i ++ [es[i]]) = byK ps k (es.take i) := fun k => by rw [byK_snoc, hk]; simp
    exact ⟨hW3.le, hW3.nb, l, m1, fun k s hk => by rw [hsn]; exact m2 k s hk, fun k hk => by rw [hsn]; exact m3 k hk, m4⟩
  ·rintro _ D2 hW2
   rw [w_i64 (by omega) (by omega)]
   refine ⟨⟨i + 1, by omega, by omega, ?_, E, hE, hE3, hE1, hW2⟩, by first | omega | (dsimp only; omega)⟩
   obtain ⟨l, m1, m2, m3, m4⟩ := hW2.ex
   exact ⟨hE.trans hW2.le, n3', l, m1, fun k s hk => by obtain ⟨ys, z1, z2, z3, z4⟩ := m2 k s hk; exact ⟨ys, z1, z2.le hE, z3, z4⟩, m3, m4⟩
 ·have hie : i = es.length := by have := of_decide_eq_false hc; omega
  subst hie
  rw [List.take_length] at hW
  obtain ⟨l, m1, m2, m3, m4⟩ := hW.ex
  refine k (some b3) D (hE.trans hED) ⟨b3, l, rfl, m1, fun key s hk => ?_, m3⟩
  obtain ⟨ys, z1, z2, z3, z4⟩ := m2 key s hk
  have hlen : (byK ps key es).length ≤ es.length := List.length_filter_le ..
  exact ⟨ys, z1.rdsl, by have := z1.1; rw [ysE_len] at this; omega, z3.symm, by omega, fun j e y he hy => (z4 j e y he hy).le hAD⟩
end
end Sx
end

noncomputable section
set_option linter.unusedVariables false
set_option linter.unusedSimpArgs false
set_option maxRecDepth 10000
namespace Sx
open Go Go.Proofs
/-- a list of entries that grows; rows may lie anywhere but in it -/
structure EnW (H B : Heap) (es : List En) (s : Sl) (ys : List T_zset_Entry) : Prop where
 own : OwnF H B 2 s (ys.flatMap T_zset_Entry.c)
 len : ys.length = es.length
 done : ∀ (j : Nat) (e : En) (y : T_zset_Entry), es[j]? = some e → ys[j]? = some y → EnIs (B.off s) e y
theorem EnW.nil {H : Heap} : EnW H H [] Sl.nil [] := ⟨OwnF.nil H 2, rfl, fun j e y he => by simp at he⟩
theorem EnW.slen {H B : Heap} {es : List En} {s : Sl} {ys : List T_zset_Entry} (h : EnW H B es s ys) : s.len = es.length := by have := h.own.own.1; rw [ysE_len] at this; have := h.len; omega
theorem off_up {B B' : Heap} {s : Sl} (h : B.le B') : (B.off s).le (B'.off s) := Heap.le_off ((Heap.off_le s B).trans h) (Heap.off_fresh s B)
theorem EnW.up {H B B' : Heap} {es : List En} {s : Sl} {ys : List T_zset_Entry} (h : EnW H B es s ys) (hle : B.le B') : EnW H B' es s ys := ⟨h.own.up hle, h.len, fun j e y he hy => (h.done j e y he hy).le (off_up hle)⟩
theorem EnW.base {H B : Heap} {es : List En} {s : Sl} {ys : List T_zset_Entry} (h : EnW H B es s ys) : EnW (B.off s) B es s ys := ⟨h.own.own.off, h.len, h.done⟩
theorem EnW.down {H0 H B : Heap} {es : List En} {s : Sl} {ys : List T_zset_Entry} (h : EnW H B es s ys) (hle : H0.le H) : EnW H0 B es s ys := ⟨h.own.down hle, h.len, h.done⟩
theorem EnW.en {H B : Heap} {es : List En} {s : Sl} {ys : List T_zset_Entry} (h : EnW H B es s ys) (hn : es.length ≤ 140737488355328) : EnL B s es :=
 ⟨ys, h.own.own.rdsl, by rw [h.slen, h.len], h.len.symm, hn, fun j e y he hy => (h.done j e y he hy).le (Heap.off_le s B)⟩
theorem EnW.step {H B B' : Heap} {es : List En} {s : Sl} {ys : List T_zset_Entry} {e : En} {y : T_zset_Entry} {K : Sl → Heap → Prop} (h : EnW H B es s ys) (hle : B.le B') (hy : EnIs (B'.off s) e y) (hn : es.length ≤ 1000000)
 (k : ∀ r B2, EnW H B2 (es ++ [e]) r (ys ++ [y]) → K r B2) : apd (T_zset_Entry.c T_zset_Entry.zero) 32 s (T_zset_Entry.c y ++ []) 1 K B' := by
 have h := h.up hle
 have hsl := h.slen
 refine apd_ownF (zc := T_zset_Entry.c T_zset_Entry.zero) (cs := ys.flatMap T_zset_Entry.c) h.own.own.off rfl (by omega) (by omega) fun r B2 q1 q2 => k r B2 ?_
 have hup : (B'.off s).le (B2.off r) := Heap.le_off q1.le q1.fresh
 have hHo := Heap.le_off h.own.le h.own.fresh
 refine ⟨?_, by simp [h.len], fun j e' y' he hy' => ?_⟩
 ·rw [List.flatMap_append]
  exact q1.down hHo
 ·by_cases hj : j < ys.length
  ·rw [List.getElem?_append_left hj] at hy'
   rw [List.getElem?_append_left (by rw [← h.len]; exact hj)] at he
   exact (h.done j e' y' he hy').le hup
  ·have hjl := (List.getElem?_eq_some_iff.1 hy').1
   rw [List.length_append, List.length_singleton] at hjl
   have hje : j = ys.length := by omega
   subst hje
   rw [List.getElem?_append_right (Nat.le_refl _), Nat.sub_self] at hy'
   rw [List.getElem?_append_right (by rw [h.len]; exact Nat.le_refl _), h.len, Nat.sub_self] at he
   simp only [List.getElem?_cons_zero, Option.some.injEq] at hy' he
   subst hy'; subst he; exact hy.le hup
/-- a list of entries that grows; rows are read in R -/
structure EnX (R H B : Heap) (es : List En) (s : Sl) (ys : List T_zset_Entry) : Prop where
 own : OwnF H B 2 s (ys.flatMap T_zset_Entry.c)
 len : ys.length = es.length
 done : ∀ (j : Nat) (e : En) (y : T_zset_Entry), es[j]? = some e → ys[j]? = some y → EnIs R e y
theorem EnX.nil {R H : Heap} : EnX R H H [] Sl.nil [] := ⟨OwnF.nil H 2, rfl, fun j e y he => by simp at he⟩
theorem EnX.slen {R H B : Heap} {es : List En} {s : Sl} {ys : List T_zset_Entry} (h : EnX R H B es s ys) : s.len = es.length := by have := h.own.own.1; rw [ysE_len] at this; have := h.len; omega
theorem EnX.up {R H B B' : Heap} {es : List En} {s : Sl} {ys : List T_zset_Entry} (h : EnX R H B es s ys) (hle : B.le B') : EnX R H B' es s ys := ⟨h.own.up hle, h.len, h.done⟩
theorem EnX.down {R H0 H B : Heap} {es : List En} {s : Sl} {ys : List T_zset_Entry} (h : EnX R H B es s ys) (hle : H0.le H) : EnX R H0 B es s ys := ⟨h.own.down hle, h.len, h.done⟩
theorem EnX.sl {R H B : Heap} {es : List En} {s : Sl} {ys : List T_zset_Entry} (h : EnX R H B es s ys) (hn : es.length ≤ 140737488355328) : SlIs (EnIs R) T_zset_Entry.c B s es :=
 ⟨ys, h.own.own.rdsl, by rw [h.slen, h.len], h.len.symm, hn, h.done⟩
theorem EnX.step {R H B B' : Heap} {es : List En} {s : Sl} {ys : List T_zset_Entry} {e : En} {y : T_zset_Entry} {K : Sl → Heap → Prop} (h : EnX R H B es s ys) (hle : B.le B') (hy : EnIs R e y) (hn : es.length ≤ 1000000)
 (k : ∀ r B2, EnX R H B2 (es ++ [e]) r (ys ++ [y]) → (B'.off s).le B2 → K r B2) : apd (T_zset_Entry.c T_zset_Entry.zero) 32 s (T_zset_Entry.c y ++ []) 1 K B' := by
 have h := h.up hle
 have hsl := h.slen
 refine apd_ownF (zc := T_zset_Entry.c T_zset_Entry.zero) (cs := ys.flatMap T_zset_Entry.c) h.own.own.off rfl (by omega) (by omega) fun r B2 q1 q2 => k r B2 ?_ q1.le
 have hHo := Heap.le_off h.own.le h.own.fresh
 refine ⟨?_, by simp [h.len], fun j e' y' he hy' => ?_⟩
 ·rw [List.flatMap_append]
  exact q1.down hHo
 ·by_cases hj : j < ys.length
  ·rw [List.getElem?_append_left hj] at hy'
   rw [List.getElem?_append_left (by rw [← h.len]; exact hj)] at he
   exact h.done j e' y' he hy'
  ·have hjl := (List.getElem?_eq_some_iff.1 hy').1
   rw [List.length_append, List.length_singleton] at hjl
   have hje : j = ys.length := by omega
   subst hje
   rw [List.getElem?_append_right (Nat.le_refl _), Nat.sub_self] at hy'
   rw [List.getElem?_append_right (by rw [h.len]; exact Nat.le_refl _), h.len, Nat.sub_self] at he
   simp only [List.getElem?_cons_zero, Option.some.injEq] at hy' he
   subst hy'; subst he; exact hy
theorem off_put_ne {D : Heap} {s : Sl} {b : Nat} {g : GO} (h : ∀ p, s.p = some p → p.1 ≠ b) : (D.put b g).off s = (D.off s).put b g := by
 funext x
 unfold Heap.off
 by_cases hx : x = b
 ·subst hx
  rw [if_neg fun e => by obtain ⟨p, hp, e2⟩ := Option.map_eq_some_iff.1 e; exact h p hp e2, Heap.put_same, Heap.put_same]
 ·rw [Heap.put_ne _ _ _ hx, Heap.put_ne _ _ _ hx]
theorem vsAre_append {A : Heap} : ∀ {l m : List V} {xs ys : List TV}, VsAre A l xs → VsAre A m ys → VsAre A (l ++ m) (xs ++ ys)
 | [], m, [], ys, _, h2 => h2
 | v :: l, m, x :: xs, ys, h1, h2 => ⟨h1.1, vsAre_append h1.2 h2⟩
 | [], m, x :: xs, ys, h1, _ => h1.elim
 | v :: l, m, [], ys, h1, _ => h1.elim
theorem tv_one (xs : List TV) : ∀ u ∈ xs.flatMap T_api_Value.c, u.oneCell' = true := by
 intro u hu
 obtain ⟨x, _, hx⟩ := List.mem_flatMap.1 hu
 simp only [T_api_Value.c, List.mem_cons, List.not_mem_nil, or_false] at hx
 rcases hx with rfl | rfl | rfl | rfl <;> rfl
/-- a row and another one behind it, in memory of their own (or the first one, if nothing comes) -/
theorem cat_ok {G D : Heap} {s t : Sl} {l m : List V} {K : Sl → Heap → Prop} (hs : VRow G s l) (ht : VRow G t m) (hc : s.len ≤ s.cap) (hG : G.le D) (hn : l.length + m.length ≤ 1000000)
 (k0 : m = [] → ∀ r, VRow G r l → K r D)
 (k1 : ∀ b g r, D b = none → VRow (G.put b g) r (l ++ m) → K r (D.put b g)) :
 slL s 0 (Sl.len s : Int) (Sl.len s : Int) 4 fun t65 => apS (T_api_Value.c T_api_Value.zero) 56 t65 t K D := by
 obtain ⟨xs, x1, x2, x3⟩ := hs
 obtain ⟨ys, y1, y2, y3⟩ := ht
 have xl := x3.len
 have yl := y3.len
 have hx4 := flat4 xs
 have hy4 := flat4 ys
 refine ⟨Int.le_refl _, by omega, Int.le_refl _, by omega, _, rfl, ?_⟩
 have hp : (if (s.len : Int) = 0 then s.p else s.p.map fun p => (p.1, p.2 + (0 : Int).toNat * 4)) = s.p := by
  split
  ·rfl
  ·cases s.p <;> rfl
 rw [hp, if_pos (.inr rfl)]
 have hl13 : ((s.len : Int) - 0).toNat = xs.length := by omega
 rw [hl13]
 have r1 : ∀ {E : Heap}, G.le E → rdsl E (⟨s.p, xs.length, xs.length, s.x⟩ : Sl) (xs.flatMap T_api_Value.c) := fun hE => (rdsl_le hE x1).imp id fun h => h
 refine ⟨ys.flatMap T_api_Value.c, rdsl_le hG y1, tv_one ys, xs.flatMap T_api_Value.c, r1 hG, by rw [hx4]; rfl, by rw [hy4, y2]; rfl, by dsimp only; omega, by dsimp only; omega, fun h => .inl ⟨?_, ?_⟩, fun h b cap nb hcap => ?_⟩
 ·have : ys.length = 0 := by dsimp only at h; omega
  rw [List.length_eq_zero_iff.1 this]; rfl
 ·have h0 : t.len = 0 := by dsimp only at h; omega
  have hm : m = [] := List.length_eq_zero_iff.1 (by omega)
  refine k0 hm _ ⟨xs, ?_, by dsimp only; omega, x3⟩
  have := r1 (Heap.le.refl G)
  dsimp only
  rw [h0]
  exact this
 ·have nG := hG.none nb
  have lG := Heap.le_put nG (g := .row (xs.flatMap T_api_Value.c ++ ys.flatMap T_api_Value.c ++ zeros (T_api_Value.c T_api_Value.zero) (cap - (xs.length + t.len)))) (m := true)
  refine k1 b _ _ nb ⟨xs ++ ys, .inr ⟨rfl, _, rfl, rds_row (Heap.put_same ..) fun j v hj => ?_⟩, by show xs.length + t.len = _; rw [List.length_append]; omega, vsAre_append (x3.le lG) (y3.le lG)⟩
  rw [Nat.zero_add, ← List.flatMap_append]
  exact (List.getElem?_append_left (List.getElem?_eq_some_iff.1 hj).1).trans hj
/-- entries whose rows have room as they tell -/
def EnIsC (A : Heap) (v : En) (x : T_zset_Entry) : Prop := EnIs A v x ∧ x.Row.len ≤ x.Row.cap
abbrev EnC (A : Heap) := SlIs (EnIsC A) T_zset_Entry.c A
theorem EnC.le {A B : Heap} {s : Sl} {l : List En} (h : EnC A s l) (hle : A.le B) : EnC B s l := SlIs.le hle h fun _ _ _ h => ⟨h.1.le hle, h.2⟩
theorem EnC.en {A : Heap} {s : Sl} {l : List En} (h : EnC A s l) : EnL A s l := SlIs.le (Heap.le.refl A) h fun _ _ _ h => h.1
theorem EnC.nil {H : Heap} : EnC H Sl.nil [] := ⟨[], .inl rfl, rfl, rfl, by simp, fun i v x hv => by simp at hv⟩
theorem OgE.enC {H B : Heap} {es : List En} {s : Sl} {ys : List T_zset_Entry} (h : OgE H B es s ys) (hb : ∀ e ∈ es, okE e) (hn : es.length ≤ 140737488355328) : EnC B s es := by
 have hl := h.len
 have h1 := h.own.own.1
 rw [ysE_len] at h1
 refine ⟨ys, h.own.own.rdsl, by omega, hl.symm, hn, fun j e y he hy => ?_⟩
 obtain ⟨m1, m2⟩ := h.done j e y he hy
 have hok := hb e (List.mem_of_getElem? he)
 exact ⟨⟨m1.row2.le (Heap.off_le s B), hok.1, hok.2.1, m2, hok.2.2⟩, m1.cp⟩
section
variable {C : Ctx} {H A : Heap}
theorem takeS {α : Type} {l : List α} {i : Nat} (h : i < l.length) : l.take (i + 1) = l.take i ++ [l[i]] := by rw [List.take_add_one, List.getElem?_eq_getElem h]; rfl
theorem vbs_append {a b : List V} (ha : VBs a) (hb : VBs b) : VBs (a ++ b) := by
 induction a with
 | nil => exact hb
 | cons v a ih => exact ⟨ha.1, ih ha.2⟩
theorem less_okX {R : Heap} {s : Sl} {es : List En} {K : Sl → Heap → Prop} (hs : SlIs (EnIs R) T_zset_Entry.c A s es) (hA : A.le H) (hn : es.length ≤ 1000000) (hN : ∀ e ∈ es, -2147483647 ≤ e.2 ∧ e.2 ≤ 2147483647)
 (k : ∀ r ys D, EnX R H D (negL es) r ys → K r D) : c_delta_less C s K H := by
 apply ad_delta_less
 unfold sh_delta_less
 refine ⟨fun x D => ∃ (i : Nat) (ys : List T_zset_Entry), x.2 = (i : Int) ∧ i ≤ es.length ∧ EnX R H D (negL (es.take i)) x.1 ys, fun x _ => es.length - x.2.toNat, ⟨0, [], rfl, Nat.zero_le _, EnX.nil⟩, ?_⟩
 rintro ⟨r, _⟩ D ⟨i, ys, rfl, hi, hg⟩
 have hAD := hA.trans hg.own.le
 rw [hs.len]
 refine ift.of (fun hc => ?_) (fun hc => ?_)
 ·have hlt : i < es.length := by have := of_decide_eq_true hc; dsimp only at this; omega
  refine SlIs.ld hs hAD (z := 2) (fun _ => rfl) (by omega) rfl hlt fun y hy => ?_
  intro b nb
  refine nwT rfl ?_
  have lb := Heap.le_put nb (g := .row (T_zset_Entry.c y)) (m := true)
  have cb : (D.put b (.row (T_zset_Entry.c y))) b = some (true, .row (T_zset_Entry.c y)) := Heap.put_same ..
  refine fL cb (t := y.Row) rfl (fI cb (t := y.N) rfl ?_)
  have hb := hN _ (List.getElem_mem hlt)
  have hyN := hy.2.2.2.1
  refine hg.step (e := (es[i].1, -es[i].2)) (y := (⟨y.Row, w .i64 (0 - y.N)⟩ : T_zset_Entry)) lb ⟨hy.1, hy.2.1, hy.2.2.1, ?_, by dsimp only; omega, by dsimp only; omega⟩ (by simp [negL]; omega) fun r2 B2 hg2 _ => ?_
  ·show w .i64 (0 - y.N) = -es[i].2
   rw [hyN, w_i64 (by omega) (by omega)]; omega
  ·rw [w_i64 (by dsimp only; omega) (by dsimp only; omega)]
   refine ⟨⟨i + 1, ys ++ [(⟨y.Row, w .i64 (0 - y.N)⟩ : T_zset_Entry)], by dsimp only; omega, by omega, ?_⟩, by first | omega | (dsimp only; omega)⟩
   rw [takeS hlt]
   unfold negL at hg2 ⊢
   rw [List.map_append]
   exact hg2
 ·have hie : i = es.length := by have := of_decide_eq_false hc; dsimp only at this; omega
  subst hie
  rw [List.take_length] at hg
  exact k r ys D hg
theorem none_okX (hF : FmtC C) {R : Heap} {on : List Pr} {sa sb sn : Sl} {a b : List En} {K : Sl → Heap → Prop} (ha : SlIs (EnIs R) T_zset_Entry.c A sa a) (hR : R.le H) (hb : EnL A sb b) (hp : PrL A sn on) (hA : A.le H) (hn : a.length ≤ 1000000) (hnb : b.length ≤ 1000000) (hon : on.length ≤ 1000)
 (hma : ∀ e ∈ a, mayR e.1 = true ∧ vsizes e.1 ≤ 1000) (hmb : ∀ e ∈ b, mayR e.1 = true ∧ vsizes e.1 ≤ 1000)
 (k : ∀ r ys D, EnX R H D (noneE on a b) r ys → K r D) : c_delta_none C sa sb sn K H := by
 apply ad_delta_none
 unfold sh_delta_none
 refine sides_ok hp hA hon fun x y D hD hx hy => ?_
 intro b4 n4 b6 n6
 have ne : b6 ≠ b4 := fun e => by rw [e, Heap.put_same] at n6; cases n6
 have l4 := Heap.le_put n4 (g := .row (T_delta_side.c T_delta_side.zero)) (m := true)
 have l6 := Heap.le_put n6 (g := .row (T_delta_side.c T_delta_side.zero)) (m := true)
 have n6' : D b6 = none := by rw [Heap.put_ne _ _ _ ne] at n6; exact n6
 have st4 : ∀ {K : Heap → Prop}, K (((D.put b4 (.row (T_delta_side.c x))).put b6 (.row (T_delta_side.c T_delta_side.zero)))) → stT (b4, 0) (T_delta_side.c x) K ((D.put b4 (.row (T_delta_side.c T_delta_side.zero))).put b6 (.row (T_delta_side.c T_delta_side.zero))) := fun h => by
  refine ⟨T_delta_side.c T_delta_side.zero, by rw [Heap.put_ne _ _ _ ne.symm, Heap.put_same], by simp [T_delta_side.c], ?_⟩
  have e : splice (T_delta_side.c T_delta_side.zero) (b4, 0).2 (T_delta_side.c x) = T_delta_side.c x := rfl
  rw [e, Heap.put_comm _ _ _ _ _ ne, Heap.put_put]
  exact h
 refine st4 (nwT rfl ?_)
 have lD : D.le ((D.put b4 (.row (T_delta_side.c x))).put b6 (.row (T_delta_side.c y))) := (Heap.le_put n4).trans (Heap.le_put (by rw [Heap.put_ne _ _ _ ne]; exact n6'))
 have c4 : ((D.put b4 (.row (T_delta_side.c x))).put b6 (.row (T_delta_side.c y))) b4 = some (true, .row (T_delta_side.c x)) := by rw [Heap.put_ne _ _ _ ne.symm, Heap.put_same]
 have c6 : ((D.put b4 (.row (T_delta_side.c x))).put b6 (.row (T_delta_side.c y))) b6 = some (true, .row (T_delta_side.c y)) := Heap.put_same ..
 generalize (D.put b4 (.row (T_delta_side.c x))).put b6 (.row (T_delta_side.c y)) = D2 at *
 have hAD := (hA.trans hD).trans lD
 refine bxT (c := T_delta_side.c) c6 ?_
 refine by_ok hF (hy.le lD) (hb.le hAD) (Heap.le.refl _) hnb hmb (by simp; omega) fun q E hE hI => ?_
 have hAE := hAD.trans hE
 have c4 := hE _ _ c4
 have hHE := (hD.trans lD).trans hE
 have hx := hx.le (lD.trans hE)
 refine ⟨fun z F => ∃ (i : Nat) (ys : List T_zset_Entry), z.2 = (i : Int) ∧ i ≤ a.length ∧ EnX R E F (noneE on (a.take i) b) z.1 ys, fun z _ => a.length - z.2.toNat, ⟨0, [], rfl, Nat.zero_le _, EnX.nil⟩, ?_⟩
 rintro ⟨r, _⟩ F ⟨i, ys, rfl, hi, hg⟩
 have hEF := hg.own.le
 have hlen : (noneE on (a.take i) b).length ≤ 1000000 := Nat.le_trans (List.length_filter_le ..) (by simp; omega)
 rw [ha.len]
 refine ift.of (fun hc => ?_) (fun hc => ?_)
 ·have hlt : i < a.length := by have := of_decide_eq_true hc; dsimp only at this; omega
  have hmem := List.getElem_mem hlt
  have hsn : noneE on (a.take (i + 1)) b = noneE on (a.take i) b ++ (if b.any (fun y => fitB on a[i].1 y.1) then [] else [a[i]]) := by
   unfold noneE
   rw [takeS hlt, List.filter_append]
   cases hb2 : b.any fun y => fitB on a[i].1 y.1 <;> simp [List.filter_cons, hb2]
  refine ⟨fun z F2 => ∃ ys2 : List T_zset_Entry, EnX R E F2 (noneE on (a.take (i + 1)) b) z ys2, ?_, ?_⟩
  ·refine SlIs.ld ha (hAE.trans hEF) (z := 2) (fun _ => rfl) (by omega) rfl hlt fun y2 hy2 => ?_
   intro b29 n29
   refine nwT rfl ?_
   have lb := Heap.le_put n29 (g := .row (T_zset_Entry.c y2)) (m := true)
   have cb : (F.put b29 (.row (T_zset_Entry.c y2))) b29 = some (true, .row (T_zset_Entry.c y2)) := Heap.put_same ..
   have c4 := lb _ _ (hEF _ _ c4)
   have hgb := hg.up lb
   have hEF := hEF.trans lb
   generalize F.put b29 (.row (T_zset_Entry.c y2)) = F1 at *
   refine bxT (c := T_delta_side.c) c4 (fL cb (t := y2.Row) rfl ?_)
   have keep : ∀ {F2 : Heap}, F1.le F2 → (b.any fun y => fitB on a[i].1 y.1) = false → ldT F2 T_zset_Entry.c (b29, 0) fun x48 => apd (T_zset_Entry.c T_zset_Entry.zero) 32 r ((T_zset_Entry.c x48) ++ []) 1 (fun r50 H51 => ∃ ys2 : List T_zset_Entry, EnX R E H51 (noneE on (a.take (i + 1)) b) r50 ys2) F2 := fun {F2} l2 hf => by
    refine bxT (l2 _ _ cb) ?_
    refine hgb.step (e := a[i]) (y := y2) l2 hy2 hlen fun r2 B2 h2 _ => ?_
    refine ⟨ys ++ [y2], ?_⟩
    rw [hsn, hf]
    exact h2
   have drop : ∀ {F2 : Heap}, F1.le F2 → (b.any fun y => fitB on a[i].1 y.1) = true → ∃ ys2 : List T_zset_Entry, EnX R E F2 (noneE on (a.take (i + 1)) b) r ys2 := fun {F2} l2 hf => by
    refine ⟨ys, ?_⟩
    rw [hsn, hf]
    simp only [if_true, List.append_nil]
    exact hgb.up l2
   refine key_ok hF (hx.le hEF) (hy2.1.le (hR.trans (hHE.trans hEF))) (Heap.le.refl _) hy2.2.1 (hma _ hmem).1 (hma _ hmem).2 (by simp; omega) (fun key hk H2 l2 => ?_) (fun hk H2 l2 => ?_)
   ·have hfit : ∀ y ∈ b, fitB on a[i].1 y.1 = (keyE (on.map fun p => p.2) y.1 == some key) := fun y hy => fit_key (hma _ hmem).1 (hmb y hy).1 hk
    refine ⟨fun bb F3 => F3 = H2 ∧ bb = !(b.any fun y => fitB on a[i].1 y.1), ift_neg rfl ?_, ?_⟩
    ·refine hI.lk (hEF.trans l2) fun s3 b3 h3 => ⟨rfl, ?_⟩
     rw [h3.len]
     have hany : (b.any fun y => fitB on a[i].1 y.1) = (b.any fun y => keyE (on.map fun p => p.2) y.1 == some key) := by
      rw [Bool.eq_iff_iff, List.any_eq_true, List.any_eq_true]
      exact ⟨fun ⟨y, hy, h⟩ => ⟨y, hy, by rw [← hfit y hy]; exact h⟩, fun ⟨y, hy, h⟩ => ⟨y, hy, by rw [hfit y hy]; exact h⟩⟩
     rw [hany]
     unfold byK
     cases hz : b.any fun y => keyE (on.map fun p => p.2) y.1 == some key with
     | true =>
      obtain ⟨y, hy, h⟩ := List.any_eq_true.1 hz
      have : y ∈ b.filter (fun e : En => keyE (on.map fun p => p.2) e.1 == some key) := by rw [List.mem_filter]; exact ⟨hy, h⟩
      have := List.length_pos_of_mem this
      show ((List.length (b.filter fun e => keyE (on.map fun p => p.2) e.1 == some key) : Int) == 0) = false
      exact beq_eq_false_iff_ne.2 fun e => by omega
     | false =>
      have : (b.filter fun e => keyE (on.map fun p => p.2) e.1 == some key) = [] := List.filter_eq_nil_iff.2 fun y hy h => by
       have hz2 := hz
       rw [List.any_eq_false] at hz2
       exact hz2 y hy h
      rw [this]; rfl
    ·rintro bb F3 ⟨rfl, rfl⟩
     cases hz : b.any fun y => fitB on a[i].1 y.1 with
     | true => exact ift_neg rfl (drop l2 hz)
     | false => exact ift_pos rfl (keep l2 hz)
   ·have hz : (b.any fun y => fitB on a[i].1 y.1) = false := by
     rw [List.any_eq_false]; intro y _; rw [fit_none hk]; simp
    refine ⟨fun bb F3 => F3 = H2 ∧ bb = true, ift_pos rfl ⟨rfl, rfl⟩, ?_⟩
    rintro bb F3 ⟨rfl, rfl⟩
    exact ift_pos rfl (keep l2 hz)
  ·rintro z F2 ⟨ys2, h2⟩
   rw [w_i64 (by dsimp only; omega) (by dsimp only; omega)]
   exact ⟨⟨i + 1, ys2, by dsimp only; omega, by omega, h2⟩, by first | omega | (dsimp only; omega)⟩
 ·have hie : i = a.length := by have := of_decide_eq_false hc; dsimp only at this; omega
  subst hie
  rw [List.take_length] at hg hlen
  exact k r ys F (hg.down hHE)
theorem none_ok (hF : FmtC C) {on : List Pr} {sa sb sn : Sl} {a b : List En} {K : Sl → Heap → Prop} (ha : EnL A sa a) (hb : EnL A sb b) (hp : PrL A sn on) (hA : A.le H) (hn : a.length ≤ 1000000) (hnb : b.length ≤ 1000000) (hon : on.length ≤ 1000)
 (hma : ∀ e ∈ a, mayR e.1 = true ∧ vsizes e.1 ≤ 1000) (hmb : ∀ e ∈ b, mayR e.1 = true ∧ vsizes e.1 ≤ 1000)
 (k : ∀ r D, H.le D → EnL D r (noneE on a b) → K r D) : c_delta_none C sa sb sn K H :=
 none_okX hF ha hA hb hp hA hn hnb hon hma hmb fun r ys D h => k r D h.own.le (SlIs.le (Heap.le.refl D) (h.sl (Nat.le_trans (List.length_filter_le ..) (by omega))) fun _ _ _ h2 => h2.le (hA.trans h.own.le))
theorem pair_len {on : List Pr} {a b : List En} : (pairE on a b).length ≤ a.length * b.length := by
 induction a with
 | nil => simp [pairE]
 | cons x a ih =>
  unfold pairE at ih ⊢
  rw [List.flatMap_cons, List.length_append, List.length_map, List.length_cons, Nat.add_mul]
  have := List.length_filter_le (fun y : En => fitB on x.1 y.1) b
  omega
theorem pair_snoc {on : List Pr} {a b : List En} {x : En} : pairE on (a ++ [x]) b = pairE on a b ++ (b.filter fun y => fitB on x.1 y.1).map fun y => (x.1 ++ y.1, x.2 * y.2) := by
 unfold pairE; rw [List.flatMap_append]; simp
theorem mul_rng {a b : Int} (ha : -2147483647 ≤ a ∧ a ≤ 2147483647) (hb : -2147483647 ≤ b ∧ b ≤ 2147483647) : -4611686018427387904 ≤ a * b ∧ a * b ≤ 4611686018427387904 := by
 have key : ∀ x y : Int, 0 ≤ x → x ≤ 2147483647 → 0 ≤ y → y ≤ 2147483647 → 0 ≤ x * y ∧ x * y ≤ 4611686018427387904 := fun x y h1 h2 h3 h4 => by
  have := Int.mul_le_mul h2 h4 h3 (by omega)
  exact ⟨Int.mul_nonneg h1 h3, by omega⟩
 rcases Int.lt_or_le a 0 with h1 | h1 <;> rcases Int.lt_or_le b 0 with h2 | h2
 ·have := key (-a) (-b) (by omega) (by omega) (by omega) (by omega); rw [Int.neg_mul_neg] at this; omega
 ·have := key (-a) b (by omega) (by omega) (by omega) (by omega); rw [Int.neg_mul] at this; omega
 ·have := key a (-b) (by omega) (by omega) (by omega) (by omega); rw [Int.mul_neg] at this; omega
 ·have := key a b (by omega) (by omega) (by omega) (by omega); omega
theorem pair_ok (hF : FmtC C) {on : List Pr} {sa sb sn : Sl} {a b : List En} {K : Sl → Heap → Prop} (ha : EnC A sa a) (hb : EnL A sb b) (hp : PrL A sn on) (hA : A.le H) (hn : a.length ≤ 1000) (hnb : b.length ≤ 1000) (hon : on.length ≤ 1000)
 (hma : ∀ e ∈ a, mayR e.1 = true ∧ vsizes e.1 ≤ 1000) (hmb : ∀ e ∈ b, mayR e.1 = true ∧ vsizes e.1 ≤ 1000) (hNa : ∀ e ∈ a, -2147483647 ≤ e.2 ∧ e.2 ≤ 2147483647) (hNb : ∀ e ∈ b, -2147483647 ≤ e.2 ∧ e.2 ≤ 2147483647)
 (k : ∀ r D, H.le D → EnL D r (pairE on a b) → K r D) : c_delta_pair C sa sb sn K H := by
 apply ad_delta_pair
 unfold sh_delta_pair
 refine sides_ok hp hA hon fun x y D hD hx hy => ?_
 intro b4 n4 b6 n6
 have ne : b6 ≠ b4 := fun e => by rw [e, Heap.put_same] at n6; cases n6
 have n6' : D b6 = none := by rw [Heap.put_ne _ _ _ ne] at n6; exact n6
 have st4 : ∀ {K : Heap → Prop}, K (((D.put b4 (.row (T_delta_side.c x))).put b6 (.row (T_delta_side.c T_delta_side.zero)))) → stT (b4, 0) (T_delta_side.c x) K ((D.put b4 (.row (T_delta_side.c T_delta_side.zero))).put b6 (.row (T_delta_side.c T_delta_side.zero))) := fun h => by
  refine ⟨T_delta_side.c T_delta_side.zero, by rw [Heap.put_ne _ _ _ ne.symm, Heap.put_same], by simp [T_delta_side.c], ?_⟩
  have e : splice (T_delta_side.c T_delta_side.zero) (b4, 0).2 (T_delta_side.c x) = T_delta_side.c x := rfl
  rw [e, Heap.put_comm _ _ _ _ _ ne, Heap.put_put]
  exact h
 refine st4 (nwT rfl ?_)
 have lD : D.le ((D.put b4 (.row (T_delta_side.c x))).put b6 (.row (T_delta_side.c y))) := (Heap.le_put n4).trans (Heap.le_put (by rw [Heap.put_ne _ _ _ ne]; exact n6'))
 have c4 : ((D.put b4 (.row (T_delta_side.c x))).put b6 (.row (T_delta_side.c y))) b4 = some (true, .row (T_delta_side.c x)) := by rw [Heap.put_ne _ _ _ ne.symm, Heap.put_same]
 have c6 : ((D.put b4 (.row (T_delta_side.c x))).put b6 (.row (T_delta_side.c y))) b6 = some (true, .row (T_delta_side.c y)) := Heap.put_same ..
 generalize (D.put b4 (.row (T_delta_side.c x))).put b6 (.row (T_delta_side.c y)) = D2 at *
 have hAD := (hA.trans hD).trans lD
 refine bxT (c := T_delta_side.c) c6 ?_
 refine by_ok hF (hy.le lD) (hb.le hAD) (Heap.le.refl _) (by omega) hmb (by simp; omega) fun q E hE hI => ?_
 have hAE := hAD.trans hE
 have c4 := hE _ _ c4
 have hHE := (hD.trans lD).trans hE
 have hx := hx.le (lD.trans hE)
 refine ⟨fun z F => ∃ (i : Nat) (ys : List T_zset_Entry), z.2 = (i : Int) ∧ i ≤ a.length ∧ EnW E F (pairE on (a.take i) b) z.1 ys, fun z _ => a.length - z.2.toNat, ⟨0, [], rfl, Nat.zero_le _, EnW.nil⟩, ?_⟩
 rintro ⟨r, _⟩ F ⟨i, ys, rfl, hi, hg⟩
 have hEF := hg.own.le
 have hEo := Heap.le_off hg.own.le hg.own.fresh
 have hmul : ∀ n, n ≤ 1000 → n * b.length ≤ 1000000 := fun n hn2 => by
  have := Nat.mul_le_mul hn2 hnb; omega
 have hlen : (pairE on (a.take i) b).length ≤ i * b.length := by have := pair_len (on := on) (a := a.take i) (b := b); rw [List.length_take, Nat.min_eq_left hi] at this; exact this
 have hmi := hmul (i + 1)
 rw [ha.len]
 refine ift.of (fun hc => ?_) (fun hc => ?_)
 ·have hlt : i < a.length := by have := of_decide_eq_true hc; dsimp only at this; omega
  have hmem := List.getElem_mem hlt
  have hmi := hmi (by omega)
  rw [Nat.add_mul] at hmi
  have hsn : pairE on (a.take (i + 1)) b = pairE on (a.take i) b ++ (b.filter fun y => fitB on a[i].1 y.1).map fun y => (a[i].1 ++ y.1, a[i].2 * y.2) := by
   rw [takeS hlt, pair_snoc]
  refine ⟨fun z F2 => ∃ ys2 : List T_zset_Entry, EnW E F2 (pairE on (a.take (i + 1)) b) z ys2, ?_, ?_⟩
  ·refine SlIs.ld ha (hAE.trans hEF) (z := 2) (fun _ => rfl) (by omega) rfl hlt fun y2 hy2 => ?_
   intro b29 n29
   refine nwT rfl ?_
   have lb := Heap.le_put n29 (g := .row (T_zset_Entry.c y2)) (m := true)
   have cb : (F.put b29 (.row (T_zset_Entry.c y2))) b29 = some (true, .row (T_zset_Entry.c y2)) := Heap.put_same ..
   have c4 := lb _ _ (hEF _ _ c4)
   have rb : ∀ p, r.p = some p → p.1 ≠ b29 := fun p hp => by obtain ⟨g, hg2⟩ := hg.own.own.mine hp; exact ne_of_none n29 hg2
   have hgb := hg.up lb
   have hEF := hEF.trans lb
   have hEo2 := hEo.trans (off_up lb)
   generalize F.put b29 (.row (T_zset_Entry.c y2)) = F1 at *
   refine bxT (c := T_delta_side.c) c4 (fL cb (t := y2.Row) rfl ?_)
   refine key_ok hF (hx.le hEF) (hy2.1.1.le (hAE.trans hEF)) (Heap.le.refl _) hy2.1.2.1 (hma _ hmem).1 (hma _ hmem).2 (by simp; omega) (fun key hk H2 l2 => ?_) (fun hk H2 l2 => ?_)
   rotate_left
   ·refine ift_pos rfl ⟨ys, ?_⟩
    have : (b.filter fun y => fitB on a[i].1 y.1) = [] := List.filter_eq_nil_iff.2 fun y _ h => by rw [fit_none hk] at h; cases h
    rw [hsn, this]
    simp only [List.map_nil, List.append_nil]
    exact hgb.up l2
   have hfit : (b.filter fun y => fitB on a[i].1 y.1) = byK (on.map fun p => p.2) key b := by
    unfold byK
    exact List.filter_congr fun y hy => fit_key (hma _ hmem).1 (hmb y hy).1 hk
   refine ift_neg rfl ?_
   refine hI.lk (hEF.trans l2) fun s3 b3 h3 => ?_
   -- the inner loop
   have hg2 := (hgb.up l2).base
   have hG : E.le (H2.off r) := hEo2.trans (off_up l2)
   have hHE2 := (hgb.up l2).own.le
   have hGown := (hgb.up l2).down (Heap.le.refl E)
   have cG : (H2.off r) b29 = some (true, .row (T_zset_Entry.c y2)) := Heap.off_some (l2 _ _ cb) rb
   rw [hfit] at hsn
   have hbl : (byK (on.map fun p => p.2) key b).length ≤ b.length := List.length_filter_le ..
   refine ⟨fun z D3 => ∃ (j : Nat) (zs : List T_zset_Entry), z.2 = (j : Int) ∧ j ≤ (byK (on.map fun p => p.2) key b).length ∧ EnW (H2.off r) D3 (pairE on (a.take i) b ++ ((byK (on.map fun p => p.2) key b).take j).map fun y => (a[i].1 ++ y.1, a[i].2 * y.2)) z.1 zs, fun z _ => (byK (on.map fun p => p.2) key b).length - z.2.toNat, ⟨0, ys, rfl, Nat.zero_le _, by simpa using hg2⟩, ?_⟩
   rintro ⟨r3, _⟩ D3 ⟨j, zs, rfl, hj, hg3⟩
   rw [h3.len]
   have hlenP : ((pairE on (a.take i) b) ++ ((byK (on.map fun p => p.2) key b).take j).map fun y => (a[i].1 ++ y.1, a[i].2 * y.2)).length ≤ 1000000 := by
    rw [List.length_append, List.length_map, List.length_take]; omega
   refine ift.of (fun hc => ?_) (fun hc => ?_)
   ·have hjl : j < (byK (on.map fun p => p.2) key b).length := by have := of_decide_eq_true hc; dsimp only at this; omega
    have hmj : (byK (on.map fun p => p.2) key b)[j] ∈ b := (List.mem_filter.1 (List.getElem_mem hjl)).1
    refine SlIs.ld (h3.le hG) hg3.own.le (z := 2) (fun _ => rfl) (by omega) rfl hjl fun z hz => ?_
    intro b54 n54
    refine nwT rfl ?_
    have lb4 := Heap.le_put n54 (g := .row (T_zset_Entry.c z)) (m := true)
    have c54 : (D3.put b54 (.row (T_zset_Entry.c z))) b54 = some (true, .row (T_zset_Entry.c z)) := Heap.put_same ..
    have c29 := lb4 _ _ (hg3.own.le _ _ cG)
    have hg4 := hg3.up lb4
    have hGo : (H2.off r).le ((D3.put b54 (.row (T_zset_Entry.c z))).off r3) := (Heap.le_off hg3.own.le hg3.own.fresh).trans (off_up lb4)
    generalize D3.put b54 (.row (T_zset_Entry.c z)) = D4 at *
    have hAG := hAE.trans (hG.trans hGo)
    have v1 := hy2.1.1.le hAG
    have v2 := hz.1.le hGo
    have sl1 := vsizes_len a[i].1
    have sl2 := vsizes_len (byK (on.map fun p => p.2) key b)[j].1
    have ma := (hma _ hmem).2
    have mb := (hmb _ hmj).2
    have mr := mul_rng (hNa _ hmem) (hNb _ hmj)
    have yN := hy2.1.2.2.2.1
    have zN := hz.2.2.2.1
    refine ⟨D4, Heap.le.refl _, fL c29 (t := y2.Row) rfl (fL c29 (t := y2.Row) rfl (fL c29 (t := y2.Row) rfl ?_))⟩
    have fin : ∀ {D5 : Heap} {rr : Sl}, D4.le D5 → VRow (D5.off r3) rr (a[i].1 ++ (byK (on.map fun p => p.2) key b)[j].1) → D4.le D5 ∧ ldI D5 .i64 ((b29, 0).1, (b29, 0).2 + 1) fun x76 => ldI D5 .i64 ((b54, 0).1, (b54, 0).2 + 1) fun x78 =>
     apd (T_zset_Entry.c T_zset_Entry.zero) 32 r3 ((T_zset_Entry.c (⟨rr, (w .i64 (x76 * x78))⟩ : T_zset_Entry)) ++ []) 1 (fun r80 H81 => (∃ (j' : Nat) (zs : List T_zset_Entry), ((r80, (w .i64 ((j : Int) + 1))) : Sl × Int).2 = (j' : Int) ∧ j' ≤ (byK (on.map fun p => p.2) key b).length ∧ EnW (H2.off r) H81 (pairE on (a.take i) b ++ ((byK (on.map fun p => p.2) key b).take j').map fun y => (a[i].1 ++ y.1, a[i].2 * y.2)) ((r80, (w .i64 ((j : Int) + 1))) : Sl × Int).1 zs) ∧ (byK (on.map fun p => p.2) key b).length - ((r80, (w .i64 ((j : Int) + 1))) : Sl × Int).2.toNat < (byK (on.map fun p => p.2) key b).length - (((r3, (j : Int)) : Sl × Int).2).toNat) D5 := fun {D5 rr} l5 hv => by
     refine ⟨l5, fI (l5 _ _ c29) (t := y2.N) rfl (fI (l5 _ _ c54) (t := z.N) rfl ?_)⟩
     refine hg4.step (e := (a[i].1 ++ (byK (on.map fun p => p.2) key b)[j].1, a[i].2 * (byK (on.map fun p => p.2) key b)[j].2)) l5 ⟨hv, vbs_append hy2.1.2.1 hz.2.1, by rw [List.length_append]; omega, ?_, by dsimp only; omega, by dsimp only; omega⟩ hlenP fun r5 B5 h5 => ?_
     ·show w .i64 (y2.N * z.N) = _
      rw [yN, zN, w_i64 (by omega) (by omega)]
     ·rw [w_i64 (by omega) (by omega)]
      refine ⟨⟨j + 1, zs ++ [(⟨rr, w .i64 (y2.N * z.N)⟩ : T_zset_Entry)], by dsimp only; omega, by omega, ?_⟩, by first | omega | (dsimp only; omega)⟩
      rw [takeS hjl, List.map_append, ← List.append_assoc]
      exact h5
    have hcat := cat_ok (G := D4.off r3) (D := D4) (s := y2.Row) (t := z.Row) (K := fun r74 H75 => D4.le H75 ∧ ldI H75 .i64 ((b29, 0).1, (b29, 0).2 + 1) fun x76 => ldI H75 .i64 ((b54, 0).1, (b54, 0).2 + 1) fun x78 =>
     apd (T_zset_Entry.c T_zset_Entry.zero) 32 r3 ((T_zset_Entry.c (⟨r74, (w .i64 (x76 * x78))⟩ : T_zset_Entry)) ++ []) 1 (fun r80 H81 => (∃ (j' : Nat) (zs : List T_zset_Entry), ((r80, (w .i64 ((j : Int) + 1))) : Sl × Int).2 = (j' : Int) ∧ j' ≤ (byK (on.map fun p => p.2) key b).length ∧ EnW (H2.off r) H81 (pairE on (a.take i) b ++ ((byK (on.map fun p => p.2) key b).take j').map fun y => (a[i].1 ++ y.1, a[i].2 * y.2)) ((r80, (w .i64 ((j : Int) + 1))) : Sl × Int).1 zs) ∧ (byK (on.map fun p => p.2) key b).length - ((r80, (w .i64 ((j : Int) + 1))) : Sl × Int).2.toNat < (byK (on.map fun p => p.2) key b).length - (((r3, (j : Int)) : Sl × Int).2).toNat) H75)
     v1 v2 hy2.2 (Heap.off_le _ _) (by omega) (fun hm rr hv => fin (Heap.le.refl _) (by rw [hm, List.append_nil]; exact hv)) fun b5 g5 rr nb5 hv => fin (Heap.le_put nb5) (by
      rw [off_put_ne fun p hp => by obtain ⟨g, hgp⟩ := hg4.own.own.mine hp; exact ne_of_none nb5 hgp]
      exact hv)
    obtain ⟨q1, q2, q3, q4, t65, q5, q6⟩ := hcat
    exact ⟨q1, q2, q3, q4, t65, q5, fL c54 (t := z.Row) rfl q6⟩
   ·have hje : j = (byK (on.map fun p => p.2) key b).length := by have := of_decide_eq_false hc; dsimp only at this; omega
    subst hje
    rw [List.take_length] at hg3
    exact ⟨zs, by rw [hsn]; exact hg3.down hG⟩
  ·rintro z F2 ⟨ys2, h2⟩
   rw [w_i64 (by dsimp only; omega) (by dsimp only; omega)]
   exact ⟨⟨i + 1, ys2, by dsimp only; omega, by omega, h2⟩, by first | omega | (dsimp only; omega)⟩
 ·have hie : i = a.length := by have := of_decide_eq_false hc; dsimp only at this; omega
  subst hie
  rw [List.take_length] at hg hlen
  have := hmul _ hn
  exact k r F (hHE.trans hEF) (hg.en (by omega))
end
end Sx
end

noncomputable section
set_option linter.unusedVariables false
set_option linter.unusedSimpArgs false
set_option maxRecDepth 10000
namespace Sx
open Go Go.Proofs
open Classical in
noncomputable def sumOf (l : List En) : List En := if h : ∃ o, IsSum l o then choose h else []
/-- the error of entries -/
noncomputable def errE (l : List En) : Int := if chkE l ≠ 0 then chkE l else if (sumOf l).any (fun o => outE o.2) then 80 else 0
/-- the entries, clean -/
noncomputable def clnE (l : List En) : List En := if errE l = 0 then nzE (sumOf l) else []
theorem sumOf_is {l : List En} (h : chkE l = 0) : IsSum l (sumOf l) := by
 have hx := sum_ex _ l rfl (chk_may h).1
 unfold sumOf
 rw [dif_pos hx]
 exact Classical.choose_spec hx
theorem chk_nn {l : List En} (h : chkE l ≠ 0) : errE l = chkE l ∧ clnE l = [] := by
 have e : errE l = chkE l := by unfold errE; rw [if_pos h]
 exact ⟨e, by unfold clnE; rw [if_neg (by rw [e]; exact h)]⟩
theorem ResP.fn {l : List En} {e : Int} {out : List En} (h : ResP l e out) : e = errE l ∧ out = clnE l := by
 by_cases c : chkE l = 0
 ·have hs := sumOf_is c
  cases hb : (sumOf l).any fun o => outE o.2 with
  | true =>
   have e1 : errE l = 80 := by unfold errE; rw [if_neg (by simpa using c), hb]; rfl
   obtain ⟨q1, q2⟩ := h.over c _ hs hb
   exact ⟨by rw [q1, e1], by rw [q2]; unfold clnE; rw [if_neg (by rw [e1]; decide)]⟩
  | false =>
   have e1 : errE l = 0 := by unfold errE; rw [if_neg (by simpa using c), hb]; rfl
   obtain ⟨q1, q2⟩ := h.ok c _ hs hb
   exact ⟨by rw [q1, e1], by rw [q2]; unfold clnE; rw [if_pos e1]⟩
 ·obtain ⟨q1, q2⟩ := h.err c
  obtain ⟨e1, e2⟩ := chk_nn c
  exact ⟨by rw [q1, e1], by rw [q2, e2]⟩
theorem ResD.fn {l : List En} {e : Int} {out : List En} (h : ResD l e out) : e = errE l ∧ out = clnE l := by
 rcases h with ⟨c, q1, q2⟩ | ⟨c, o, ho, ⟨hb, q1, q2⟩ | ⟨hb, q1, q2⟩⟩
 ·obtain ⟨e1, e2⟩ := chk_nn c
  exact ⟨by rw [q1, e1], by rw [q2, e2]⟩
 ·have hs := sumOf_is c
  rw [ho.uniq hs] at hb
  have e1 : errE l = 80 := by unfold errE; rw [if_neg (by simpa using c), hb]; rfl
  exact ⟨by rw [q1, e1], by rw [q2]; unfold clnE; rw [if_neg (by rw [e1]; decide)]⟩
 ·have hs := sumOf_is c
  rw [ho.uniq hs] at hb q2
  have e1 : errE l = 0 := by unfold errE; rw [if_neg (by simpa using c), hb]; rfl
  exact ⟨by rw [q1, e1], by rw [q2]; unfold clnE; rw [if_pos e1]⟩
theorem err_iff {l : List En} : errE l = 0 ↔ OkS l := by
 constructor
 ·intro h
  have c : chkE l = 0 := Classical.byContradiction fun c => by rw [(chk_nn c).1] at h; exact c h
  obtain ⟨m1, m2⟩ := chk_may c
  have hs := sumOf_is c
  refine ⟨m1, m2, fun r => ?_⟩
  by_cases hr : ∃ e ∈ l, e.1 = r
  ·have hm := (hs.mem r (totE l r)).2 ⟨hr, rfl⟩
   cases hb : (sumOf l).any fun o => outE o.2 with
   | true => unfold errE at h; rw [if_neg (by simpa using c), hb] at h; cases h
   | false =>
    rw [List.any_eq_false] at hb
    simpa using hb _ hm
  ·rw [totE_none fun e he e' => hr ⟨e, he, e'⟩]; rfl
 ·intro h
  have c := chkE_ok h
  have hs := sumOf_is c
  unfold errE
  rw [if_neg (by simpa using c), if_neg]
  rw [List.any_eq_true]
  rintro ⟨x, hx, hb⟩
  obtain ⟨_, h2⟩ := (hs.mem x.1 x.2).1 hx
  rw [h2, h.tot] at hb; cases hb
theorem cln_sum {l : List En} (h : errE l = 0) : IsSum l (sumOf l) ∧ clnE l = nzE (sumOf l) := by
 refine ⟨sumOf_is (Classical.byContradiction fun c => by rw [(chk_nn c).1] at h; exact c h), ?_⟩
 unfold clnE; rw [if_pos h]
theorem cln_len (l : List En) : (clnE l).length ≤ l.length := by
 by_cases h : errE l = 0
 ·obtain ⟨h1, h2⟩ := cln_sum h; rw [h2]; exact nz_len h1
 ·unfold clnE; rw [if_neg h]; exact Nat.zero_le _
theorem cln_tot {l : List En} (h : errE l = 0) (r : List V) : totE (clnE l) r = totE l r := by
 obtain ⟨h1, h2⟩ := cln_sum h; rw [h2]; exact nz_tot h1 r
theorem cln_rise (l : List En) : (clnE l).Pairwise fun a b => cmpR a.1 b.1 < 0 := by
 by_cases h : errE l = 0
 ·obtain ⟨h1, h2⟩ := cln_sum h; rw [h2]; exact nz_rise h1
 ·unfold clnE; rw [if_neg h]; exact List.Pairwise.nil
theorem cln_mem {l : List En} {e : En} (h : e ∈ clnE l) : errE l = 0 ∧ (∃ x ∈ l, x.1 = e.1) ∧ e.2 = totE l e.1 ∧ e.2 ≠ 0 := by
 by_cases h0 : errE l = 0
 ·obtain ⟨h1, h2⟩ := cln_sum h0
  rw [h2] at h
  obtain ⟨q1, q2⟩ := nz_sub h1 h
  exact ⟨h0, q1, q2, ((nz_mem h1 e.1 e.2).1 h).2⟩
 ·unfold clnE at h; rw [if_neg h0] at h; simp at h
theorem cln_ok {l : List En} : ∀ e ∈ clnE l, mayR e.1 = true ∧ outE e.2 = false := fun e he => by
 obtain ⟨h0, ⟨x, hx, hr⟩, hn, _⟩ := cln_mem he
 have ho := err_iff.1 h0
 exact ⟨by rw [← hr]; exact ho.may x hx, by rw [hn]; exact ho.tot _⟩
theorem cln_okE {l : List En} (hb : ∀ e ∈ l, okE e) : ∀ e ∈ clnE l, okE e := fun e he => by
 obtain ⟨h0, ⟨x, hx, hr⟩, hn, _⟩ := cln_mem he
 have h1 := of_outE (cln_ok e he).2
 have h2 := hb x hx
 unfold okE at h2 ⊢
 rw [hr] at h2
 exact ⟨h2.1, h2.2.1, by omega, by omega⟩
theorem cln_size {l : List En} {m : Nat} (hb : ∀ e ∈ l, vsizes e.1 ≤ m) : ∀ e ∈ clnE l, vsizes e.1 ≤ m := fun e he => by
 obtain ⟨h0, ⟨x, hx, hr⟩, hn, _⟩ := cln_mem he
 rw [← hr]; exact hb x hx
theorem cln_eq {l m : List En} (hl : errE l = 0) (hm : errE m = 0) (h : ∀ r, totE l r = totE m r) : clnE l = clnE m := by
 obtain ⟨h1, h2⟩ := cln_sum hl
 obtain ⟨h3, h4⟩ := cln_sum hm
 rw [h2, h4]; exact nz_uniq h1 h3 h
/-- clean lists, rising, without 0: they stay -/
theorem cln_self {l : List En} (hp : l.Pairwise fun a b => cmpR a.1 b.1 < 0) (hm : ∀ e ∈ l, mayR e.1 = true ∧ outE e.2 = false) (h0 : ∀ e ∈ l, e.2 ≠ 0) : errE l = 0 ∧ clnE l = l := by
 have ht : ∀ e ∈ l, totE l e.1 = e.2 := fun e he => totE_at hp he
 have ho : OkS l := ⟨fun e he => (hm e he).1, fun e he => (hm e he).2, fun r => by
  by_cases hr : ∃ e ∈ l, e.1 = r
  ·obtain ⟨e, he, rfl⟩ := hr; rw [ht e he]; exact (hm e he).2
  ·rw [totE_none fun e he e' => hr ⟨e, he, e'⟩]; rfl⟩
 have he := err_iff.2 ho
 refine ⟨he, ?_⟩
 obtain ⟨h1, h2⟩ := cln_sum he
 rw [h2]
 refine rise_ext (nz_rise h1) hp fun x => ?_
 obtain ⟨r, n⟩ := x
 rw [nz_mem h1]
 constructor
 ·rintro ⟨rfl, hn⟩
  have : ∃ e ∈ l, e.1 = r := Classical.byContradiction fun hc => hn (totE_none fun e he e' => hc ⟨e, he, e'⟩)
  obtain ⟨e, he, rfl⟩ := this
  rw [ht e he]; exact he
 ·intro hx
  exact ⟨(ht _ hx).symm, h0 _ hx⟩
theorem cln_cln (l : List En) : errE (clnE l) = 0 ∧ clnE (clnE l) = clnE l := cln_self (cln_rise l) cln_ok fun e he => (cln_mem he).2.2.2
theorem cln_sub {l m : List En} (h : m.Sublist (clnE l)) : errE m = 0 ∧ clnE m = m := cln_self ((cln_rise l).sublist h) (fun e he => cln_ok e (h.subset he)) fun e he => (cln_mem (h.subset he)).2.2.2
section
variable {C : Ctx} {H A : Heap}
theorem pCleanF {a : Sl} {la : List En} {K : Sl → Int → Heap → Prop} (ha : EnL H a la) (hn : la.length ≤ 1000000) (hsz : ∀ x ∈ la, vsizes x.1 ≤ 1000000)
 (k : ∀ cs ys H0, OgE H H0 (clnE la) cs ys → K cs (errE la) H0) : c_zset_Clean C a K H := by
 refine pClean_ok ha hn hsz (sumsK_of (fun x hx => ?_) fun e out cs ys H0 h1 h2 => ?_)
 ·simp [seqS] at hx
  obtain ⟨r, n, h, rfl⟩ := hx
  exact (ha.oks _ h).2.2
 ·rw [esC] at h1
  obtain ⟨rfl, rfl⟩ := h1.fn
  exact k cs ys H0 h2
theorem pAddF {a b : Sl} {la lb : List En} {K : Sl → Int → Heap → Prop} (ha : EnL H a la) (hb : EnL H b lb) (hn : la.length + lb.length ≤ 1000000) (hsz : ∀ x ∈ la ++ lb, vsizes x.1 ≤ 1000000)
 (k : ∀ cs ys H0, OgE H H0 (clnE (la ++ lb)) cs ys → K cs (errE (la ++ lb)) H0) : c_zset_Add C a b K H := by
 refine pAdd_ok ha hb hn hsz (sumsK_of (fun x hx => ?_) fun e out cs ys H0 h1 h2 => ?_)
 ·simp [seqS] at hx
  rcases hx with ⟨r, n, h, rfl⟩ | ⟨r, n, h, rfl⟩
  ·exact (ha.oks _ h).2.2
  ·exact (hb.oks _ h).2.2
 ·rw [esA] at h1
  obtain ⟨rfl, rfl⟩ := h1.fn
  exact k cs ys H0 h2
theorem negE_eq {l : List En} (h : ∀ e ∈ l, -2147483647 ≤ e.2 ∧ e.2 ≤ 2147483647) : negE l = negL l := by
 unfold negE negL
 refine List.map_congr_left fun e he => ?_
 have := h e he
 show (e.1, w .i64 (0 - e.2)) = _
 rw [w_i64 (by omega) (by omega)]
 congr 1
 omega
theorem pLessF {a b : Sl} {la lb : List En} {K : Sl → Int → Heap → Prop} (ha : EnL H a la) (hb : EnL H b lb) (hn : la.length + lb.length ≤ 1000000) (hsz : ∀ x ∈ la ++ lb, vsizes x.1 ≤ 1000000) (hN : ∀ e ∈ lb, -2147483647 ≤ e.2 ∧ e.2 ≤ 2147483647)
 (k : ∀ cs ys H0, OgE H H0 (clnE (la ++ negL lb)) cs ys → K cs (errE (la ++ negL lb)) H0) : c_zset_Less C a b K H := by
 refine pLess_ok ha hb hn hsz (sumsK_of (fun x hx => ?_) fun e out cs ys H0 h1 h2 => ?_)
 ·simp [seqS] at hx
  rcases hx with ⟨r, n, h, rfl⟩ | ⟨r, n, h, rfl⟩
  ·exact (ha.oks _ h).2.2
  ·exact (hb.oks _ h).2.2
 ·rw [esL, negE_eq hN] at h1
  obtain ⟨rfl, rfl⟩ := h1.fn
  exact k cs ys H0 h2
theorem pDistF {a : Sl} {la : List En} {K : Sl → Int → Heap → Prop} (ha : EnL H a la) (hn : la.length ≤ 1000000) (hsz : ∀ x ∈ la, vsizes x.1 ≤ 1000000)
 (k : ∀ cs ys H0, OgE H H0 (posE (clnE la)) cs ys → K cs (errE la) H0) : c_zset_Distinct C a K H := by
 refine pDist_ok ha hn hsz fun e out cs ys H0 h1 _ h2 => ?_
 obtain ⟨rfl, rfl⟩ := h1.fn
 exact k cs ys H0 h2
theorem OgE.enN {H B : Heap} {es : List En} {s : Sl} {ys : List T_zset_Entry} (h : OgE H B es s ys) (hb : ∀ e ∈ es, okE e) (hn : es.length ≤ 140737488355328) : EnC (Heap.new H B) s es := by
 have hl := h.len
 obtain ⟨o1, o2, o3, o4⟩ := h.own.own
 have h1 := o1
 rw [ysE_len] at h1
 refine ⟨ys, ?_, by omega, hl.symm, hn, fun j e y he hy => ?_⟩
 ·rcases o4 with ⟨p0, c0⟩ | ⟨b, sp, hp, hbk, hc⟩
  ·left
   have : ys.length = 0 := by omega
   rw [List.length_eq_zero_iff.1 this]; rfl
  ·refine .inr ⟨o2, _, hp, rds_row (Heap.new_some hbk (h.own.fresh _ hp)) fun j v hj => ?_⟩
   rw [Nat.zero_add]
   exact (List.getElem?_append_left (List.getElem?_eq_some_iff.1 hj).1).trans hj
 ·obtain ⟨m1, m2⟩ := h.done j e y he hy
  have hok := hb e (List.mem_of_getElem? he)
  refine ⟨⟨m1.row.le fun x v hx => ?_, hok.1, hok.2.1, m2, hok.2.2⟩, m1.cp⟩
  obtain ⟨q1, q2⟩ := Heap.new_inv hx
  exact Heap.new_some (Heap.off_le _ _ _ _ q2) q1
end
end Sx
end

noncomputable section
set_option linter.unusedVariables false
set_option linter.unusedSimpArgs false
set_option maxRecDepth 10000
namespace Sx
open Go Go.Proofs
/-- entries within bounds -/
def Sz (m n : Nat) (l : List En) : Prop := l.length ≤ m ∧ ∀ e ∈ l, vsizes e.1 ≤ n
theorem Sz.cln {m n : Nat} {l : List En} (h : Sz m n l) : Sz m n (clnE l) := ⟨Nat.le_trans (cln_len l) h.1, cln_size h.2⟩
theorem Sz.app {m m2 n : Nat} {a b : List En} (h : Sz m n a) (h2 : Sz m2 n b) : Sz (m + m2) n (a ++ b) := ⟨by rw [List.length_append]; have := h.1; have := h2.1; omega, fun e he => by
 rcases List.mem_append.1 he with he | he
 ·exact h.2 e he
 ·exact h2.2 e he⟩
theorem Sz.up {m n m2 n2 : Nat} {l : List En} (h : Sz m n l) (hm : m ≤ m2) (hn : n ≤ n2) : Sz m2 n2 l := ⟨Nat.le_trans h.1 hm, fun e he => Nat.le_trans (h.2 e he) hn⟩
theorem Sz.sub {m n : Nat} {l l2 : List En} (h : Sz m n l) (hs : l2.Sublist l) : Sz m n l2 := ⟨Nat.le_trans hs.length_le h.1, fun e he => h.2 e (hs.subset he)⟩
theorem Sz.pos {m n : Nat} {l : List En} (h : Sz m n l) : Sz m n (posE l) := by
 have hk := h.sub (l2 := keepE l) (List.filter_sublist ..)
 refine ⟨by unfold posE; rw [List.length_map]; exact hk.1, fun e he => ?_⟩
 obtain ⟨x, hx, rfl⟩ := List.mem_map.1 he
 exact hk.2 x hx
theorem Sz.neg {m n : Nat} {l : List En} (h : Sz m n l) : Sz m n (negL l) := by
 refine ⟨by unfold negL; rw [List.length_map]; exact h.1, fun e he => ?_⟩
 obtain ⟨x, hx, rfl⟩ := List.mem_map.1 he
 exact h.2 x hx
theorem Sz.none {m n : Nat} {on : List Pr} {a b : List En} (h : Sz m n a) : Sz m n (noneE on a b) := h.sub (List.filter_sublist ..)
theorem vsizes_append : ∀ a b : List V, vsizes (a ++ b) = vsizes a + vsizes b
 | [], b => by simp [vsizes]
 | v :: a, b => by simp only [List.cons_append, vsizes, vsizes_append a b]; omega
theorem Sz.pair {m m2 n n2 : Nat} {on : List Pr} {a b : List En} (h : Sz m n a) (h2 : Sz m2 n2 b) : Sz (m * m2) (n + n2) (pairE on a b) := by
 refine ⟨Nat.le_trans pair_len (Nat.mul_le_mul h.1 h2.1), fun e he => ?_⟩
 obtain ⟨x, hx, y, hy, rfl⟩ := pair_mem he
 show vsizes (x.1 ++ y.1) ≤ _
 rw [vsizes_append]
 have := h.2 x hx; have := h2.2 y hy; omega
theorem cln_rng {l : List En} : ∀ e ∈ clnE l, -2147483647 ≤ e.2 ∧ e.2 ≤ 2147483647 := fun e he => of_outE (cln_ok e he).2
/-- the first error -/
noncomputable def partsE (a da b db : List En) : Int :=
 if errE a ≠ 0 then errE a else if errE da ≠ 0 then errE da else if errE b ≠ 0 then errE b else if errE db ≠ 0 then errE db else if errE (a ++ da) ≠ 0 then errE (a ++ da) else errE (b ++ db)
theorem parts_all {a da b db : List En} (h : partsE a da b db = 0) : errE a = 0 ∧ errE da = 0 ∧ errE b = 0 ∧ errE db = 0 ∧ errE (a ++ da) = 0 ∧ errE (b ++ db) = 0 := by
 unfold partsE at h
 by_cases h1 : errE a = 0 <;> by_cases h2 : errE da = 0 <;> by_cases h3 : errE b = 0 <;> by_cases h4 : errE db = 0 <;> by_cases h5 : errE (a ++ da) = 0 <;> simp_all
/-- two records of three lists each, and what is known beside them -/
structure PI (E D : Heap) (b1 b3 : Nat) (w1 a1 i1 w2 a2 i2 : Sl) : Prop where
 le : E.le D
 n1 : E b1 = none
 n3 : E b3 = none
 c1 : D b1 = some (true, .row [slv w1, slv a1, slv i1])
 c3 : D b3 = some (true, .row [slv w2, slv a2, slv i2])
def del2 (b1 b3 : Nat) (H : Heap) : Heap := fun x => if x = b1 ∨ x = b3 then none else H x
theorem PI.more {E D H30 : Heap} {b1 b3 : Nat} {w1 a1 i1 w2 a2 i2 : Sl} (h : PI E D b1 b3 w1 a1 i1 w2 a2 i2) (hle : D.le H30) : PI (del2 b1 b3 H30) H30 b1 b3 w1 a1 i1 w2 a2 i2 ∧ E.le (del2 b1 b3 H30) ∧ (Heap.new D H30).le (del2 b1 b3 H30) := by
 refine ⟨⟨fun x e hx => ?_, by unfold del2; rw [if_pos (.inl rfl)], by unfold del2; rw [if_pos (.inr rfl)], hle _ _ h.c1, hle _ _ h.c3⟩, fun x e hx => ?_, fun x e hx => ?_⟩
 ·unfold del2 at hx; split at hx
  ·cases hx
  ·exact hx
 ·unfold del2; rw [if_neg]
  ·exact hle _ _ (h.le _ _ hx)
  ·rintro (rfl | rfl)
   ·rw [h.n1] at hx; cases hx
   ·rw [h.n3] at hx; cases hx
 ·obtain ⟨q1, q2⟩ := Heap.new_inv hx
  unfold del2; rw [if_neg]
  ·exact q2
  ·rintro (rfl | rfl)
   ·rw [h.c1] at q1; cases q1
   ·rw [h.c3] at q1; cases q1
section
variable {C : Ctx} {H A : Heap}
theorem clean_at {E D : Heap} {b1 b3 : Nat} {w1 a1 i1 w2 a2 i2 : Sl} {s : Sl} {l : List En} {K : Sl → Int → Heap → Prop} (h : PI E D b1 b3 w1 a1 i1 w2 a2 i2) (hs : EnL E s l) (hz : Sz 1000 1000 l)
 (k : ∀ r E2 H30, E.le E2 → D.le H30 → PI E2 H30 b1 b3 w1 a1 i1 w2 a2 i2 → EnC E2 r (clnE l) → K r (errE l) H30) : c_zset_Clean C s K D := by
 have hl := hz.1
 refine pCleanF (hs.le h.le) (by omega) (fun x hx => by have := hz.2 x hx; omega) fun cs ys H30 g => ?_
 obtain ⟨q1, q2, q3⟩ := h.more g.own.le
 have := cln_len l
 exact k cs _ H30 q2 g.own.le q1 ((g.enN (cln_okE hs.oks) (by omega)).le q3)
theorem add_at {E D : Heap} {b1 b3 : Nat} {w1 a1 i1 w2 a2 i2 : Sl} {s t : Sl} {l m : List En} {K : Sl → Int → Heap → Prop} (h : PI E D b1 b3 w1 a1 i1 w2 a2 i2) (hs : EnL E s l) (ht : EnL E t m) (hz : Sz 1000 1000 l) (hz2 : Sz 1000 1000 m)
 (k : ∀ r E2 H30, E.le E2 → D.le H30 → PI E2 H30 b1 b3 w1 a1 i1 w2 a2 i2 → EnC E2 r (clnE (l ++ m)) → K r (errE (l ++ m)) H30) : c_zset_Add C s t K D := by
 have hl := hz.1
 have hl2 := hz2.1
 have hz3 := hz.app hz2
 refine pAddF (hs.le h.le) (ht.le h.le) (by omega) (fun x hx => by have := hz3.2 x hx; omega) fun cs ys H30 g => ?_
 obtain ⟨q1, q2, q3⟩ := h.more g.own.le
 have := cln_len (l ++ m)
 rw [List.length_append] at this
 exact k cs _ H30 q2 g.own.le q1 ((g.enN (cln_okE fun e he => by
  rcases List.mem_append.1 he with he | he
  ·exact hs.oks e he
  ·exact ht.oks e he) (by omega)).le q3)
theorem fP {b j : Nat} {m : Bool} {cs : List Value} {t : Option (Nat × Nat)} {K : Option (Nat × Nat) → Prop} (h : H b = some (m, .row cs)) (hj : cs[j]? = some (pv t)) (k : K t) : ldP H ((b, 0).1, (b, 0).2 + j) K := ⟨t, by rw [rd_row h, Nat.zero_add]; exact hj, k⟩
/-- what is told at the end -/
theorem tell3 {E D : Heap} {b1 b3 : Nat} {w1 a1 i1 w2 a2 i2 : Sl} {e : Int} {K : T_delta_part → T_delta_part → Int → Heap → Prop} (h : PI E D b1 b3 w1 a1 i1 w2 a2 i2) (k : K (⟨w1, a1, i1⟩ : T_delta_part) (⟨w2, a2, i2⟩ : T_delta_part) e D) :
 ldT D T_delta_part.c (b1, 0) fun x36 => ldT D T_delta_part.c (b3, 0) fun x38 => stT (b1, 0) (T_delta_part.c x36) (fun H40 => stT (b3, 0) (T_delta_part.c x38) (fun H41 => ldT H41 T_delta_part.c (b1, 0) fun x42 => ldT H41 T_delta_part.c (b3, 0) fun x44 => K x42 x44 e H41) H40) D :=
 bxT (c := T_delta_part.c) (x := (⟨w1, a1, i1⟩ : T_delta_part)) h.c1 (bxT (c := T_delta_part.c) (x := (⟨w2, a2, i2⟩ : T_delta_part)) h.c3 (stT_same h.c1 (stT_same h.c3 (bxT (c := T_delta_part.c) (x := (⟨w1, a1, i1⟩ : T_delta_part)) h.c1 (bxT (c := T_delta_part.c) (x := (⟨w2, a2, i2⟩ : T_delta_part)) h.c3 k)))))
theorem PI.set1 {E D : Heap} {b1 b3 : Nat} {w1 a1 i1 w2 a2 i2 : Sl} {w a i : Sl} (h : PI E D b1 b3 w1 a1 i1 w2 a2 i2) (hne : b3 ≠ b1) : PI E (D.put b1 (.row [slv w, slv a, slv i])) b1 b3 w a i w2 a2 i2 :=
 ⟨le_put_off h.le h.n1, h.n1, h.n3, Heap.put_same .., by rw [Heap.put_ne _ _ _ hne]; exact h.c3⟩
theorem PI.set3 {E D : Heap} {b1 b3 : Nat} {w1 a1 i1 w2 a2 i2 : Sl} {w a i : Sl} (h : PI E D b1 b3 w1 a1 i1 w2 a2 i2) (hne : b3 ≠ b1) : PI E (D.put b3 (.row [slv w, slv a, slv i])) b1 b3 w1 a1 i1 w a i :=
 ⟨le_put_off h.le h.n3, h.n1, h.n3, by rw [Heap.put_ne _ _ _ hne.symm]; exact h.c1, Heap.put_same ..⟩
abbrev TF := T_S_from_zset_Entry_to_zset_Entry
def tfs (sa sda sb sdb : Sl) (b1 b3 : Nat) : List TF := [⟨sa, some (b1, 0)⟩, ⟨sda, some (b1, 1)⟩, ⟨sb, some (b3, 0)⟩, ⟨sdb, some (b3, 1)⟩]
/-- how far the parts have come -/
structure PJ (H E : Heap) (b5 : Nat) (sa sda sb sdb : Sl) (b1 b3 : Nat) (a da b db : List En) (i : Nat) (w1 a1 w2 a2 : Sl) : Prop where
 le : H.le E
 arr : SlIs (fun v x => x = v) T_S_from_zset_Entry_to_zset_Entry.c E (Sl.of (some (b5, 0)) 4 4) (tfs sa sda sb sdb b1 b3)
 e0 : 0 < i → errE a = 0 ∧ EnC E w1 (clnE a)
 e1 : 1 < i → errE da = 0 ∧ EnC E a1 (clnE da)
 e2 : 2 < i → errE b = 0 ∧ EnC E w2 (clnE b)
 e3 : 3 < i → errE db = 0 ∧ EnC E a2 (clnE db)
theorem PJ.up {H E E2 : Heap} {b5 : Nat} {sa sda sb sdb : Sl} {b1 b3 : Nat} {a da b db : List En} {i : Nat} {w1 a1 w2 a2 : Sl} (h : PJ H E b5 sa sda sb sdb b1 b3 a da b db i w1 a1 w2 a2) (hle : E.le E2) : PJ H E2 b5 sa sda sb sdb b1 b3 a da b db i w1 a1 w2 a2 :=
 ⟨h.le.trans hle, SlIs.le hle h.arr fun _ _ _ h => h, fun hi => ⟨(h.e0 hi).1, (h.e0 hi).2.le hle⟩, fun hi => ⟨(h.e1 hi).1, (h.e1 hi).2.le hle⟩, fun hi => ⟨(h.e2 hi).1, (h.e2 hi).2.le hle⟩, fun hi => ⟨(h.e3 hi).1, (h.e3 hi).2.le hle⟩⟩
theorem ne0 {e : Int} (h : (e != 0) = true) : e ≠ 0 := by simpa using h
theorem eq0 {e : Int} (h : (e != 0) = false) : e = 0 := by simpa using h
theorem parts_ok {sa sda sb sdb : Sl} {a da b db : List En} {K : T_delta_part → T_delta_part → Int → Heap → Prop} (ha : EnL A sa a) (hda : EnL A sda da) (hb : EnL A sb b) (hdb : EnL A sdb db) (hA : A.le H)
 (za : Sz 1000 1000 a) (zda : Sz 1000 1000 da) (zb : Sz 1000 1000 b) (zdb : Sz 1000 1000 db)
 (k : ∀ (x y : T_delta_part) D, H.le D → (partsE a da b db = 0 → EnC D x.was_ (clnE a) ∧ EnC D x.add_ (clnE da) ∧ EnC D x.is_ (clnE (a ++ da)) ∧ EnC D y.was_ (clnE b) ∧ EnC D y.add_ (clnE db) ∧ EnC D y.is_ (clnE (b ++ db))) → K x y (partsE a da b db) D) :
 c_delta_parts C sa sda sb sdb K H := by
 apply ad_delta_parts
 unfold sh_delta_parts
 intro b1 n1 b3 n3
 have ne : b3 ≠ b1 := fun e => by rw [e, Heap.put_same] at n3; cases n3
 have n3' : H b3 = none := by rw [Heap.put_ne _ _ _ ne] at n3; exact n3
 have l1 := Heap.le_put n1 (g := .row (T_delta_part.c T_delta_part.zero)) (m := true)
 have l3 := Heap.le_put n3 (g := .row (T_delta_part.c T_delta_part.zero)) (m := true)
 have c1 : ((H.put b1 (.row (T_delta_part.c T_delta_part.zero))).put b3 (.row (T_delta_part.c T_delta_part.zero))) b1 = some (true, .row [slv Sl.nil, slv Sl.nil, slv Sl.nil]) := by rw [Heap.put_ne _ _ _ ne.symm, Heap.put_same]; rfl
 have c3 : ((H.put b1 (.row (T_delta_part.c T_delta_part.zero))).put b3 (.row (T_delta_part.c T_delta_part.zero))) b3 = some (true, .row [slv Sl.nil, slv Sl.nil, slv Sl.nil]) := by rw [Heap.put_same]; rfl
 have hP0 : PI H ((H.put b1 (.row (T_delta_part.c T_delta_part.zero))).put b3 (.row (T_delta_part.c T_delta_part.zero))) b1 b3 Sl.nil Sl.nil Sl.nil Sl.nil Sl.nil Sl.nil := ⟨l1.trans l3, n1, n3', c1, c3⟩
 generalize (H.put b1 (.row (T_delta_part.c T_delta_part.zero))).put b3 (.row (T_delta_part.c T_delta_part.zero)) = H4 at *
 intro b5 n5
 have hH5 := hP0.le.none n5
 have q1 := ne_of_none n5 c1
 have q3 := ne_of_none n5 c3
 have key : ∀ cs : List Value, cs = (tfs sa sda sb sdb b1 b3).flatMap T_S_from_zset_Entry_to_zset_Entry.c → PI (H.put b5 (.row cs)) (H4.put b5 (.row cs)) b1 b3 Sl.nil Sl.nil Sl.nil Sl.nil Sl.nil Sl.nil ∧ PJ H (H.put b5 (.row cs)) b5 sa sda sb sdb b1 b3 a da b db 0 Sl.nil Sl.nil Sl.nil Sl.nil := fun cs hcs => by
  subst hcs
  refine ⟨⟨fun x e hx => ?_, by rw [Heap.put_ne _ _ _ q1]; exact n1, by rw [Heap.put_ne _ _ _ q3]; exact n3', by rw [Heap.put_ne _ _ _ q1]; exact c1, by rw [Heap.put_ne _ _ _ q3]; exact c3⟩, ⟨Heap.le_put hH5, ?_, fun h => by omega, fun h => by omega, fun h => by omega, fun h => by omega⟩⟩
  ·by_cases hx5 : x = b5
   ·subst hx5; rw [Heap.put_same] at hx ⊢; exact hx
   ·rw [Heap.put_ne _ _ _ hx5] at hx ⊢; exact hP0.le _ _ hx
  ·exact ⟨tfs sa sda sb sdb b1 b3, .inr ⟨rfl, _, rfl, rds_row (Heap.put_same ..) fun j v hj => by rw [Nat.zero_add]; exact hj⟩, rfl, rfl, by show 4 ≤ _; omega, fun i v x hv hx => by rw [hv] at hx; injection hx with hx; exact hx.symm⟩
 obtain ⟨hP, hJ⟩ := key _ (by rfl)
 refine ⟨fun x D => ∃ (i : Nat) (E : Heap) (w1 a1 w2 a2 : Sl), x = (i : Int) ∧ i ≤ 4 ∧ PI E D b1 b3 w1 a1 Sl.nil w2 a2 Sl.nil ∧ PJ H E b5 sa sda sb sdb b1 b3 a da b db i w1 a1 w2 a2, fun x _ => 4 - x.toNat, ⟨0, _, _, _, _, _, rfl, by omega, hP, hJ⟩, ?_⟩
 clear hP hJ key hP0
 rintro _ D ⟨i, E, w1, a1, w2, a2, rfl, hi, hP, hJ⟩
 have hAE := hA.trans hJ.le
 refine ift.of (fun hc => ?_) (fun hc => ?_)
 ·have hlt : i < 4 := by have : (i : Int) < 4 := of_decide_eq_true hc; omega
  refine SlIs.ld hJ.arr hP.le (z := 2) (fun _ => rfl) (by omega) rfl hlt fun x hx => ?_
  subst hx
  intro b18 n18
  refine nwT rfl ?_
  have lb := Heap.le_put n18 (g := .row (T_S_from_zset_Entry_to_zset_Entry.c (tfs sa sda sb sdb b1 b3)[i])) (m := true)
  have p1 := ne_of_none n18 hP.c1
  have p3 := ne_of_none n18 hP.c3
  have nE := hP.le.none n18
  have lE := Heap.le_put nE (g := .row (T_S_from_zset_Entry_to_zset_Entry.c (tfs sa sda sb sdb b1 b3)[i])) (m := true)
  have hP8 : PI (E.put b18 (.row (T_S_from_zset_Entry_to_zset_Entry.c (tfs sa sda sb sdb b1 b3)[i]))) (D.put b18 (.row (T_S_from_zset_Entry_to_zset_Entry.c (tfs sa sda sb sdb b1 b3)[i]))) b1 b3 w1 a1 Sl.nil w2 a2 Sl.nil := ⟨fun x e hx => by
   by_cases hx5 : x = b18
   ·subst hx5; rw [Heap.put_same] at hx ⊢; exact hx
   ·rw [Heap.put_ne _ _ _ hx5] at hx ⊢; exact hP.le _ _ hx, by rw [Heap.put_ne _ _ _ p1]; exact hP.n1, by rw [Heap.put_ne _ _ _ p3]; exact hP.n3, lb _ _ hP.c1, lb _ _ hP.c3⟩
  have c18 : (E.put b18 (.row (T_S_from_zset_Entry_to_zset_Entry.c (tfs sa sda sb sdb b1 b3)[i]))) b18 = some (true, .row (T_S_from_zset_Entry_to_zset_Entry.c (tfs sa sda sb sdb b1 b3)[i])) := Heap.put_same ..
  have hJ8 := hJ.up lE
  have hAE8 := hAE.trans lE
  show dr (D.put b18 (.row (T_S_from_zset_Entry_to_zset_Entry.c (tfs sa sda sb sdb b1 b3)[i]))) _
  generalize E.put b18 (.row (T_S_from_zset_Entry_to_zset_Entry.c (tfs sa sda sb sdb b1 b3)[i])) = E8 at *
  generalize D.put b18 (.row (T_S_from_zset_Entry_to_zset_Entry.c (tfs sa sda sb sdb b1 b3)[i])) = D8 at *
  have w : w .i64 ((i : Int) + 1) = ((i + 1 : Nat) : Int) := by rw [w_i64 (by omega) (by omega)]; omega
  rw [w]
  refine ⟨E8, hP8.le, ?_⟩
  rcases (by omega : i = 0 ∨ i = 1 ∨ i = 2 ∨ i = 3) with rfl | rfl | rfl | rfl
  ·refine fP c18 (t := some (b1, 0)) rfl (fL c18 (t := sa) rfl (clean_at hP8 (ha.le hAE8) za fun r E2 H30 l2 l30 hP2 hr => ⟨hP8.le.trans l30, _, rfl, _, hP2.c1, by show 0 < 3; omega, le_put_off (hP8.le.trans l30) hP8.n1, ?_⟩))
   have hP3 := hP2.set1 (w := r) (a := a1) (i := Sl.nil) ne
   refine ift.of (fun he => ?_) (fun he => ⟨⟨1, E2, r, a1, w2, a2, rfl, by omega, hP3, { (hJ8.up l2) with e0 := fun _ => ⟨eq0 he, hr⟩, e1 := fun h => by omega, e2 := fun h => by omega, e3 := fun h => by omega }⟩, by dsimp only; omega⟩)
   have hp : partsE a da b db = errE a := by unfold partsE; rw [if_pos (ne0 he)]
   have := k (⟨r, a1, Sl.nil⟩ : T_delta_part) (⟨w2, a2, Sl.nil⟩ : T_delta_part) _ ((hJ8.up l2).le.trans hP3.le) fun h0 => absurd (hp.symm.trans h0) (ne0 he)
   rw [hp] at this
   exact tell3 hP3 this
  ·refine fP c18 (t := some (b1, 1)) rfl (fL c18 (t := sda) rfl (clean_at hP8 (hda.le hAE8) zda fun r E2 H30 l2 l30 hP2 hr => ⟨hP8.le.trans l30, _, rfl, _, hP2.c1, by show 1 < 3; omega, le_put_off (hP8.le.trans l30) hP8.n1, ?_⟩))
   have hP3 := hP2.set1 (w := w1) (a := r) (i := Sl.nil) ne
   have hJ2 := hJ8.up l2
   refine ift.of (fun he => ?_) (fun he => ⟨⟨2, E2, w1, r, w2, a2, rfl, by omega, hP3, { hJ2 with e0 := fun _ => hJ2.e0 (by omega), e1 := fun _ => ⟨eq0 he, hr⟩, e2 := fun h => by omega, e3 := fun h => by omega }⟩, by dsimp only; omega⟩)
   have f0 := (hJ2.e0 (by omega)).1
   have hp : partsE a da b db = errE da := by unfold partsE; rw [if_neg (by simpa using f0), if_pos (ne0 he)]
   have := k (⟨w1, r, Sl.nil⟩ : T_delta_part) (⟨w2, a2, Sl.nil⟩ : T_delta_part) _ (hJ2.le.trans hP3.le) fun h0 => absurd (hp.symm.trans h0) (ne0 he)
   rw [hp] at this
   exact tell3 hP3 this
  ·refine fP c18 (t := some (b3, 0)) rfl (fL c18 (t := sb) rfl (clean_at hP8 (hb.le hAE8) zb fun r E2 H30 l2 l30 hP2 hr => ⟨hP8.le.trans l30, _, rfl, _, hP2.c3, by show 0 < 3; omega, le_put_off (hP8.le.trans l30) hP8.n3, ?_⟩))
   have hP3 := hP2.set3 (w := r) (a := a2) (i := Sl.nil) ne
   have hJ2 := hJ8.up l2
   refine ift.of (fun he => ?_) (fun he => ⟨⟨3, E2, w1, a1, r, a2, rfl, by omega, hP3, { hJ2 with e0 := fun _ => hJ2.e0 (by omega), e1 := fun _ => hJ2.e1 (by omega), e2 := fun _ => ⟨eq0 he, hr⟩, e3 := fun h => by omega }⟩, by dsimp only; omega⟩)
   have f0 := (hJ2.e0 (by omega)).1
   have f1 := (hJ2.e1 (by omega)).1
   have hp : partsE a da b db = errE b := by unfold partsE; rw [if_neg (by simpa using f0), if_neg (by simpa using f1), if_pos (ne0 he)]
   have := k (⟨w1, a1, Sl.nil⟩ : T_delta_part) (⟨r, a2, Sl.nil⟩ : T_delta_part) _ (hJ2.le.trans hP3.le) fun h0 => absurd (hp.symm.trans h0) (ne0 he)
   rw [hp] at this
   exact tell3 hP3 this
  ·refine fP c18 (t := some (b3, 1)) rfl (fL c18 (t := sdb) rfl (clean_at hP8 (hdb.le hAE8) zdb fun r E2 H30 l2 l30 hP2 hr => ⟨hP8.le.trans l30, _, rfl, _, hP2.c3, by show 1 < 3; omega, le_put_off (hP8.le.trans l30) hP8.n3, ?_⟩))
   have hP3 := hP2.set3 (w := w2) (a := r) (i := Sl.nil) ne
   have hJ2 := hJ8.up l2
   refine ift.of (fun he => ?_) (fun he => ⟨⟨4, E2, w1, a1, w2, r, rfl, by omega, hP3, { hJ2 with e0 := fun _ => hJ2.e0 (by omega), e1 := fun _ => hJ2.e1 (by omega), e2 := fun _ => hJ2.e2 (by omega), e3 := fun _ => ⟨eq0 he, hr⟩ }⟩, by dsimp only; omega⟩)
   have f0 := (hJ2.e0 (by omega)).1
   have f1 := (hJ2.e1 (by omega)).1
   have f2 := (hJ2.e2 (by omega)).1
   have hp : partsE a da b db = errE db := by unfold partsE; rw [if_neg (by simpa using f0), if_neg (by simpa using f1), if_neg (by simpa using f2), if_pos (ne0 he)]
   have := k (⟨w1, a1, Sl.nil⟩ : T_delta_part) (⟨w2, r, Sl.nil⟩ : T_delta_part) _ (hJ2.le.trans hP3.le) fun h0 => absurd (hp.symm.trans h0) (ne0 he)
   rw [hp] at this
   exact tell3 hP3 this
 ·have hie : i = 4 := by have : ¬ (i : Int) < 4 := of_decide_eq_false hc; omega
  subst hie
  obtain ⟨f0, h0⟩ := hJ.e0 (by omega)
  obtain ⟨f1, h1⟩ := hJ.e1 (by omega)
  obtain ⟨f2, h2⟩ := hJ.e2 (by omega)
  obtain ⟨f3, h3⟩ := hJ.e3 (by omega)
  refine add_at hP (ha.le hAE) (hda.le hAE) za zda fun r E2 H48 l2 l48 hP2 hr => ?_
  have hJ2 := hJ.up l2
  have hP3 := hP2.set1 (w := w1) (a := a1) (i := r) ne
  refine ⟨_, hP2.c1, by show 0 + 2 < 3; omega, ?_⟩
  have hp0 : ∀ X : Int, partsE a da b db = if errE (a ++ da) ≠ 0 then errE (a ++ da) else errE (b ++ db) := fun _ => by
   unfold partsE; rw [if_neg (by simpa using f0), if_neg (by simpa using f1), if_neg (by simpa using f2), if_neg (by simpa using f3)]
  refine ift.of (fun he => ?_) (fun he => ?_)
  ·have hp : partsE a da b db = errE (a ++ da) := by rw [hp0 0, if_pos (ne0 he)]
   have := k (⟨w1, a1, r⟩ : T_delta_part) (⟨w2, a2, Sl.nil⟩ : T_delta_part) _ (hJ2.le.trans hP3.le) fun h0 => absurd (hp.symm.trans h0) (ne0 he)
   rw [hp] at this
   exact tell3 hP3 this
  refine add_at hP3 (hb.le (hAE.trans l2)) (hdb.le (hAE.trans l2)) zb zdb fun r2 E3 H63 l3 l63 hP4 hr2 => ?_
  have hP5 := hP4.set3 (w := w2) (a := a2) (i := r2) ne
  refine ⟨_, hP4.c3, by show 0 + 2 < 3; omega, ?_⟩
  have hp : partsE a da b db = errE (b ++ db) := by rw [hp0 0, if_neg (by simpa using eq0 he)]
  have l5 := hP5.le
  have := k (⟨w1, a1, r⟩ : T_delta_part) (⟨w2, a2, r2⟩ : T_delta_part) _ ((hJ2.le.trans l3).trans l5) fun h0' => ⟨(h0.le (l2.trans l3)).le l5, (h1.le (l2.trans l3)).le l5, (hr.le l3).le l5, (h2.le (l2.trans l3)).le l5, (h3.le (l2.trans l3)).le l5, hr2.le l5⟩
  rw [hp] at this
  exact tell3 hP5 this
end
end Sx
end

noncomputable section
set_option linter.unusedVariables false
set_option linter.unusedSimpArgs false
set_option maxRecDepth 10000
namespace Sx
open Go Go.Proofs
noncomputable def joinP (on : List Pr) (a b : List En) : List En := pairE on (clnE a) (clnE b)
noncomputable def antiP (on : List Pr) (a b : List En) : List En := noneE on (clnE a) (posE (clnE b))
noncomputable def err2 (a b : List En) (e : Int) : Int := if errE a ≠ 0 then errE a else if errE b ≠ 0 then errE b else e
noncomputable def joinR (on : List Pr) (a b : List En) : Int := err2 a b (errE (joinP on a b))
noncomputable def joinL (on : List Pr) (a b : List En) : List En := if errE a ≠ 0 ∨ errE b ≠ 0 then [] else clnE (joinP on a b)
noncomputable def antiR (a b : List En) : Int := err2 a b 0
noncomputable def antiL (on : List Pr) (a b : List En) : List En := if errE a ≠ 0 ∨ errE b ≠ 0 then [] else antiP on a b
theorem anti_self (on : List Pr) (a b : List En) : errE (antiP on a b) = 0 ∧ clnE (antiP on a b) = antiP on a b := cln_sub (List.filter_sublist ..)
noncomputable def jcR (on : List Pr) (a da b db : List En) : Int :=
 if partsE a da b db ≠ 0 then partsE a da b db else if errE (joinP on a b) ≠ 0 then errE (joinP on a b) else if errE (joinP on (a ++ da) (b ++ db)) ≠ 0 then errE (joinP on (a ++ da) (b ++ db)) else
  errE (clnE (joinP on (a ++ da) (b ++ db)) ++ negL (clnE (joinP on a b)))
noncomputable def jcL (on : List Pr) (a da b db : List En) : List En :=
 if partsE a da b db ≠ 0 ∨ errE (joinP on a b) ≠ 0 ∨ errE (joinP on (a ++ da) (b ++ db)) ≠ 0 then [] else clnE (clnE (joinP on (a ++ da) (b ++ db)) ++ negL (clnE (joinP on a b)))
noncomputable def acW (on : List Pr) (a da b db : List En) : List En := antiP on (a ++ da) (b ++ db) ++ negL (antiP on a b)
noncomputable def acR (on : List Pr) (a da b db : List En) : Int := if partsE a da b db ≠ 0 then partsE a da b db else errE (acW on a da b db)
noncomputable def acL (on : List Pr) (a da b db : List En) : List En := if partsE a da b db ≠ 0 then [] else clnE (acW on a da b db)
/-- what is there and was not, and the other way about -/
noncomputable def chgE (a da : List En) : List En := (clnE da).flatMap fun y =>
 if decide (totE a y.1 + y.2 > 0) && !(decide (totE a y.1 > 0)) then [(y.1, 1)] else if decide (totE a y.1 > 0) && !(decide (totE a y.1 + y.2 > 0)) then [(y.1, -1)] else []
noncomputable def dcR (a da : List En) : Int := if partsE a da [] [] ≠ 0 then partsE a da [] [] else errE (chgE a da)
noncomputable def dcL (a da : List En) : List En := if partsE a da [] [] ≠ 0 then [] else clnE (chgE a da)
theorem sz_small {l : List En} (h : Sz 500 500 l) : ∀ x ∈ l, vsizes x.1 ≤ 1000000 := fun x hx => by have := h.2 x hx; omega
theorem okE_cln {A : Heap} {s : Sl} {l : List En} (h : EnL A s l) : ∀ e ∈ clnE l, okE e := cln_okE h.oks
theorem cln_ms {l : List En} (h : Sz 500 500 l) : ∀ e ∈ clnE l, mayR e.1 = true ∧ vsizes e.1 ≤ 1000 := fun e he => ⟨(cln_ok e he).1, by have := h.cln.2 e he; omega⟩
theorem pos_ms {l : List En} (h : Sz 500 500 l) : ∀ e ∈ posE (clnE l), mayR e.1 = true ∧ vsizes e.1 ≤ 1000 := fun e he => by
 refine ⟨?_, by have := h.cln.pos.2 e he; omega⟩
 obtain ⟨x, hx, rfl⟩ := List.mem_map.1 he
 exact (cln_ok x (List.mem_filter.1 hx).1).1
theorem pos_okE {l : List En} (h : ∀ e ∈ l, okE e) : ∀ e ∈ posE l, okE e := fun e he => by
 obtain ⟨x, hx, rfl⟩ := List.mem_map.1 he
 have := h x (List.mem_filter.1 hx).1
 exact ⟨this.1, this.2.1, by dsimp only; omega, by dsimp only; omega⟩
section
variable {C : Ctx} {H A : Heap}
theorem nil_og {D : Heap} (h : H.le D) : OgE H D [] Sl.nil [] := OgE.nil.up h
theorem nz2 {z z' cx cy : List Value} {K : Nat → Nat → Heap → Prop} (hx : cx.length = z.length) (hy : cy.length = z'.length)
 (k : ∀ b1 b2 E, H.le E → E b1 = some (true, .row cx) → E b2 = some (true, .row cy) → K b1 b2 E) :
 nw z (fun b1 H1 => nw z' (fun b2 H2 => stT (b1, 0) cx (fun H3 => stT (b2, 0) cy (fun H4 => K b1 b2 H4) H3) H2) H1) H := by
 intro b1 n1 b2 n2
 obtain ⟨_, h1⟩ := nw2 (D := H) (z := z) (z' := z') hx hy k b1 n1
 obtain ⟨_, c, h2, h3, h4⟩ := h1 b2 n2
 exact ⟨c, h2, h3, h4.2⟩
theorem Join_ok (hF : FmtC C) {on : List Pr} {sa sb sn : Sl} {a b : List En} {K : Sl → Int → Heap → Prop} (ha : EnL A sa a) (hb : EnL A sb b) (hp : PrL A sn on) (hA : A.le H) (za : Sz 500 500 a) (zb : Sz 500 500 b) (hon : on.length ≤ 1000)
 (k : ∀ r ys D, OgE H D (joinL on a b) r ys → K r (joinR on a b) D) : c_delta_Join C sa sb sn K H := by
 apply ad_delta_Join
 unfold sh_delta_Join
 have hza := za.1
 have hzb := zb.1
 refine pCleanF (ha.le hA) (by omega) (sz_small za) fun r1 y1 H3 g1 => ?_
 refine ift.of (fun he => ?_) (fun he => ?_)
 ·have := k Sl.nil [] H3 (by unfold joinL; rw [if_pos (.inl (ne0 he))]; exact nil_og g1.own.le)
  have e : joinR on a b = errE a := by unfold joinR err2; rw [if_pos (ne0 he)]
  rw [e] at this; exact this
 have h3 := g1.own.le
 refine pCleanF (hb.le (hA.trans h3)) (by omega) (sz_small zb) fun r5 y5 H7 g2 => ?_
 have h7 := h3.trans g2.own.le
 refine ift.of (fun he2 => ?_) (fun he2 => ?_)
 ·have := k Sl.nil [] H7 (by unfold joinL; rw [if_pos (.inr (ne0 he2))]; exact nil_og h7)
  have e : joinR on a b = errE b := by unfold joinR err2; rw [if_neg (by simpa using eq0 he), if_pos (ne0 he2)]
  rw [e] at this; exact this
 have l1 := cln_len a
 have l2 := cln_len b
 have hP := za.cln.pair (on := on) zb.cln
 refine pair_ok hF ((g1.enC (okE_cln ha) (by omega)).le g2.own.le) (g2.en (okE_cln hb) (by omega)) (hp.le (hA.trans h7)) (Heap.le.refl _) (by omega) (by omega) hon (cln_ms za) (cln_ms zb) cln_rng cln_rng fun r9 D h9 e9 => ?_
 refine pCleanF e9 (Nat.le_trans hP.1 (by omega)) (fun x hx => by have := hP.2 x hx; omega) fun r ys D2 g => ?_
 have := k r ys D2 (by unfold joinL; rw [if_neg (by rintro (h | h); exact h (eq0 he); exact h (eq0 he2))]; exact g.down (h7.trans h9))
 have e : joinR on a b = errE (joinP on a b) := by unfold joinR err2; rw [if_neg (by simpa using eq0 he), if_neg (by simpa using eq0 he2)]
 rw [e] at this; exact this
theorem Anti_ok (hF : FmtC C) {on : List Pr} {sa sb sn : Sl} {a b : List En} {K : Sl → Int → Heap → Prop} (ha : EnL A sa a) (hb : EnL A sb b) (hp : PrL A sn on) (hA : A.le H) (za : Sz 500 500 a) (zb : Sz 500 500 b) (hon : on.length ≤ 1000)
 (k : ∀ r ys D, OgE H D (antiL on a b) r ys → K r (antiR a b) D) : c_delta_Anti C sa sb sn K H := by
 apply ad_delta_Anti
 unfold sh_delta_Anti
 have hza := za.1
 have hzb := zb.1
 refine pCleanF (ha.le hA) (by omega) (sz_small za) fun r1 y1 H3 g1 => ?_
 refine ift.of (fun he => ?_) (fun he => ?_)
 ·have := k Sl.nil [] H3 (by unfold antiL; rw [if_pos (.inl (ne0 he))]; exact nil_og g1.own.le)
  have e : antiR a b = errE a := by unfold antiR err2; rw [if_pos (ne0 he)]
  rw [e] at this; exact this
 have h3 := g1.own.le
 refine pDistF (hb.le (hA.trans h3)) (by omega) (sz_small zb) fun r5 y5 H7 g2 => ?_
 have h7 := h3.trans g2.own.le
 refine ift.of (fun he2 => ?_) (fun he2 => ?_)
 ·have := k Sl.nil [] H7 (by unfold antiL; rw [if_pos (.inr (ne0 he2))]; exact nil_og h7)
  have e : antiR a b = errE b := by unfold antiR err2; rw [if_neg (by simpa using eq0 he), if_pos (ne0 he2)]
  rw [e] at this; exact this
 have l1 := cln_len a
 have l2 := zb.cln.pos.1
 refine none_ok hF ((g1.en (okE_cln ha) (by omega)).le g2.own.le) (g2.en (pos_okE (okE_cln hb)) (by omega)) (hp.le (hA.trans h7)) (Heap.le.refl _) (by omega) (by omega) hon (cln_ms za) (pos_ms zb) fun r9 D h9 e9 => ?_
 have zn := za.cln.none (on := on) (b := posE (clnE b))
 refine pCleanF e9 (by have := zn.1; omega) (fun x hx => by have := zn.2 x hx; omega) fun r ys D2 g => ?_
 obtain ⟨s1, s2⟩ := anti_self on a b
 have s1' : errE (noneE on (clnE a) (posE (clnE b))) = 0 := s1
 have s2' : clnE (noneE on (clnE a) (posE (clnE b))) = antiP on a b := s2
 rw [s2'] at g
 rw [s1']
 have := k r ys D2 (by unfold antiL; rw [if_neg (by rintro (h | h); exact h (eq0 he); exact h (eq0 he2))]; exact g.down (h7.trans h9))
 have e : antiR a b = 0 := by unfold antiR err2; rw [if_neg (by simpa using eq0 he), if_neg (by simpa using eq0 he2)]
 rw [e] at this; exact this
theorem JoinChange_ok (hF : FmtC C) {on : List Pr} {sa sda sb sdb sn : Sl} {a da b db : List En} {K : Sl → Int → Heap → Prop} (ha : EnL A sa a) (hda : EnL A sda da) (hb : EnL A sb b) (hdb : EnL A sdb db) (hp : PrL A sn on) (hA : A.le H)
 (za : Sz 250 250 a) (zda : Sz 250 250 da) (zb : Sz 250 250 b) (zdb : Sz 250 250 db) (hon : on.length ≤ 1000)
 (k : ∀ r ys D, OgE H D (jcL on a da b db) r ys → K r (jcR on a da b db) D) : c_delta_JoinChange C sa sda sb sdb sn K H := by
 apply ad_delta_JoinChange
 unfold sh_delta_JoinChange
 have u : ∀ {l : List En}, Sz 250 250 l → Sz 1000 1000 l := fun h => h.up (by omega) (by omega)
 refine parts_ok ha hda hb hdb hA (u za) (u zda) (u zb) (u zdb) fun x y D hD hxy => ?_
 refine nz2 rfl rfl fun b5 b7 E hE c5 c7 => ?_
 have hHE := hD.trans hE
 refine ift.of (fun he => ?_) (fun he => ?_)
 ·have := k Sl.nil [] E (by unfold jcL; rw [if_pos (.inl (ne0 he))]; exact nil_og hHE)
  have e : jcR on a da b db = partsE a da b db := by unfold jcR; rw [if_pos (ne0 he)]
  rw [e] at this; exact this
 have hp0 := eq0 he
 obtain ⟨x1, x2, x3, y1, y2, y3⟩ := hxy hp0
 have w1 : Sz 500 500 (clnE a) := za.cln.up (by omega) (by omega)
 have w2 : Sz 500 500 (clnE b) := zb.cln.up (by omega) (by omega)
 have i1 : Sz 500 500 (clnE (a ++ da)) := (za.app zda).cln.up (by omega) (by omega)
 have i2 : Sz 500 500 (clnE (b ++ db)) := (zb.app zdb).cln.up (by omega) (by omega)
 have ms : ∀ {l : List En}, Sz 500 500 (clnE l) → ∀ e ∈ clnE l, mayR e.1 = true ∧ vsizes e.1 ≤ 1000 := fun h e he => ⟨(cln_ok e he).1, by have := h.2 e he; omega⟩
 have zw : Sz 250000 1000 (joinP on a b) := (w1.pair (on := on) w2).up (by omega) (by omega)
 have zi : Sz 250000 1000 (joinP on (a ++ da) (b ++ db)) := (i1.pair (on := on) i2).up (by omega) (by omega)
 refine fL c5 (t := x.was_) rfl (fL c7 (t := y.was_) rfl ?_)
 refine pair_ok hF (x1.le hE) (y1.en.le hE) (hp.le (hA.trans hHE)) (Heap.le.refl _) (by have := w1.1; omega) (by have := w2.1; omega) hon (ms w1) (ms w2) cln_rng cln_rng fun r16 H17 l17 e16 => ?_
 refine pCleanF e16 (by have := zw.1; show (joinP on a b).length ≤ _; omega) (fun z hz => by have := zw.2 z hz; omega) fun r18 y18 H20 g18 => ?_
 have l20 := l17.trans g18.own.le
 refine ift.of (fun he2 => ?_) (fun he2 => ?_)
 ·have hn : errE (joinP on a b) ≠ 0 := ne0 he2
  have := k Sl.nil [] H20 (by unfold jcL; rw [if_pos (.inr (.inl hn))]; exact nil_og (hHE.trans l20))
  have e : jcR on a da b db = errE (joinP on a b) := by unfold jcR; rw [if_neg (by simpa using hp0), if_pos hn]
  rw [e] at this; exact this
 have hw0 : errE (joinP on a b) = 0 := eq0 he2
 refine fL (l20 _ _ c5) (t := x.is_) rfl (fL (l20 _ _ c7) (t := y.is_) rfl ?_)
 refine pair_ok hF ((x3.le hE).le l20) ((y3.en.le hE).le l20) (hp.le (hA.trans (hHE.trans l20))) (Heap.le.refl _) (by have := i1.1; omega) (by have := i2.1; omega) hon (ms i1) (ms i2) cln_rng cln_rng fun r26 H27 l27 e26 => ?_
 refine pCleanF e26 (by have := zi.1; show (joinP on (a ++ da) (b ++ db)).length ≤ _; omega) (fun z hz => by have := zi.2 z hz; omega) fun r28 y28 H30 g28 => ?_
 have l30 := l27.trans g28.own.le
 refine ift.of (fun he3 => ?_) (fun he3 => ?_)
 ·have hn : errE (joinP on (a ++ da) (b ++ db)) ≠ 0 := ne0 he3
  have := k Sl.nil [] H30 (by unfold jcL; rw [if_pos (.inr (.inr hn))]; exact nil_og (hHE.trans (l20.trans l30)))
  have e : jcR on a da b db = errE (joinP on (a ++ da) (b ++ db)) := by unfold jcR; rw [if_neg (by simpa using hp0), if_neg (by simpa using hw0), if_pos hn]
  rw [e] at this; exact this
 have hi0 : errE (joinP on (a ++ da) (b ++ db)) = 0 := eq0 he3
 have k1 := zw.cln.1
 have k2 := zi.cln.1
 have e18 := (g18.en (cln_okE e16.oks) (show (clnE (joinP on a b)).length ≤ _ by omega)).le l30
 have e28 := g28.en (cln_okE e26.oks) (show (clnE (joinP on (a ++ da) (b ++ db))).length ≤ _ by omega)
 refine pLessF e28 e18 (show (clnE (joinP on (a ++ da) (b ++ db))).length + (clnE (joinP on a b)).length ≤ _ by omega) (fun z hz => ?_) cln_rng fun r ys D2 g => ?_
 ·rcases List.mem_append.1 hz with hz | hz
  ·have := zi.cln.2 z hz; omega
  ·have := zw.cln.2 z hz; omega
 have := k r ys D2 (by
  unfold jcL
  rw [if_neg (by rintro (h | h | h); exact h hp0; exact h hw0; exact h hi0)]
  exact g.down (hHE.trans (l20.trans l30)))
 have e : jcR on a da b db = errE (clnE (joinP on (a ++ da) (b ++ db)) ++ negL (clnE (joinP on a b))) := by unfold jcR; rw [if_neg (by simpa using hp0), if_neg (by simpa using hw0), if_neg (by simpa using hi0)]
 rw [e] at this; exact this
end
end Sx
end

noncomputable section
set_option linter.unusedVariables false
set_option linter.unusedSimpArgs false
set_option maxRecDepth 10000
namespace Sx
open Go Go.Proofs
def encI (x : Int) : Value := .int .i64 x
theorem cln_row {l : List En} {r : List V} (h : errE l = 0) (hn : ∀ e ∈ clnE l, e.1 ≠ r) : totE l r = 0 := by
 rw [← cln_tot h]; exact totE_none hn
section
variable {C : Ctx} {H A : Heap}
theorem AntiChange_ok (hF : FmtC C) {on : List Pr} {sa sda sb sdb sn : Sl} {a da b db : List En} {K : Sl → Int → Heap → Prop} (ha : EnL A sa a) (hda : EnL A sda da) (hb : EnL A sb b) (hdb : EnL A sdb db) (hp : PrL A sn on) (hA : A.le H)
 (za : Sz 250 250 a) (zda : Sz 250 250 da) (zb : Sz 250 250 b) (zdb : Sz 250 250 db) (hon : on.length ≤ 1000)
 (k : ∀ r ys D, OgE H D (acL on a da b db) r ys → K r (acR on a da b db) D) : c_delta_AntiChange C sa sda sb sdb sn K H := by
 apply ad_delta_AntiChange
 unfold sh_delta_AntiChange
 have u : ∀ {l : List En}, Sz 250 250 l → Sz 1000 1000 l := fun h => h.up (by omega) (by omega)
 refine parts_ok ha hda hb hdb hA (u za) (u zda) (u zb) (u zdb) fun x y D hD hxy => ?_
 refine nz2 rfl rfl fun b5 b7 E hE c5 c7 => ?_
 have hHE := hD.trans hE
 refine ift.of (fun he => ?_) (fun he => ?_)
 ·have := k Sl.nil [] E (by unfold acL; rw [if_pos (ne0 he)]; exact nil_og hHE)
  have e : acR on a da b db = partsE a da b db := by unfold acR; rw [if_pos (ne0 he)]
  rw [e] at this; exact this
 have hp0 := eq0 he
 obtain ⟨x1, x2, x3, y1, y2, y3⟩ := hxy hp0
 have w1 : Sz 500 500 (clnE a) := za.cln.up (by omega) (by omega)
 have w2 : Sz 500 500 (clnE b) := zb.cln.up (by omega) (by omega)
 have i1 : Sz 500 500 (clnE (a ++ da)) := (za.app zda).cln.up (by omega) (by omega)
 have i2 : Sz 500 500 (clnE (b ++ db)) := (zb.app zdb).cln.up (by omega) (by omega)
 have ms : ∀ {l : List En}, Sz 500 500 (clnE l) → ∀ e ∈ clnE l, mayR e.1 = true ∧ vsizes e.1 ≤ 1000 := fun h e he => ⟨(cln_ok e he).1, by have := h.2 e he; omega⟩
 have mp : ∀ {l : List En}, Sz 500 500 (clnE l) → ∀ e ∈ posE (clnE l), mayR e.1 = true ∧ vsizes e.1 ≤ 1000 := fun h e he => by
  refine ⟨?_, by have := h.pos.2 e he; omega⟩
  obtain ⟨x, hx, rfl⟩ := List.mem_map.1 he
  exact (cln_ok x (List.mem_filter.1 hx).1).1
 refine fL c7 (t := y.was_) rfl ?_
 refine pDistF (y1.en.le hE) (by have := w2.1; omega) (sz_small w2) fun r14 y14 H16 g14 => ?_
 rw [(cln_cln b).1]
 rw [(cln_cln b).2] at g14
 refine ift_neg rfl ?_
 have l16 := g14.own.le
 refine fL (l16 _ _ c7) (t := y.is_) rfl ?_
 refine pDistF ((y3.en.le hE).le l16) (by have := i2.1; omega) (sz_small i2) fun r20 y20 H22 g20 => ?_
 rw [(cln_cln (b ++ db)).1]
 rw [(cln_cln (b ++ db)).2] at g20
 refine ift_neg rfl ?_
 have l22 := l16.trans g20.own.le
 have hb1 : ∀ e ∈ clnE b, okE e := okE_cln hb
 have hb2 : ∀ e ∈ clnE (b ++ db), okE e := cln_okE fun e he => by
  rcases List.mem_append.1 he with he | he
  ·exact hb.oks e he
  ·exact hdb.oks e he
 have e14 : EnL H22 r14 (posE (clnE b)) := (g14.en (pos_okE hb1) (by have := w2.pos.1; omega)).le g20.own.le
 have e20 : EnL H22 r20 (posE (clnE (b ++ db))) := g20.en (pos_okE hb2) (by have := i2.pos.1; omega)
 have ex3 : EnL H22 x.is_ (clnE (a ++ da)) := (x3.en.le hE).le l22
 have ex1 : EnL H22 x.was_ (clnE a) := (x1.en.le hE).le l22
 have hp22 := hp.le (hA.trans (hHE.trans l22))
 refine ⟨H22, Heap.le.refl _, fL (l22 _ _ c5) (t := x.is_) rfl (fL (l22 _ _ c5) (t := x.was_) rfl ?_)⟩
 refine none_okX hF ex3 (Heap.le.refl _) e20 hp22 (Heap.le.refl _) (by have := i1.1; omega) (by have := i2.pos.1; omega) hon (ms i1) (mp i2) fun r31 ys31 H32 g31 => ⟨g31.own.le, ?_⟩
 refine none_okX hF ex1 g31.own.le e14 hp22 g31.own.le (by have := w1.1; omega) (by have := w2.pos.1; omega) hon (ms w1) (mp w2) fun r34 ys34 H35 g34 => ⟨g31.own.le.trans g34.own.le, ?_⟩
 have n1 := i1.none (on := on) (b := posE (clnE (b ++ db)))
 have n2 := w1.none (on := on) (b := posE (clnE b))
 have rg2 : ∀ e ∈ noneE on (clnE a) (posE (clnE b)), -2147483647 ≤ e.2 ∧ e.2 ≤ 2147483647 := fun e he => cln_rng e (List.mem_filter.1 he).1
 refine less_okX (g34.sl (by have := n2.1; omega)) (Heap.le.refl _) (by have := n2.1; omega) rg2 fun r37 ys37 H38 g37 => ⟨g31.own.le.trans (g34.own.le.trans g37.own.le), ?_⟩
 have l38 := g34.own.le.trans g37.own.le
 have h22o := Heap.le_off (g31.own.le.trans l38) g31.own.fresh
 have s31 := g31.slen
 have s37 := g37.slen
 have len31 := g31.len
 have len37 := g37.len
 have k1 := n1.1
 have k2 := n2.neg.1
 refine apS_ownF (zc := T_zset_Entry.c T_zset_Entry.zero) ((g31.own.own.le l38).off) g37.own.own.rdsl (by rw [ysE_len]; show _ = r37.len * 2; omega) cE_one (by omega) (by omega) fun r40 H41 q1 q2 => ?_
 have l41 := h22o.trans q1.le
 refine ⟨l41, ?_⟩
 have hW : EnL H41 r40 (acW on a da b db) := by
  have hw : ys31.flatMap T_zset_Entry.c ++ ys37.flatMap T_zset_Entry.c = (ys31 ++ ys37).flatMap T_zset_Entry.c := by rw [List.flatMap_append]
  refine ⟨ys31 ++ ys37, by rw [← hw]; exact q1.own.rdsl, by rw [List.length_append]; omega, ?_, ?_, fun j e y' he hy => ?_⟩
  ·show (noneE on _ _ ++ negL (noneE on _ _)).length = _
   rw [List.length_append, List.length_append]; omega
  ·show (noneE on _ _ ++ negL (noneE on _ _)).length ≤ _
   rw [List.length_append]; omega
  ·have he : (noneE on (clnE (a ++ da)) (posE (clnE (b ++ db))) ++ negL (noneE on (clnE a) (posE (clnE b))))[j]? = some e := he
   by_cases hj : j < ys31.length
   ·rw [List.getElem?_append_left hj] at hy
    rw [List.getElem?_append_left (by omega)] at he
    exact (g31.done j e y' he hy).le l41
   ·rw [List.getElem?_append_right (by omega)] at hy
    rw [List.getElem?_append_right (by omega), ← len31] at he
    exact (g37.done _ e y' he hy).le l41
 have zW : Sz 1000 1000 (acW on a da b db) := (n1.app n2.neg).up (by omega) (by omega)
 refine pCleanF hW (by have := zW.1; omega) (fun z hz => by have := zW.2 z hz; omega) fun r ys D2 g => ⟨l41.trans g.own.le, ?_⟩
 have := k r ys D2 (by unfold acL; rw [if_neg (by simpa using hp0)]; exact g.down (hHE.trans (l22.trans l41)))
 have e : acR on a da b db = errE (acW on a da b db) := by unfold acR; rw [if_neg (by simpa using hp0)]
 rw [e] at this; exact this
end
end Sx
end

noncomputable section
set_option linter.unusedVariables false
set_option linter.unusedSimpArgs false
set_option maxRecDepth 10000
namespace Sx
open Go Go.Proofs
/-- a map of numbers, and what is known beside it -/
structure MB (E D : Heap) (mb : Nat) (l : List (Str × Int)) : Prop where
 le : E.le D
 nb : E mb = none
 map : MapIs encI D mb l
theorem MB.up {E D D2 : Heap} {mb : Nat} {l : List (Str × Int)} (h : MB E D mb l) (hle : D.le D2) : MB E D2 mb l := ⟨h.le.trans hle, h.nb, h.map.le hle⟩
theorem MB.put {E D : Heap} {mb b : Nat} {l : List (Str × Int)} {g : GO} (h : MB E D mb l) (nb : D b = none) : MB E (D.put b g) mb l := h.up (Heap.le_put nb)
theorem MB.upd {E D : Heap} {mb : Nat} {l : List (Str × Int)} {key : Str} {v : Int} {K : Heap → Prop} (h : MB E D mb l) (k : ∀ D2 l2, MB E D2 mb l2 → (∀ k2, lkL k2 l2 = if k2 = key then some v else lkL k2 l) → 0 < l2.length → (l2.length = if (lkL key l).isSome then l.length else l.length + 1) → K D2) : upM encI (some mb) key v K D :=
 ⟨mb, l, rfl, h.map, fun g l2 m2 m3 m4 => k _ l2 ⟨le_put_off h.le h.nb, h.nb, m2⟩ m3 (by
  cases l2 with
  | nil => have := m3 key; rw [if_pos rfl] at this; simp [lkL] at this
  | cons p l2 => simp) m4⟩
theorem key_row {a b : List V} (ha : mayR a = true) (hb : mayR b = true) (h : showK a = showK b) : a = b := showK_inj (may_all ha) (may_all hb) h
section
variable {C : Ctx} {H A : Heap}
theorem DistinctChange_ok (hF : FmtC C) {sa sda : Sl} {a da : List En} {K : Sl → Int → Heap → Prop} (ha : EnL A sa a) (hda : EnL A sda da) (hA : A.le H)
 (za : Sz 250 250 a) (zda : Sz 250 250 da) (k : ∀ r ys D, OgE H D (dcL a da) r ys → K r (dcR a da) D) : c_delta_DistinctChange C sa sda K H := by
 apply ad_delta_DistinctChange
 unfold sh_delta_DistinctChange
 have u : ∀ {l : List En}, Sz 250 250 l → Sz 1000 1000 l := fun h => h.up (by omega) (by omega)
 have znil : Sz 1000 1000 ([] : List En) := ⟨by simp, fun e he => by simp at he⟩
 refine parts_ok ha hda EnL.nil EnL.nil hA (u za) (u zda) znil znil fun x y D hD hxy => ?_
 refine nz2 rfl rfl fun b5 b7 E hE c5 c7 => ?_
 have hHE := hD.trans hE
 refine ift.of (fun he => ?_) (fun he => ?_)
 ·have := k Sl.nil [] E (by unfold dcL; rw [if_pos (ne0 he)]; exact nil_og hHE)
  have e : dcR a da = partsE a da [] [] := by unfold dcR; rw [if_pos (ne0 he)]
  rw [e] at this; exact this
 have hp0 := eq0 he
 obtain ⟨x1, x2, _, _, _, _⟩ := hxy hp0
 obtain ⟨z1, z2, _, _, _, _⟩ := parts_all hp0
 have w1 : Sz 250 250 (clnE a) := za.cln
 have w2 : Sz 250 250 (clnE da) := zda.cln
 intro b12 n12
 have m12 : MB E (E.put b12 (.obj (.map #[] 0))) b12 [] := ⟨Heap.le_put n12, n12, MapIs.new⟩
 intro b14 n14
 refine nwT rfl ?_
 have n14E := m12.le.none n14
 have ne : b12 ≠ b14 := fun e => by subst e; rw [Heap.put_same] at n14; cases n14
 have lb := Heap.le_put n14 (g := .row (T_delta_side.c (⟨Sl.nil⟩ : T_delta_side))) (m := true)
 have lE := Heap.le_put n14E (g := .row (T_delta_side.c (⟨Sl.nil⟩ : T_delta_side))) (m := true)
 -- the base: all but the map
 have m14 : MB (E.put b14 (.row (T_delta_side.c (⟨Sl.nil⟩ : T_delta_side)))) ((E.put b12 (.obj (.map #[] 0))).put b14 (.row (T_delta_side.c (⟨Sl.nil⟩ : T_delta_side)))) b12 [] := ⟨fun z e hz => by
  by_cases hz4 : z = b14
  ·subst hz4; rw [Heap.put_same] at hz ⊢; exact hz
  ·rw [Heap.put_ne _ _ _ hz4] at hz ⊢; exact m12.le _ _ hz, by rw [Heap.put_ne _ _ _ ne]; exact n12, m12.map.le lb⟩
 have c14 : (E.put b14 (.row (T_delta_side.c (⟨Sl.nil⟩ : T_delta_side)))) b14 = some (true, .row (T_delta_side.c (⟨Sl.nil⟩ : T_delta_side))) := Heap.put_same ..
 have c5 := lE _ _ c5
 have x1 := (x1.en.le hE).le lE
 have x2 := (x2.en.le hE).le lE
 have hHG := hHE.trans lE
 generalize (E.put b12 (.obj (.map #[] 0))).put b14 (.row (T_delta_side.c (⟨Sl.nil⟩ : T_delta_side))) = D4 at *
 generalize E.put b14 (.row (T_delta_side.c (⟨Sl.nil⟩ : T_delta_side))) = G at *
 have ma : ∀ e ∈ clnE a, mayR e.1 = true := fun e he => (cln_ok e he).1
 have md : ∀ e ∈ clnE da, mayR e.1 = true := fun e he => (cln_ok e he).1
 have hw1 := w1.1
 have hw2 := w2.1
 have vs1 : ∀ e ∈ clnE a, vsizes e.1 ≤ 1000 := fun e he => by have := w1.2 e he; omega
 have vs2 : ∀ e ∈ clnE da, vsizes e.1 ≤ 1000 := fun e he => by have := w2.2 e he; omega
 refine fL (m14.le _ _ c5) (t := x.add_) rfl ?_
 -- the rows that are turned
 refine ⟨fun z F => ∃ (i : Nat) (l : List (Str × Int)), z = (i : Int) ∧ i ≤ (clnE da).length ∧ MB G F b12 l ∧ (i = 0 → l = []) ∧ (0 < i → 0 < l.length) ∧ (∀ e ∈ (clnE da).take i, lkL (showK e.1) l = some 0) ∧ (∀ key, (∀ e ∈ (clnE da).take i, showK e.1 ≠ key) → lkL key l = none), fun z _ => (clnE da).length - z.toNat, ⟨0, [], rfl, Nat.zero_le _, m14, fun _ => rfl, fun h => by omega, fun e he => by simp at he, fun key _ => rfl⟩, ?_⟩
 rintro _ F ⟨i, l, rfl, hi, hM, hl0, hlp, hq1, hq2⟩
 rw [x2.len]
 refine ift.of (fun hc => ?_) (fun hc => ?_)
 ·have hlt : i < (clnE da).length := by have := of_decide_eq_true hc; omega
  have hmem := List.getElem_mem hlt
  refine SlIs.ld x2 hM.le (z := 2) (fun _ => rfl) (by omega) rfl hlt fun y2 hy2 => ?_
  intro b30 n30
  refine nwT rfl ?_
  have cb : (F.put b30 (.row (T_zset_Entry.c y2))) b30 = some (true, .row (T_zset_Entry.c y2)) := Heap.put_same ..
  have hM2 := hM.put (g := .row (T_zset_Entry.c y2)) n30
  generalize F.put b30 (.row (T_zset_Entry.c y2)) = F1 at *
  refine bxT (c := T_delta_side.c) (hM2.le _ _ c14) (fL cb (t := y2.Row) rfl ?_)
  refine whole_ok hF rfl (hy2.1.le hM2.le) (Heap.le.refl _) hy2.2.1 (md _ hmem) (vs2 _ hmem) fun H2 l2 => ?_
  refine (hM2.up l2).upd fun D2 l3 hM3 hk3 hpos _ => ?_
  rw [w_i64 (by omega) (by omega)]
  refine ⟨⟨i + 1, l3, by omega, by omega, hM3, fun h => by omega, fun _ => hpos, fun e he => ?_, fun key hkey => ?_⟩, by first | omega | (dsimp only; omega)⟩
  ·rw [takeS hlt] at he
   rw [hk3]
   rcases List.mem_append.1 he with he | he
   ·split
    ·rfl
    ·exact hq1 e he
   ·have : e = (clnE da)[i] := by simpa using he
    subst this; rw [if_pos rfl]
  ·rw [hk3, if_neg fun e => hkey (clnE da)[i] (by rw [takeS hlt]; exact List.mem_append_right _ (List.mem_cons_self ..)) e.symm]
   exact hq2 key fun e he => hkey e (by rw [takeS hlt]; exact List.mem_append_left _ he)
 have hie : i = (clnE da).length := by have := of_decide_eq_false hc; omega
 rw [hie, List.take_length] at hq1 hq2
 rw [hie] at hl0 hlp
 clear hc hi hie
 refine fL (hM.le _ _ c5) (t := x.was_) rfl ?_
 -- what was there
 refine ⟨fun z F => ∃ (i : Nat) (l : List (Str × Int)), z = (i : Int) ∧ i ≤ (clnE a).length ∧ MB G F b12 l ∧ ((clnE da).length = 0 → l = []) ∧ (0 < (clnE da).length → 0 < l.length ∧ (∀ e ∈ (clnE a).take i, lkL (showK e.1) l = some e.2) ∧ ∀ e ∈ clnE da, (∀ f ∈ (clnE a).take i, showK f.1 ≠ showK e.1) → lkL (showK e.1) l = some 0), fun z _ => (clnE a).length - z.toNat,
  ⟨0, l, rfl, Nat.zero_le _, hM, hl0, fun h => ⟨hlp h, fun e he => by simp at he, fun e he _ => hq1 e he⟩⟩, ?_⟩
 rintro _ F2 ⟨j, l4, rfl, hj, hM4, hl4, hq4⟩
 rw [x1.len]
 refine ift.of (fun hc => ?_) (fun hc => ?_)
 ·have hlt : j < (clnE a).length := by have := of_decide_eq_true hc; omega
  have hmem := List.getElem_mem hlt
  refine ⟨fun _ F3 => ∃ l5, MB G F3 b12 l5 ∧ ((clnE da).length = 0 → l5 = []) ∧ (0 < (clnE da).length → 0 < l5.length ∧ (∀ e ∈ (clnE a).take (j + 1), lkL (showK e.1) l5 = some e.2) ∧ ∀ e ∈ clnE da, (∀ f ∈ (clnE a).take (j + 1), showK f.1 ≠ showK e.1) → lkL (showK e.1) l5 = some 0), ?_, ?_⟩
  ·refine SlIs.ld x1 hM4.le (z := 2) (fun _ => rfl) (by omega) rfl hlt fun y2 hy2 => ?_
   intro b58 n58
   refine nwT rfl ?_
   have cb : (F2.put b58 (.row (T_zset_Entry.c y2))) b58 = some (true, .row (T_zset_Entry.c y2)) := Heap.put_same ..
   have hM5 := hM4.put (g := .row (T_zset_Entry.c y2)) n58
   generalize F2.put b58 (.row (T_zset_Entry.c y2)) = F3 at *
   refine bxT (c := T_delta_side.c) (hM5.le _ _ c14) (fL cb (t := y2.Row) rfl ?_)
   refine whole_ok hF rfl (hy2.1.le hM5.le) (Heap.le.refl _) hy2.2.1 (ma _ hmem) (vs1 _ hmem) fun H2 l2 => ?_
   have hM6 := hM5.up l2
   refine hM6.map.ln ?_
   refine ift.of (fun hlen => ?_) (fun hlen => ?_)
   ·have hpos : 0 < (clnE da).length := by
     rcases Nat.eq_zero_or_pos (clnE da).length with h0 | h0
     ·rw [hl4 h0] at hlen; have := of_decide_eq_true hlen; simp at this
     ·exact h0
    obtain ⟨p1, p2, p3⟩ := hq4 hpos
    refine fI (l2 _ _ cb) (t := y2.N) rfl (hM6.upd fun D2 l7 hM7 hk7 hpos7 _ => ⟨l7, hM7, fun h => by omega, fun _ => ⟨hpos7, fun e he => ?_, fun e he hne => ?_⟩⟩)
    ·rw [takeS hlt] at he
     rw [hk7]
     have hyN := hy2.2.2.2.1
     rcases List.mem_append.1 he with he | he
     ·have hme := List.mem_of_mem_take he
      rw [if_neg]
      ·exact p2 e he
      ·intro hk
       have hrow := key_row (ma e hme) (ma _ hmem) hk
       obtain ⟨q, hq, hqe⟩ := List.getElem_of_mem he
       rw [List.getElem_take] at hqe
       rw [List.length_take] at hq
       have := List.pairwise_iff_getElem.1 (cln_rise a) q j (by omega) hlt (by omega)
       rw [hqe, hrow] at this
       exact lt_irr this
     ·have : e = (clnE a)[j] := by simpa using he
      subst this; rw [if_pos rfl, hyN]
    ·rw [hk7, if_neg fun e' => hne (clnE a)[j] (by rw [takeS hlt]; exact List.mem_append_right _ (List.mem_cons_self ..)) e'.symm]
     exact p3 e he fun f hf => hne f (by rw [takeS hlt]; exact List.mem_append_left _ hf)
   ·have h0 : (clnE da).length = 0 := by
     rcases Nat.eq_zero_or_pos (clnE da).length with h0 | h0
     ·exact h0
     ·have := of_decide_eq_false hlen
      have := (hq4 h0).1
      omega
    exact ⟨l4, hM6, hl4, fun h => by omega⟩
  ·rintro _ F3 ⟨l5, hM5, h5, hq5⟩
   rw [w_i64 (by omega) (by omega)]
   exact ⟨⟨j + 1, l5, by omega, by omega, hM5, h5, hq5⟩, by first | omega | (dsimp only; omega)⟩
 have hje : j = (clnE a).length := by have := of_decide_eq_false hc; omega
 rw [hje, List.take_length] at hq4
 clear hc hj hje
 have hat : ∀ e ∈ clnE da, lkL (showK e.1) l4 = some (totE a e.1) := fun e he => by
  obtain ⟨_, p2, p3⟩ := hq4 (List.length_pos_of_mem he)
  by_cases hf : ∃ f ∈ clnE a, f.1 = e.1
  ·obtain ⟨f, hf, hfe⟩ := hf
   have := p2 f hf
   rw [hfe, (cln_mem hf).2.2.1, hfe] at this
   exact this
  ·rw [p3 e he fun f hf2 hk => hf ⟨f, hf2, key_row (ma f hf2) (md e he) hk⟩, cln_row z1 fun f hf2 hfe => hf ⟨f, hf2, hfe⟩]
 refine fL (hM4.le _ _ c5) (t := x.add_) rfl ?_
 -- what changes
 refine ⟨fun z F => ∃ (i : Nat) (ys : List T_zset_Entry), z.2 = (i : Int) ∧ i ≤ (clnE da).length ∧ EnX G F2 F (((clnE da).take i).flatMap fun y => if decide (totE a y.1 + y.2 > 0) && !(decide (totE a y.1 > 0)) then [(y.1, 1)] else if decide (totE a y.1 > 0) && !(decide (totE a y.1 + y.2 > 0)) then [(y.1, -1)] else []) z.1 ys, fun z _ => (clnE da).length - z.2.toNat, ⟨0, [], rfl, Nat.zero_le _, EnX.nil⟩, ?_⟩
 rintro ⟨r, _⟩ F5 ⟨i5, ys, rfl, hi5, hg⟩
 have hl5 := hg.own.le
 have hfm : ∀ m : List En, (m.flatMap fun y => if decide (totE a y.1 + y.2 > 0) && !(decide (totE a y.1 > 0)) then [(y.1, (1 : Int))] else if decide (totE a y.1 > 0) && !(decide (totE a y.1 + y.2 > 0)) then [(y.1, -1)] else []).length ≤ m.length := fun m => by
  induction m with
  | nil => simp
  | cons y m ih =>
   rw [List.flatMap_cons, List.length_append, List.length_cons]
   have : (if decide (totE a y.1 + y.2 > 0) && !(decide (totE a y.1 > 0)) then [(y.1, (1 : Int))] else if decide (totE a y.1 > 0) && !(decide (totE a y.1 + y.2 > 0)) then [(y.1, -1)] else []).length ≤ 1 := by
    split
    ·simp
    ·split <;> simp
   omega
 rw [x2.len]
 refine ift.of (fun hc => ?_) (fun hc => ?_)
 ·have hlt : i5 < (clnE da).length := by have := of_decide_eq_true hc; dsimp only at this; omega
  have hmem := List.getElem_mem hlt
  have hlen5 := hfm ((clnE da).take i5)
  rw [List.length_take] at hlen5
  refine ⟨fun z F6 => ∃ ys2 : List T_zset_Entry, EnX G F2 F6 (((clnE da).take (i5 + 1)).flatMap fun y => if decide (totE a y.1 + y.2 > 0) && !(decide (totE a y.1 > 0)) then [(y.1, 1)] else if decide (totE a y.1 > 0) && !(decide (totE a y.1 + y.2 > 0)) then [(y.1, -1)] else []) z ys2, ?_, ?_⟩
  ·refine SlIs.ld x2 (hM4.le.trans hl5) (z := 2) (fun _ => rfl) (by omega) rfl hlt fun y2 hy2 => ?_
   intro b91 n91
   refine nwT rfl ?_
   have cb : (F5.put b91 (.row (T_zset_Entry.c y2))) b91 = some (true, .row (T_zset_Entry.c y2)) := Heap.put_same ..
   have hg1 := hg.up (Heap.le_put n91 (g := .row (T_zset_Entry.c y2)) (m := true))
   have hM5 := hM4.up hg1.own.le
   generalize F5.put b91 (.row (T_zset_Entry.c y2)) = F6 at *
   refine bxT (c := T_delta_side.c) (hM5.le _ _ c14) (fL cb (t := y2.Row) rfl ?_)
   refine whole_ok hF rfl (hy2.1.le hM5.le) (Heap.le.refl _) hy2.2.1 (md _ hmem) (vs2 _ hmem) fun H2 l2 => ?_
   have hM6 := hM5.up l2
   have look : ∀ {K : Int → Bool → Prop}, K (totE a (clnE da)[i5].1) true → lkM encI 0 (some b12) (showK (clnE da)[i5].1) K H2 := fun h => hM6.map.lk (fun v hv => by
    rw [hat _ hmem] at hv; injection hv with hv; subst hv; exact h) fun hn => by rw [hat _ hmem] at hn; cases hn
   refine look (look (fI (l2 _ _ cb) (t := y2.N) rfl ?_))
   have hyN := hy2.2.2.2.1
   have b1 := of_outE ((err_iff.1 z1).tot (clnE da)[i5].1)
   have b2 := cln_rng _ hmem
   rw [hyN, w_i64 (x := totE a (clnE da)[i5].1 + (clnE da)[i5].2) (by omega) (by omega)]
   have hsn : (((clnE da).take (i5 + 1)).flatMap fun y => if decide (totE a y.1 + y.2 > 0) && !(decide (totE a y.1 > 0)) then [(y.1, (1 : Int))] else if decide (totE a y.1 > 0) && !(decide (totE a y.1 + y.2 > 0)) then [(y.1, -1)] else []) =
    (((clnE da).take i5).flatMap fun y => if decide (totE a y.1 + y.2 > 0) && !(decide (totE a y.1 > 0)) then [(y.1, (1 : Int))] else if decide (totE a y.1 > 0) && !(decide (totE a y.1 + y.2 > 0)) then [(y.1, -1)] else []) ++
    (if decide (totE a (clnE da)[i5].1 + (clnE da)[i5].2 > 0) && !(decide (totE a (clnE da)[i5].1 > 0)) then [((clnE da)[i5].1, (1 : Int))] else if decide (totE a (clnE da)[i5].1 > 0) && !(decide (totE a (clnE da)[i5].1 + (clnE da)[i5].2 > 0)) then [((clnE da)[i5].1, -1)] else []) := by
    rw [takeS hlt, List.flatMap_append]; simp
   rw [hsn]
   refine ift.of (fun h1 => ?_) (fun h1 => ?_)
   ·rw [if_pos h1]
    refine fL (l2 _ _ cb) (t := y2.Row) rfl (hg1.step (e := ((clnE da)[i5].1, 1)) (y := (⟨y2.Row, 1⟩ : T_zset_Entry)) l2 ⟨hy2.1, hy2.2.1, hy2.2.2.1, rfl, by dsimp only; omega, by dsimp only; omega⟩ (by omega) fun r2 B2 h2 _ => ⟨_, h2⟩)
   ·rw [if_neg (by rw [h1]; simp)]
    refine ift.of (fun h3 => ?_) (fun h3 => ?_)
    ·rw [if_pos h3]
     refine fL (l2 _ _ cb) (t := y2.Row) rfl (hg1.step (e := ((clnE da)[i5].1, -1)) (y := (⟨y2.Row, (-1)⟩ : T_zset_Entry)) l2 ⟨hy2.1, hy2.2.1, hy2.2.2.1, rfl, by dsimp only; omega, by dsimp only; omega⟩ (by omega) fun r2 B2 h2 _ => ⟨_, h2⟩)
    ·rw [if_neg (by rw [h3]; simp), List.append_nil]
     exact ⟨ys, hg1.up l2⟩
  ·rintro z F6 ⟨ys2, h2⟩
   rw [w_i64 (by dsimp only; omega) (by dsimp only; omega)]
   exact ⟨⟨i5 + 1, ys2, by dsimp only; omega, by omega, h2⟩, by first | omega | (dsimp only; omega)⟩
 have hie : i5 = (clnE da).length := by have := of_decide_eq_false hc; dsimp only at this; omega
 rw [hie, List.take_length] at hg
 have hgE : EnX G F2 F5 (chgE a da) r ys := hg
 have hcl : (chgE a da).length ≤ (clnE da).length := hfm (clnE da)
 have hall := hM4.le.trans hl5
 refine pCleanF (SlIs.le (Heap.le.refl _) (hgE.sl (by omega)) fun _ _ _ h => h.le hall) (by omega) (fun z hz => ?_) fun r6 y6 D6 g6 => ?_
 ·obtain ⟨y3, hy3, hz⟩ := List.mem_flatMap.1 hz
  have := w2.2 y3 hy3
  split at hz
  ·have : z = (y3.1, 1) := by simpa using hz
   subst this; dsimp only; omega
  ·split at hz
   ·have : z = (y3.1, -1) := by simpa using hz
    subst this; dsimp only; omega
   ·simp at hz
 have := k r6 y6 D6 (by unfold dcL; rw [if_neg (by simpa using hp0)]; exact g6.down (hHG.trans hall))
 have e : dcR a da = errE (chgE a da) := by unfold dcR; rw [if_neg (by simpa using hp0)]
 rw [e] at this; exact this
end
end Sx
end

noncomputable section
set_option linter.unusedVariables false
set_option linter.unusedSimpArgs false
set_option maxRecDepth 10000
namespace Sx
open Go Go.Proofs
theorem ok_mass {l : List En} (hm : ∀ e ∈ l, mayR e.1 = true) (h : mass l ≤ 2147483647) : errE l = 0 :=
 err_iff.2 ⟨hm, fun e he => by have := mass_mem he; exact outE_of (by omega) (by omega), fun r => by have := mass_tot r l; exact outE_of (by omega) (by omega)⟩
theorem mass_cln (l : List En) : mass (clnE l) ≤ mass l := by
 by_cases h : errE l = 0
 ·obtain ⟨h1, h2⟩ := cln_sum h; rw [h2]; exact mass_nz h1
 ·unfold clnE; rw [if_neg h]; exact mass_nn l
theorem may_cln (l : List En) : ∀ e ∈ clnE l, mayR e.1 = true := fun e he => (cln_ok e he).1
theorem may_neg {l : List En} (h : ∀ e ∈ l, mayR e.1 = true) : ∀ e ∈ negL l, mayR e.1 = true := fun e he => by
 obtain ⟨x, hx, rfl⟩ := List.mem_map.1 he; exact h x hx
theorem may_app {a b : List En} (ha : ∀ e ∈ a, mayR e.1 = true) (hb : ∀ e ∈ b, mayR e.1 = true) : ∀ e ∈ a ++ b, mayR e.1 = true := fun e he => by
 rcases List.mem_append.1 he with he | he
 ·exact ha e he
 ·exact hb e he
theorem may_join (on : List Pr) (a b : List En) : ∀ e ∈ joinP on a b, mayR e.1 = true := fun e he => by
 obtain ⟨x, hx, y, hy, rfl⟩ := pair_mem he
 exact mayR_append (may_cln a x hx) (may_cln b y hy)
theorem mass_join (on : List Pr) {a b : List En} {m n : Int} (ha : mass a ≤ m) (hb : mass b ≤ n) : mass (joinP on a b) ≤ m * n := by
 have h1 := mass_pair (on := on) (b := clnE b) (clnE a)
 have h2 := mass_cln a
 have h3 := mass_cln b
 have h4 := mass_nn (clnE a)
 have h5 := mass_nn (clnE b)
 have := Int.mul_le_mul (show mass (clnE a) ≤ m by omega) (show mass (clnE b) ≤ n by omega) h5 (by omega)
 show mass (pairE on (clnE a) (clnE b)) ≤ _
 omega
theorem mass_anti (on : List Pr) (a b : List En) : mass (antiP on a b) ≤ mass a := Int.le_trans (mass_filter _ _) (mass_cln a)
theorem may_anti (on : List Pr) (a b : List En) : ∀ e ∈ antiP on a b, mayR e.1 = true := fun e he => may_cln a e (List.mem_filter.1 he).1
/-- small entries -/
structure Sm (l : List En) (m : Int) : Prop where
 may : ∀ e ∈ l, mayR e.1 = true
 mass : Sx.mass l ≤ m
theorem Sm.err {l : List En} {m : Int} (h : Sm l m) (hm : m ≤ 2147483647) : errE l = 0 := ok_mass h.may (Int.le_trans h.mass hm)
theorem Sm.app {a b : List En} {m n : Int} (h : Sm a m) (h2 : Sm b n) : Sm (a ++ b) (m + n) := ⟨may_app h.may h2.may, by rw [mass_append]; have := h.mass; have := h2.mass; omega⟩
theorem Sm.cln {l : List En} {m : Int} (h : Sm l m) : Sm (clnE l) m := ⟨may_cln l, Int.le_trans (mass_cln l) h.mass⟩
theorem Sm.neg {l : List En} {m : Int} (h : Sm l m) : Sm (negL l) m := ⟨may_neg h.may, by rw [mass_neg]; exact h.mass⟩
theorem Sm.join {a b : List En} {m n : Int} (on : List Pr) (h : Sm a m) (h2 : Sm b n) : Sm (joinP on a b) (m * n) := ⟨may_join on a b, mass_join on h.mass h2.mass⟩
theorem Sm.anti {a : List En} {m : Int} (on : List Pr) (b : List En) (h : Sm a m) : Sm (antiP on a b) m := ⟨may_anti on a b, Int.le_trans (mass_anti on a b) h.mass⟩
theorem Sm.nil : Sm [] 0 := ⟨fun e he => by simp at he, Int.le_refl _⟩
theorem Sm.up {l : List En} {m n : Int} (h : Sm l m) (hm : m ≤ n) : Sm l n := ⟨h.may, Int.le_trans h.mass hm⟩
/-- lists of the same sums are the same when clean -/
theorem joinP_eq {on : List Pr} {a a' b b' : List En} (ha : clnE a = clnE a') (hb : clnE b = clnE b') : joinP on a b = joinP on a' b' := by unfold joinP; rw [ha, hb]
theorem antiP_eq {on : List Pr} {a a' b b' : List En} (ha : clnE a = clnE a') (hb : clnE b = clnE b') : antiP on a b = antiP on a' b' := by unfold antiP; rw [ha, hb]
/-- two changes, one behind the other -/
theorem tele2 {X Y Z : List En} (hX : errE X = 0) (hY : errE Y = 0) (hZ : errE Z = 0) (ht : ∀ r, totE Z r = totE X r + totE Y r) : errE (clnE X ++ clnE Y) = 0 ∧ clnE (clnE X ++ clnE Y) = clnE Z := by
 have t : ∀ r, totE (clnE X ++ clnE Y) r = totE Z r := fun r => by rw [totE_append, cln_tot hX, cln_tot hY, ht]
 have h0 : errE (clnE X ++ clnE Y) = 0 := err_iff.2 ((err_iff.1 hZ).of t (may_app (may_cln X) (may_cln Y)) fun e he => by
  rcases List.mem_append.1 he with he | he
  ·exact (cln_ok e he).2
  ·exact (cln_ok e he).2)
 exact ⟨h0, cln_eq h0 hZ t⟩
theorem cln_app1 {a b : List En} (ha : errE a = 0) (hs : errE (a ++ b) = 0) (hs2 : errE (clnE a ++ b) = 0) : clnE (clnE a ++ b) = clnE (a ++ b) := cln_eq hs2 hs fun r => by rw [totE_append, totE_append, cln_tot ha]
theorem cln_app2 {a b : List En} (hb : errE b = 0) (hs : errE (a ++ b) = 0) (hs2 : errE (a ++ clnE b) = 0) : clnE (a ++ clnE b) = clnE (a ++ b) := cln_eq hs2 hs fun r => by rw [totE_append, totE_append, cln_tot hb]
theorem parts_small {a da b db : List En} {m n m2 n2 : Int} (ha : Sm a m) (hda : Sm da n) (hb : Sm b m2) (hdb : Sm db n2) (h0 : 0 ≤ m) (h1 : 0 ≤ n) (h2 : 0 ≤ m2) (h3 : 0 ≤ n2) (h : m + n ≤ 2147483647) (h' : m2 + n2 ≤ 2147483647) : partsE a da b db = 0 := by
 unfold partsE
 rw [if_neg (by simpa using ha.err (by omega)), if_neg (by simpa using hda.err (by omega)), if_neg (by simpa using hb.err (by omega)), if_neg (by simpa using hdb.err (by omega)), if_neg (by simpa using (ha.app hda).err h)]
 exact (hb.app hdb).err h'
end Sx
end

noncomputable section
set_option linter.unusedVariables false
set_option linter.unusedSimpArgs false
set_option maxRecDepth 10000
namespace Sx
open Go Go.Proofs
def small24 (e : En) : Prop := -100 ≤ e.2 ∧ e.2 ≤ 100 ∧ mayR e.1 = true
theorem small_sm {l : List En} (h : ∀ e ∈ l, small24 e) (hn : l.length ≤ 120) : Sm l 12000 := by
 refine ⟨fun e he => (h e he).2.2, ?_⟩
 have := mass_len (m := 100) (by omega) (l := l) fun e he => ⟨(h e he).1, (h e he).2.1⟩
 omega
structure CaseV where
 a : List En
 da : List En
 b : List En
 db : List En
 on : List Pr
structure CaseIs (A : Heap) (v : CaseV) (x : T_law24_Case) : Prop where
 a : EnL A x.A v.a
 da : EnL A x.DA v.da
 b : EnL A x.B v.b
 db : EnL A x.DB v.db
 on : PrL A x.On v.on
theorem CaseIs.le {A B : Heap} {v : CaseV} {x : T_law24_Case} (h : CaseIs A v x) (hle : A.le B) : CaseIs B v x := ⟨h.a.le hle, h.da.le hle, h.b.le hle, h.db.le hle, h.on.le hle⟩
structure Bnd24 (v : CaseV) : Prop where
 a : Sz 120 120 v.a
 da : Sz 120 120 v.da
 b : Sz 120 120 v.b
 db : Sz 120 120 v.db
 on : v.on.length ≤ 20
section
variable {C : Ctx} {H A : Heap}
theorem small_ok {s : Sl} {l : List En} {K : Bool → Heap → Prop} (hs : EnL A s l) (hA : A.le H) (k : ∀ b, (b = true → ∀ e ∈ l, small24 e) → K b H) : c_law24_small C s K H := by
 apply c_law24_small.gh
 apply ad_law24_small
 unfold sh_law24_small
 have hb := hs.bd
 refine ⟨fun x D => H.le D ∧ ∃ i : Nat, x = (i : Int) ∧ i ≤ l.length ∧ (∀ j, (h : j < l.length) → j < i → small24 l[j]), fun x _ => l.length - x.toNat, ⟨Heap.le.refl _, 0, rfl, Nat.zero_le _, fun j _ h => by omega⟩, ?_⟩
 rintro _ D ⟨hD, i, rfl, hi, hq⟩
 rw [hs.len]
 have hAD := hA.trans hD
 refine ift.of (fun h => ?_) (fun h => ?_)
 ·have hlt : i < l.length := by have := of_decide_eq_true h; omega
  refine SlIs.fI hs hAD (z := 2) (fun _ => rfl) (by omega) rfl hlt (j := 1) (f := fun y => y.N) (fun _ => rfl) fun y hy => ?_
  refine jb (P := l[i].2 < -100 ∨ l[i].2 > 100) D ?_ fun b hb2 => ?_
  ·refine ift.of (fun h2 => ⟨rfl, ?_⟩) (fun h2 => SlIs.fI hs hAD (z := 2) (fun _ => rfl) (by omega) rfl hlt (j := 1) (f := fun y => y.N) (fun _ => rfl) fun y2 hy2 => ⟨rfl, ?_⟩)
   ·have h2 := of_decide_eq_true h2
    rw [hy.2.2.2.1] at h2
    exact ⟨fun _ => .inl h2, fun _ => rfl⟩
   ·have h2 := of_decide_eq_false h2
    rw [hy.2.2.2.1] at h2
    rw [hy2.2.2.2.1]
    refine ⟨fun h => .inr (of_decide_eq_true h), ?_⟩
    rintro (h | h)
    ·exact absurd h h2
    ·exact decide_eq_true h
  refine ift.of (fun h2 => ⟨H, Gh.le hD, k false fun e => (nomatch e)⟩) (fun h2 => ?_)
  have hn : ¬ (l[i].2 < -100 ∨ l[i].2 > 100) := fun e => by rw [hb2.2 e] at h2; cases h2
  refine ⟨fun x E => H.le E ∧ ∃ m : Nat, x = (m : Int) ∧ m ≤ l[i].1.length ∧ (l[i].1.take m).all mayV = true, fun x _ => l[i].1.length - x.toNat, ⟨hD, 0, rfl, Nat.zero_le _, rfl⟩, ?_⟩
  rintro _ E ⟨hE, m, rfl, hm, hqm⟩
  have hAE := hA.trans hE
  refine SlIs.fL hs hAE (z := 2) (fun _ => rfl) (by omega) rfl hlt (j := 0) (f := fun y => y.Row) (fun _ => rfl) fun y2 hy2 => ?_
  rw [hy2.1.len]
  have hbl := hy2.2.2.1
  refine ift.of (fun h => ?_) (fun h => ?_)
  ·have hmt : m < l[i].1.length := by have := of_decide_eq_true h; omega
   refine SlIs.fL hs hAE (z := 2) (fun _ => rfl) (by omega) rfl hlt (j := 0) (f := fun y => y.Row) (fun _ => rfl) fun y3 hy3 => ?_
   refine hy3.1.ld hAE rfl hmt fun z hz => ?_
   refine value_Check_ok (hz.le hAE) (hy3.2.1.mem (List.getElem_mem hmt)) ?_
   have hck : ((checkV l[i].1[m] : Int) != 0) = !(mayV l[i].1[m]) := by unfold mayV; rfl
   rw [hck]
   refine ift.of (fun _ => ⟨H, Gh.le hE, k false fun e => (nomatch e)⟩) (fun h3 => ?_)
   have h3 : mayV l[i].1[m] = true := by simpa using h3
   rw [w_i64 (by omega) (by omega)]
   refine ⟨⟨hE, m + 1, by omega, by omega, ?_⟩, by first | omega | (dsimp only; omega)⟩
   rw [List.take_add_one, List.getElem?_eq_getElem hmt, List.all_append, hqm]
   simp [h3]
  ·have hme : m = l[i].1.length := by have := of_decide_eq_false h; omega
   rw [w_i64 (by omega) (by omega)]
   refine ⟨⟨hE, i + 1, by omega, by omega, fun j hj hji => ?_⟩, by first | omega | (dsimp only; omega)⟩
   rcases Nat.lt_or_ge j i with h4 | h4
   ·exact hq j hj h4
   ·have : j = i := by omega
    subst this
    rw [hme, List.take_length] at hqm
    exact ⟨by omega, by omega, hqm⟩
 ·exact ⟨H, Gh.le hD, k true fun _ e he => by
   obtain ⟨j, hj, rfl⟩ := List.getElem_of_mem he
   exact hq j hj (by have := of_decide_eq_false h; omega)⟩
theorem Case_large_ok {v : CaseV} {x : T_law24_Case} {K : Bool → Heap → Prop} (h : CaseIs A v x) (hA : A.le H) (k : ∀ b, (b = false → Bnd24 v) → K b H) : c_law24_Case_large C x K H := by
 apply c_law24_Case_large.gh
 apply ad_law24_Case_large
 unfold sh_law24_Case_large
 intro b1 n1
 have l1 := Heap.le_put n1 (g := .row (T_law24_Case.c x)) (m := true)
 have c1 : (H.put b1 (.row (T_law24_Case.c x))) b1 = some (true, .row (T_law24_Case.c x)) := Heap.put_same ..
 have hA1 := hA.trans l1
 generalize H.put b1 (.row (T_law24_Case.c x)) = H1 at *
 refine fL c1 (t := x.A) rfl (large_ok h.a hA1 fun r5 h5 => ?_)
 refine ⟨fun b E => E = H1 ∧ (b = false → Sz 120 120 v.a ∧ Sz 120 120 v.da), ?_, ?_⟩
 ·exact ift.of (fun hb => ⟨rfl, fun e => (nomatch e)⟩) fun hb => fL c1 (t := x.DA) rfl (large_ok h.da hA1 fun r h2 => ⟨rfl, fun e => ⟨h5 hb, h2 e⟩⟩)
 rintro b7 E ⟨rfl, h7⟩
 refine ⟨fun b E2 => E2 = E ∧ (b = false → (Sz 120 120 v.a ∧ Sz 120 120 v.da) ∧ Sz 120 120 v.b), ?_, ?_⟩
 ·exact ift.of (fun hb => ⟨rfl, fun e => (nomatch e)⟩) fun hb => fL c1 (t := x.B) rfl (large_ok h.b hA1 fun r h2 => ⟨rfl, fun e => ⟨h7 hb, h2 e⟩⟩)
 rintro b16 E2 ⟨rfl, h16⟩
 refine ⟨fun b E3 => E3 = E2 ∧ (b = false → ((Sz 120 120 v.a ∧ Sz 120 120 v.da) ∧ Sz 120 120 v.b) ∧ Sz 120 120 v.db), ?_, ?_⟩
 ·exact ift.of (fun hb => ⟨rfl, fun e => (nomatch e)⟩) fun hb => fL c1 (t := x.DB) rfl (large_ok h.db hA1 fun r h2 => ⟨rfl, fun e => ⟨h16 hb, h2 e⟩⟩)
 rintro b25 E3 ⟨rfl, h25⟩
 refine ⟨fun b E4 => E4 = E3 ∧ (b = false → Bnd24 v), ?_, ?_⟩
 ·refine ift.of (fun hb => ⟨rfl, fun e => (nomatch e)⟩) fun hb => fL c1 (t := x.On) rfl ⟨rfl, fun e => ?_⟩
  obtain ⟨⟨⟨q1, q2⟩, q3⟩, q4⟩ := h25 hb
  have := of_decide_eq_false e
  rw [h.on.len] at this
  exact ⟨q1, q2, q3, q4, by omega⟩
 rintro b34 E4 ⟨rfl, h34⟩
 exact ⟨H, Gh.le l1, k b34 h34⟩
theorem pairs_ok {s : Sl} {on : List Pr} {K : Sl → Heap → Prop} (h : PrL A s on) (hA : A.le H) (hn : on.length ≤ 1000) (k : ∀ r D, H.le D → PrL D r on → K r D) : c_law24_pairs C s K H := by
 apply ad_law24_pairs
 unfold sh_law24_pairs
 refine ⟨fun x D => ∃ (i : Nat) (ys : List T_delta_Pair), x.2 = (i : Int) ∧ i ≤ on.length ∧ OwnF H D 2 x.1 (ys.flatMap T_delta_Pair.c) ∧ ys.length = i ∧ ∀ (j : Nat) (v : Pr) (y : T_delta_Pair), on[j]? = some v → ys[j]? = some y → PrIs v y, fun x _ => on.length - x.2.toNat, ⟨0, [], rfl, Nat.zero_le _, OwnF.nil H 2, rfl, fun j v y hv hy => by simp at hy⟩, ?_⟩
 rintro ⟨r, _⟩ D ⟨i, ys, rfl, hi, hO, hyl, hy⟩
 have hpl : ∀ zs : List T_delta_Pair, (zs.flatMap T_delta_Pair.c).length = zs.length * 2 := fun zs => by
  induction zs with
  | nil => rfl
  | cons z zs ih => rw [List.flatMap_cons, List.length_append, ih]; show 2 + _ = _; rw [List.length_cons]; omega
 have hsl : r.len = i := by have h1 : (ys.flatMap T_delta_Pair.c).length = r.len * 2 := hO.own.1; rw [hpl] at h1; omega
 have hAD := hA.trans hO.le
 rw [h.len]
 refine ift.of (fun hc => ?_) (fun hc => ?_)
 ·have hlt : i < on.length := by have := of_decide_eq_true hc; dsimp only at this; omega
  have hAo := hA.trans (Heap.le_off hO.le hO.fresh)
  refine ⟨D.off r, Heap.off_le _ _, SlIs.fI h hAo (z := 2) (fun _ => rfl) (by omega) rfl hlt (j := 0) (f := fun y => y.Left) (fun _ => rfl) fun y1 h1 => SlIs.fI h hAo (z := 2) (fun _ => rfl) (by omega) rfl hlt (j := 1) (f := fun y => y.Right) (fun _ => rfl) fun y2 h2 => ?_⟩
  intro b nb
  have lb := Heap.le_put nb (g := .row (T_delta_Pair.c (⟨y1.Left, y2.Right⟩ : T_delta_Pair) ++ [])) (m := true)
  refine ⟨(Heap.off_le _ _).trans lb, ?_⟩
  have hO2 := hO.up lb
  refine apS_ownF (zc := T_delta_Pair.c T_delta_Pair.zero) hO2.own.off (ys := T_delta_Pair.c (⟨y1.Left, y2.Right⟩ : T_delta_Pair)) (.inr ⟨rfl, _, rfl, rds_row (Heap.put_same ..) fun j v hj => by simpa using hj⟩) rfl (fun u hu => ?_) (by show (r.len + 1) * 16 ≤ _; omega) (by show r.len + 1 ≤ _; omega) fun r2 D2 q1 q2 => ?_
  ·simp only [T_delta_Pair.c, List.mem_cons, List.not_mem_nil, or_false] at hu
   rcases hu with rfl | rfl <;> rfl
  refine ⟨(off_up lb).trans q1.le, ?_⟩
  rw [w_i64 (by dsimp only; omega) (by dsimp only; omega)]
  refine ⟨⟨i + 1, ys ++ [(⟨y1.Left, y2.Right⟩ : T_delta_Pair)], by dsimp only; omega, by omega, ?_, by simp [hyl], fun j v y hv hy2 => ?_⟩, by first | omega | (dsimp only; omega)⟩
  ·rw [List.flatMap_append]
   exact q1.down (Heap.le_off hO2.le hO2.fresh)
  ·by_cases hj : j < ys.length
   ·rw [List.getElem?_append_left hj] at hy2
    exact hy j v y hv hy2
   ·have hjl := (List.getElem?_eq_some_iff.1 hy2).1
    rw [List.length_append, List.length_singleton] at hjl
    have hje : j = i := by omega
    subst hje
    rw [List.getElem?_append_right (by omega), hyl, Nat.sub_self] at hy2
    simp only [List.getElem?_cons_zero, Option.some.injEq] at hy2
    rw [List.getElem?_eq_getElem hlt] at hv
    have hv := Option.some.inj hv
    subst hv; subst hy2
    exact ⟨h1.1, h2.2⟩
 ·have hie : i = on.length := by have := of_decide_eq_false hc; dsimp only at this; omega
  subst hie
  exact k r D hO.le ⟨ys, hO.own.rdsl, by omega, hyl.symm, by omega, fun j v y hv hy2 => hy j v y hv hy2⟩
theorem plus_ok {sa sb : Sl} {a b : List En} {K : Sl → Heap → Prop} (ha : EnL H sa a) (hb : EnL H sb b) (hn : a.length + b.length ≤ 1000000) (hz : ∀ e ∈ a ++ b, vsizes e.1 ≤ 1000000) (h0 : errE (a ++ b) = 0) (k : ∀ r ys D, OgE H D (clnE (a ++ b)) r ys → K r D) : c_law24_plus C sa sb K H := by
 apply ad_law24_plus
 unfold sh_law24_plus
 refine pAddF ha hb hn hz fun r ys D g => ?_
 rw [h0]
 exact ift_neg rfl (k r ys D g)
end
end Sx
end

noncomputable section
set_option linter.unusedVariables false
set_option linter.unusedSimpArgs false
set_option maxRecDepth 10000
namespace Sx
open Go Go.Proofs
theorem join_small {on : List Pr} {a b : List En} (ha : errE a = 0) (hb : errE b = 0) (h : errE (joinP on a b) = 0) : joinR on a b = 0 ∧ joinL on a b = clnE (joinP on a b) := by
 unfold joinR joinL err2; simp [ha, hb, h]
theorem anti_small {on : List Pr} {a b : List En} (ha : errE a = 0) (hb : errE b = 0) : antiR a b = 0 ∧ antiL on a b = antiP on a b := by
 unfold antiR antiL err2; simp [ha, hb]
theorem jc_small {on : List Pr} {a da b db : List En} (hp : partsE a da b db = 0) (h1 : errE (joinP on a b) = 0) (h2 : errE (joinP on (a ++ da) (b ++ db)) = 0) (h3 : errE (clnE (joinP on (a ++ da) (b ++ db)) ++ negL (clnE (joinP on a b))) = 0) :
 jcR on a da b db = 0 ∧ jcL on a da b db = clnE (clnE (joinP on (a ++ da) (b ++ db)) ++ negL (clnE (joinP on a b))) := by
 unfold jcR jcL; simp [hp, h1, h2, h3]
theorem ac_small {on : List Pr} {a da b db : List En} (hp : partsE a da b db = 0) (h : errE (acW on a da b db) = 0) : acR on a da b db = 0 ∧ acL on a da b db = clnE (acW on a da b db) := by
 unfold acR acL; simp [hp, h]
theorem dc_small {a da : List En} (hp : partsE a da [] [] = 0) (h : errE (chgE a da) = 0) : dcR a da = 0 ∧ dcL a da = clnE (chgE a da) := by
 unfold dcR dcL; simp [hp, h]
/-- the entries of a changed join, small -/
noncomputable def jcD (on : List Pr) (a da b db : List En) : List En := clnE (joinP on (a ++ da) (b ++ db)) ++ negL (clnE (joinP on a b))
theorem jcD_tot {on : List Pr} {a da b db : List En} (h1 : errE (joinP on a b) = 0) (h2 : errE (joinP on (a ++ da) (b ++ db)) = 0) (r : List V) : totE (jcD on a da b db) r = totE (joinP on (a ++ da) (b ++ db)) r - totE (joinP on a b) r := by
 unfold jcD; rw [totE_append, totE_negL, cln_tot h2, cln_tot h1]; omega
theorem acW_tot (on : List Pr) (a da b db : List En) (r : List V) : totE (acW on a da b db) r = totE (antiP on (a ++ da) (b ++ db)) r - totE (antiP on a b) r := by
 unfold acW; rw [totE_append, totE_negL]; omega
section
variable {C : Ctx} {H A : Heap}
theorem okA {a b : List En} (ha : ∀ e ∈ a, okE e) (hb : ∀ e ∈ b, okE e) : ∀ e ∈ a ++ b, okE e := fun e he => by
 rcases List.mem_append.1 he with he | he
 ·exact ha e he
 ·exact hb e he
theorem okJ {on : List Pr} {a b : List En} (ha : ∀ e ∈ a, okE e ∧ vsizes e.1 ≤ 1000) (hb : ∀ e ∈ b, okE e ∧ vsizes e.1 ≤ 1000) : ∀ e ∈ clnE (joinP on a b), okE e := fun e he => by
 have h1 := of_outE (cln_ok e he).2
 obtain ⟨_, ⟨x, hx, hr⟩, _, _⟩ := cln_mem he
 obtain ⟨p, hp, q, hq, rfl⟩ := pair_mem hx
 obtain ⟨_, ⟨p2, hp2, hpr⟩, _, _⟩ := cln_mem hp
 obtain ⟨_, ⟨q2, hq2, hqr⟩, _, _⟩ := cln_mem hq
 have k1 := ha p2 hp2
 have k2 := hb q2 hq2
 have v1 := vsizes_len p2.1
 have v2 := vsizes_len q2.1
 unfold okE at *
 rw [← hr]
 dsimp only
 rw [← hpr, ← hqr]
 exact ⟨vbs_append k1.1.1 k2.1.1, by rw [List.length_append]; omega, by omega, by omega⟩
theorem okNg {l : List En} (h : ∀ e ∈ clnE l, okE e) : ∀ e ∈ negL (clnE l), okE e := fun e he => by
 obtain ⟨x, hx, rfl⟩ := List.mem_map.1 he
 have h1 := of_outE (cln_ok x hx).2
 have h2 := h x hx
 exact ⟨h2.1, h2.2.1, by dsimp only; omega, by dsimp only; omega⟩
theorem okS {l : List En} {n : Nat} (h : ∀ e ∈ l, okE e) (hs : Sz n 1000 l) : ∀ e ∈ l, okE e ∧ vsizes e.1 ≤ 1000 := fun e he => ⟨h e he, hs.2 e he⟩
theorem okAnti {on : List Pr} {a b : List En} (ha : ∀ e ∈ a, okE e) : ∀ e ∈ antiP on a b, okE e := fun e he => cln_okE ha e (List.mem_filter.1 he).1
theorem okNn {l : List En} (h : ∀ e ∈ l, okE e) (hr : ∀ e ∈ l, outE e.2 = false) : ∀ e ∈ negL l, okE e := fun e he => by
 obtain ⟨x, hx, rfl⟩ := List.mem_map.1 he
 have h1 := of_outE (hr x hx)
 have h2 := h x hx
 exact ⟨h2.1, h2.2.1, by dsimp only; omega, by dsimp only; omega⟩
theorem okAc {on : List Pr} {a da b db : List En} (ha : ∀ e ∈ a, okE e) (hda : ∀ e ∈ da, okE e) : ∀ e ∈ acW on a da b db, okE e :=
 okA (okAnti (okA ha hda)) (okNn (okAnti ha) fun e he => (cln_ok e (List.mem_filter.1 he).1).2)
theorem Sz.anti {m n : Nat} {on : List Pr} {a b : List En} (h : Sz m n a) : Sz m n (antiP on a b) := h.cln.none
theorem Sz.joinP {m m2 n n2 : Nat} {on : List Pr} {a b : List En} (h : Sz m n a) (h2 : Sz m2 n2 b) : Sz (m * m2) (n + n2) (Sx.joinP on a b) := h.cln.pair h2.cln
end
end Sx
end

noncomputable section
set_option linter.unusedVariables false
set_option linter.unusedSimpArgs false
set_option maxRecDepth 10000
namespace Sx
open Go Go.Proofs
section
variable {C : Ctx} {H A : Heap}
theorem DeltaTwice_ok (hF : FmtC C) (hw : ∀ {K : Bool → Heap → Prop} {H : Heap}, (∀ H2, H.le H2 → K true H2) → c_law24_awake C K H) {v : CaseV} {x : T_law24_Case} {sm : Sl} {dc : List En} {K : Bool → Heap → Prop} (hx : CaseIs H v x) (hm : EnL H sm dc) (k : ∀ H2, K true H2) : c_law24_DeltaTwice C x sm K H := by
 apply ad_law24_DeltaTwice
 unfold sh_law24_DeltaTwice
 intro b1 n1
 have l1 := Heap.le_put n1 (g := .row (T_law24_Case.c x)) (m := true)
 have c1 : (H.put b1 (.row (T_law24_Case.c x))) b1 = some (true, .row (T_law24_Case.c x)) := Heap.put_same ..
 generalize H.put b1 (.row (T_law24_Case.c x)) = H2 at *
 refine bxT (c := T_law24_Case.c) c1 ?_
 refine Case_large_ok (hx.le l1) (Heap.le.refl _) fun r5 h5 => ?_
 refine ⟨fun b E => E = H2 ∧ (b = false → Bnd24 v ∧ Sz 120 120 dc), ?_, ?_⟩
 ·exact ift.of (fun _ => ⟨rfl, fun e => (nomatch e)⟩) (fun hb => large_ok (hm.le l1) (Heap.le.refl _) fun r h2 => ⟨rfl, fun e => ⟨h5 hb, h2 e⟩⟩)
 rintro b0 E0 ⟨rfl, h0⟩
 refine ⟨fun b E => E0.le E ∧ (b = false → Bnd24 v ∧ Sz 120 120 dc), ?_, ?_⟩
 ·exact ift.of (fun _ => ⟨Heap.le.refl _, fun e => (nomatch e)⟩) (fun hb => hw fun H3 h3 => ⟨h3, fun _ => h0 hb⟩)
 rintro b7 E ⟨lE, h7⟩
 refine ift.of (fun _ => hw fun H3 _ => k H3) (fun hb7 => ?_)
 obtain ⟨hB, hDC⟩ := h7 hb7
 have c1 := lE _ _ c1
 have hx := hx.le (l1.trans lE)
 have hm := hm.le (l1.trans lE)
 refine fL c1 (t := x.A) rfl (small_ok hx.a (Heap.le.refl _) fun r19 s1 => ?_)
 refine ⟨fun b E2 => E2 = E ∧ (b = false → (∀ e ∈ v.a, small24 e) ∧ ∀ e ∈ v.da, small24 e), ?_, ?_⟩
 ·exact ift.of (fun _ => ⟨rfl, fun e => (nomatch e)⟩) (fun h => fL c1 (t := x.DA) rfl (small_ok hx.da (Heap.le.refl _) fun r s2 => ⟨rfl, fun e => ⟨s1 (by simpa using h), s2 (by simpa using e)⟩⟩))
 rintro b21 E2 ⟨rfl, h21⟩
 refine ⟨fun b E3 => E3 = E2 ∧ (b = false → ((∀ e ∈ v.a, small24 e) ∧ ∀ e ∈ v.da, small24 e) ∧ ∀ e ∈ v.b, small24 e), ?_, ?_⟩
 ·exact ift.of (fun _ => ⟨rfl, fun e => (nomatch e)⟩) (fun h => fL c1 (t := x.B) rfl (small_ok hx.b (Heap.le.refl _) fun r s2 => ⟨rfl, fun e => ⟨h21 h, s2 (by simpa using e)⟩⟩))
 rintro b30 E3 ⟨rfl, h30⟩
 refine ⟨fun b E4 => E4 = E3 ∧ (b = false → (((∀ e ∈ v.a, small24 e) ∧ ∀ e ∈ v.da, small24 e) ∧ ∀ e ∈ v.b, small24 e) ∧ ∀ e ∈ v.db, small24 e), ?_, ?_⟩
 ·exact ift.of (fun _ => ⟨rfl, fun e => (nomatch e)⟩) (fun h => fL c1 (t := x.DB) rfl (small_ok hx.db (Heap.le.refl _) fun r s2 => ⟨rfl, fun e => ⟨h30 h, s2 (by simpa using e)⟩⟩))
 rintro b39 E4 ⟨rfl, h39⟩
 refine ⟨fun b E5 => E5 = E4 ∧ (b = false → ((((∀ e ∈ v.a, small24 e) ∧ ∀ e ∈ v.da, small24 e) ∧ ∀ e ∈ v.b, small24 e) ∧ ∀ e ∈ v.db, small24 e) ∧ ∀ e ∈ dc, small24 e), ?_, ?_⟩
 ·exact ift.of (fun _ => ⟨rfl, fun e => (nomatch e)⟩) (fun h => small_ok hm (Heap.le.refl _) fun r s2 => ⟨rfl, fun e => ⟨h39 h, s2 (by simpa using e)⟩⟩)
 rintro b48 E5 ⟨rfl, h48⟩
 refine ift.of (fun _ => k _) (fun hb48 => ?_)
 obtain ⟨⟨⟨⟨sa, sda⟩, sb⟩, sdb⟩, sdc⟩ := h48 hb48
 have ma := small_sm sa hB.a.1
 have mda := small_sm sda hB.da.1
 have mb := small_sm sb hB.b.1
 have mdb := small_sm sdb hB.db.1
 have mdc := small_sm sdc hDC.1
 have up : ∀ {l : List En}, Sz 120 120 l → Sz 500 500 l := fun h => h.up (by omega) (by omega)
 have up2 : ∀ {m n : Nat} {l : List En}, Sz m n l → m ≤ 250 → n ≤ 250 → Sz 250 250 l := fun h h1 h2 => h.up h1 h2
 have vz : ∀ {l : List En}, Sz 120 120 l → ∀ e ∈ l, vsizes e.1 ≤ 1000000 := fun h e he => by have := h.2 e he; omega
 have za := hB.a.1
 have zda := hB.da.1
 have zb := hB.b.1
 have zdb := hB.db.1
 have zdc := hDC.1
 refine ⟨E5, Heap.le.refl _, fL c1 (t := x.A) rfl (fL c1 (t := x.DA) rfl (fL c1 (t := x.B) rfl (fL c1 (t := x.DB) rfl (fL c1 (t := x.On) rfl ?_))))⟩
 refine given_ok hx.a (Heap.le.refl _) (by omega) (vz hB.a) fun ra ya H52 g1 => ⟨g1.own.le, ?_⟩
 refine given_ok hx.da g1.own.le (by omega) (vz hB.da) fun rd yd H55 g2 => ⟨g1.own.le.trans g2.own.le, ?_⟩
 refine given_ok hx.b (g1.own.le.trans g2.own.le) (by omega) (vz hB.b) fun rb yb H58 g3 => ⟨(g1.own.le.trans g2.own.le).trans g3.own.le, ?_⟩
 have l58 := (g1.own.le.trans g2.own.le).trans g3.own.le
 refine given_ok hx.db l58 (by omega) (vz hB.db) fun re ye H59 g4 => ⟨l58.trans g4.own.le, ?_⟩
 have l59 := l58.trans g4.own.le
 refine given_ok hm l59 (by omega) (vz hDC) fun rc yc H60 g5 => ⟨l59.trans g5.own.le, ?_⟩
 have l60 := l59.trans g5.own.le
 refine pairs_ok hx.on l60 (by have := hB.on; omega) fun rn H61 l61 hn => ⟨l60.trans l61, ?_⟩
 have ea : EnL H61 ra v.a := (g1.en hx.a.oks (by omega)).le ((((g2.own.le.trans g3.own.le).trans g4.own.le).trans g5.own.le).trans l61)
 have ed : EnL H61 rd v.da := (g2.en hx.da.oks (by omega)).le (((g3.own.le.trans g4.own.le).trans g5.own.le).trans l61)
 have eb : EnL H61 rb v.b := (g3.en hx.b.oks (by omega)).le ((g4.own.le.trans g5.own.le).trans l61)
 have ee : EnL H61 re v.db := (g4.en hx.db.oks (by omega)).le (g5.own.le.trans l61)
 have ec : EnL H61 rc dc := (g5.en hm.oks (by omega)).le l61
 have hon : v.on.length ≤ 1000 := by have := hB.on; omega
 have e1 := ma.err (by omega)
 have e2 := mda.err (by omega)
 have e3 := mb.err (by omega)
 have e5 := (ma.app mda).err (by omega)
 have e6 := (mb.app mdb).err (by omega)
 have e7 := (mda.app mdc).err (by omega)
 -- the three lists of sums
 have zA := hB.a.app hB.da
 have zB := hB.b.app hB.db
 have zC := hB.da.app hDC
 have mx := (ma.app mda).cln
 have my := (mb.app mdb).cln
 have mz := (mda.app mdc).cln
 have okx := cln_okE (okA ea.oks ed.oks)
 have oky := cln_okE (okA eb.oks ee.oks)
 have okz := cln_okE (okA ed.oks ec.oks)
 have zA2 := zA.cln
 have zB2 := zB.cln
 have zC2 := zC.cln
 have zA1 := zA2.1
 have zB1 := zB2.1
 have zC1 := zC2.1
 -- all at once, and step by step
 have m3 := (ma.app mda).app mdc
 have e3' := m3.err (by omega)
 have hxc : clnE (clnE (v.a ++ v.da) ++ dc) = clnE (v.a ++ v.da ++ dc) := cln_app1 e5 e3' ((mx.app mdc).err (by omega))
 have hac : clnE (v.a ++ clnE (v.da ++ dc)) = clnE (v.a ++ v.da ++ dc) := by
  have := cln_app2 (a := v.a) e7 (by rw [← List.append_assoc]; exact e3') ((ma.app mz).err (by omega))
  rw [this, List.append_assoc]
 have hbn : clnE (clnE (v.b ++ v.db) ++ []) = clnE (v.b ++ v.db) := by rw [List.append_nil]; exact (cln_cln _).2
 have hxx : clnE (clnE (v.a ++ v.da)) = clnE (v.a ++ v.da) := (cln_cln _).2
 have hyy : clnE (clnE (v.b ++ v.db)) = clnE (v.b ++ v.db) := (cln_cln _).2
 have p0 := parts_small ma Sm.nil mb Sm.nil (by omega) (by omega) (by omega) (by omega) (by omega) (by omega)
 have p1 := parts_small ma mda mb mdb (by omega) (by omega) (by omega) (by omega) (by omega) (by omega)
 have p2 := parts_small mx mdc my Sm.nil (by omega) (by omega) (by omega) (by omega) (by omega) (by omega)
 have p3 := parts_small ma mz mb mdb (by omega) (by omega) (by omega) (by omega) (by omega) (by omega)
 -- joins
 have J0 : Sm (joinP v.on v.a v.b) 144000000 := (ma.join v.on mb).up (by omega)
 have J1 : Sm (joinP v.on (v.a ++ v.da) (v.b ++ v.db)) 576000000 := ((ma.app mda).join v.on (mb.app mdb)).up (by omega)
 have J2 : Sm (joinP v.on (v.a ++ v.da ++ dc) (v.b ++ v.db)) 864000000 := (m3.join v.on (mb.app mdb)).up (by omega)
 have hj00 : joinP v.on (v.a ++ []) (v.b ++ []) = joinP v.on v.a v.b := by rw [List.append_nil, List.append_nil]
 have hj1 : joinP v.on (clnE (v.a ++ v.da)) (clnE (v.b ++ v.db)) = joinP v.on (v.a ++ v.da) (v.b ++ v.db) := joinP_eq hxx hyy
 have hj2 : joinP v.on (clnE (v.a ++ v.da) ++ dc) (clnE (v.b ++ v.db) ++ []) = joinP v.on (v.a ++ v.da ++ dc) (v.b ++ v.db) := joinP_eq hxc hbn
 have hj3 : joinP v.on (v.a ++ clnE (v.da ++ dc)) (v.b ++ v.db) = joinP v.on (v.a ++ v.da ++ dc) (v.b ++ v.db) := joinP_eq hac rfl
 have d0 : errE (jcD v.on v.a [] v.b []) = 0 := by unfold jcD; rw [hj00]; exact (J0.cln.app J0.cln.neg).err (by omega)
 have d1 : errE (jcD v.on v.a v.da v.b v.db) = 0 := (J1.cln.app J0.cln.neg).err (by omega)
 have d2 : errE (jcD v.on (clnE (v.a ++ v.da)) dc (clnE (v.b ++ v.db)) []) = 0 := by unfold jcD; rw [hj1, hj2]; exact (J2.cln.app J1.cln.neg).err (by omega)
 have d3 : errE (jcD v.on v.a (clnE (v.da ++ dc)) v.b v.db) = 0 := by unfold jcD; rw [hj3]; exact (J2.cln.app J0.cln.neg).err (by omega)
 have c0 := jc_small (on := v.on) p0 (J0.err (by omega)) (by rw [hj00]; exact J0.err (by omega)) d0
 have cc1 := jc_small (on := v.on) p1 (J0.err (by omega)) (J1.err (by omega)) d1
 have c2 := jc_small (on := v.on) p2 (by rw [hj1]; exact J1.err (by omega)) (by rw [hj2]; exact J2.err (by omega)) d2
 have c3 := jc_small (on := v.on) p3 (J0.err (by omega)) (by rw [hj3]; exact J2.err (by omega)) d3
 have n0 : clnE (jcD v.on v.a [] v.b []) = [] := by
  obtain ⟨h1, h2⟩ := cln_sum d0
  rw [h2]
  refine nz_none h1 fun r => ?_
  have h3 := jcD_tot (on := v.on) (a := v.a) (da := []) (b := v.b) (db := []) (J0.err (by omega)) (by rw [hj00]; exact J0.err (by omega)) r
  rw [h3, hj00]; omega
 have tt1 := fun r => jcD_tot (on := v.on) (a := v.a) (da := v.da) (b := v.b) (db := v.db) (J0.err (by omega)) (J1.err (by omega)) r
 have tt2 := fun r => jcD_tot (on := v.on) (a := clnE (v.a ++ v.da)) (da := dc) (b := clnE (v.b ++ v.db)) (db := []) (by rw [hj1]; exact J1.err (by omega)) (by rw [hj2]; exact J2.err (by omega)) r
 have tt3 := fun r => jcD_tot (on := v.on) (a := v.a) (da := clnE (v.da ++ dc)) (b := v.b) (db := v.db) (J0.err (by omega)) (by rw [hj3]; exact J2.err (by omega)) r
 have tJ := tele2 (X := jcD v.on v.a v.da v.b v.db) (Y := jcD v.on (clnE (v.a ++ v.da)) dc (clnE (v.b ++ v.db)) []) (Z := jcD v.on v.a (clnE (v.da ++ dc)) v.b v.db) d1 d2 d3 fun r => by
  rw [tt1, tt2, tt3, hj1, hj2, hj3]; omega
 -- antijoins
 have ha1 : antiP v.on (clnE (v.a ++ v.da)) (clnE (v.b ++ v.db)) = antiP v.on (v.a ++ v.da) (v.b ++ v.db) := antiP_eq hxx hyy
 have ha2 : antiP v.on (clnE (v.a ++ v.da) ++ dc) (clnE (v.b ++ v.db) ++ []) = antiP v.on (v.a ++ v.da ++ dc) (v.b ++ v.db) := antiP_eq hxc hbn
 have ha3 : antiP v.on (v.a ++ clnE (v.da ++ dc)) (v.b ++ v.db) = antiP v.on (v.a ++ v.da ++ dc) (v.b ++ v.db) := antiP_eq hac rfl
 have w1 : errE (acW v.on v.a v.da v.b v.db) = 0 := (((ma.app mda).anti v.on (v.b ++ v.db)).app ((ma.anti v.on v.b).neg)).err (by omega)
 have w2 : errE (acW v.on (clnE (v.a ++ v.da)) dc (clnE (v.b ++ v.db)) []) = 0 := (((mx.app mdc).anti v.on (clnE (v.b ++ v.db) ++ [])).app ((mx.anti v.on (clnE (v.b ++ v.db))).neg)).err (by omega)
 have w3 : errE (acW v.on v.a (clnE (v.da ++ dc)) v.b v.db) = 0 := (((ma.app mz).anti v.on (v.b ++ v.db)).app ((ma.anti v.on v.b).neg)).err (by omega)
 have a1 := ac_small (on := v.on) p1 w1
 have a2 := ac_small (on := v.on) p2 w2
 have a3 := ac_small (on := v.on) p3 w3
 have tA := tele2 (X := acW v.on v.a v.da v.b v.db) (Y := acW v.on (clnE (v.a ++ v.da)) dc (clnE (v.b ++ v.db)) []) (Z := acW v.on v.a (clnE (v.da ++ dc)) v.b v.db) w1 w2 w3 fun r => by
  rw [acW_tot, acW_tot, acW_tot, ha1, ha2, ha3]; omega
 have znil : Sz 250 250 ([] : List En) := ⟨by simp, fun e he => by simp at he⟩
 -- the walk
 refine JoinChange_ok hF ea EnL.nil eb EnL.nil hn (Heap.le.refl _) (up2 hB.a (by omega) (by omega)) znil (up2 hB.b (by omega) (by omega)) znil hon fun r93 y93 H95 q1 => ?_
 rw [c0.1]
 rw [c0.2] at q1
 have n93 : r93.len = 0 := by
  have := q1.slen
  rw [show clnE (clnE (joinP v.on (v.a ++ []) (v.b ++ [])) ++ negL (clnE (joinP v.on v.a v.b))) = [] from n0] at this
  exact this
 have l95 := q1.own.le
 refine AntiChange_ok hF ea ed eb ee hn l95 (up2 hB.a (by omega) (by omega)) (up2 hB.da (by omega) (by omega)) (up2 hB.b (by omega) (by omega)) (up2 hB.db (by omega) (by omega)) hon fun r96 y96 H98 q2 => ?_
 rw [a1.1]
 rw [a1.2] at q2
 have l98 := l95.trans q2.own.le
 refine plus_ok (ea.le l98) (ed.le l98) (by omega) (fun e he => by have := zA.2 e he; omega) e5 fun r99 y99 H100 q3 => ?_
 have l100 := l98.trans q3.own.le
 refine plus_ok (eb.le l100) (ee.le l100) (by omega) (fun e he => by have := zB.2 e he; omega) e6 fun r101 y101 H102 q4 => ?_
 have l102 := l100.trans q4.own.le
 have ex : EnL H102 r99 (clnE (v.a ++ v.da)) := (q3.en okx (by omega)).le q4.own.le
 have ey : EnL H102 r101 (clnE (v.b ++ v.db)) := q4.en oky (by omega)
 refine AntiChange_ok hF ex (ec.le l102) ey EnL.nil (hn.le l102) (Heap.le.refl _) (up2 zA2 (by omega) (by omega)) (up2 hDC (by omega) (by omega)) (up2 zB2 (by omega) (by omega)) znil hon fun r103 y103 H105 q5 => ?_
 rw [a2.1]
 rw [a2.2] at q5
 have l105 := l102.trans q5.own.le
 refine plus_ok (ed.le l105) (ec.le l105) (by omega) (fun e he => by have := zC.2 e he; omega) e7 fun r106 y106 H107 q6 => ?_
 have l107 := l105.trans q6.own.le
 have ez : EnL H107 r106 (clnE (v.da ++ dc)) := q6.en okz (by omega)
 refine AntiChange_ok hF (ea.le l107) ez (eb.le l107) (ee.le l107) (hn.le l107) (Heap.le.refl _) (up2 hB.a (by omega) (by omega)) (up2 zC2 (by omega) (by omega)) (up2 hB.b (by omega) (by omega)) (up2 hB.db (by omega) (by omega)) hon fun r108 y108 H110 q7 => ?_
 rw [a3.1]
 rw [a3.2] at q7
 have l110 := l107.trans q7.own.le
 have z96 : Sz 360 120 (clnE (acW v.on v.a v.da v.b v.db)) := (zA.anti.app (hB.a.anti (on := v.on) (b := v.b)).neg).cln
 have z103 : Sz 600 120 (clnE (acW v.on (clnE (v.a ++ v.da)) dc (clnE (v.b ++ v.db)) [])) := ((zA2.app hDC).anti.app (zA2.anti (on := v.on) (b := clnE (v.b ++ v.db))).neg).cln
 have z108 : Sz 480 120 (clnE (acW v.on v.a (clnE (v.da ++ dc)) v.b v.db)) := ((hB.a.app zC2).anti.app (hB.a.anti (on := v.on) (b := v.b)).neg).cln
 have k96 := z96.1
 have k103 := z103.1
 have k108 := z108.1
 have f96 : EnL H110 r96 (clnE (acW v.on v.a v.da v.b v.db)) := (q2.en (cln_okE (okAc ea.oks ed.oks)) (by omega)).le (q3.own.le.trans (q4.own.le.trans (q5.own.le.trans (q6.own.le.trans q7.own.le))))
 have f103 : EnL H110 r103 (clnE (acW v.on (clnE (v.a ++ v.da)) dc (clnE (v.b ++ v.db)) [])) := (q5.en (cln_okE (okAc okx ec.oks)) (by omega)).le (q6.own.le.trans q7.own.le)
 have f108 : EnL H110 r108 (clnE (acW v.on v.a (clnE (v.da ++ dc)) v.b v.db)) := q7.en (cln_okE (okAc ea.oks okz)) (by omega)
 refine ⟨fun b E6 => b = false ∧ H110.le E6, ift_neg (by rw [n93]; rfl) ?_, ?_⟩
 ·have zz := z96.app z103
  refine plus_ok f96 f103 (by omega) (fun e he => by have := zz.2 e he; omega) tA.1 fun r118 y118 H119 q8 => ?_
  rw [tA.2] at q8
  exact same_ok (q8.en (cln_okE (okAc ea.oks okz)) (by omega)) (f108.le q8.own.le) (Heap.le.refl _) rfl (by omega) fun H121 h121 => ⟨rfl, q8.own.le.trans h121⟩
 rintro b114 E6 ⟨rfl, l6⟩
 refine ift_neg rfl ?_
 have l122 := l110.trans l6
 have ea := ea.le l122
 have ed := ed.le l122
 have eb := eb.le l122
 have ee := ee.le l122
 have ec := ec.le l122
 have hn := hn.le l122
 refine JoinChange_ok hF ea ed eb ee hn (Heap.le.refl _) (up2 hB.a (by omega) (by omega)) (up2 hB.da (by omega) (by omega)) (up2 hB.b (by omega) (by omega)) (up2 hB.db (by omega) (by omega)) hon fun r124 y124 H126 q9 => ?_
 rw [cc1.1]
 rw [cc1.2] at q9
 have l126 := q9.own.le
 refine plus_ok (ea.le l126) (ed.le l126) (by omega) (fun e he => by have := zA.2 e he; omega) e5 fun r127 y127 H128 q10 => ?_
 have l128 := l126.trans q10.own.le
 refine plus_ok (eb.le l128) (ee.le l128) (by omega) (fun e he => by have := zB.2 e he; omega) e6 fun r129 y129 H130 q11 => ?_
 have l130 := l128.trans q11.own.le
 have ex : EnL H130 r127 (clnE (v.a ++ v.da)) := (q10.en okx (by omega)).le q11.own.le
 have ey : EnL H130 r129 (clnE (v.b ++ v.db)) := q11.en oky (by omega)
 refine JoinChange_ok hF ex (ec.le l130) ey EnL.nil (hn.le l130) (Heap.le.refl _) (up2 zA2 (by omega) (by omega)) (up2 hDC (by omega) (by omega)) (up2 zB2 (by omega) (by omega)) znil hon fun r131 y131 H133 q12 => ?_
 rw [c2.1]
 rw [c2.2] at q12
 have l133 := l130.trans q12.own.le
 refine plus_ok (ed.le l133) (ec.le l133) (by omega) (fun e he => by have := zC.2 e he; omega) e7 fun r134 y134 H135 q13 => ?_
 have l135 := l133.trans q13.own.le
 have ez : EnL H135 r134 (clnE (v.da ++ dc)) := q13.en okz (by omega)
 refine JoinChange_ok hF (ea.le l135) ez (eb.le l135) (ee.le l135) (hn.le l135) (Heap.le.refl _) (up2 hB.a (by omega) (by omega)) (up2 zC2 (by omega) (by omega)) (up2 hB.b (by omega) (by omega)) (up2 hB.db (by omega) (by omega)) hon fun r136 y136 H138 q14 => ?_
 rw [c3.1]
 rw [c3.2] at q14
 have l138 := l135.trans q14.own.le
 have s1 : ∀ e ∈ v.a, okE e ∧ vsizes e.1 ≤ 1000 := okS ea.oks (hB.a.up (Nat.le_refl _) (by omega))
 have s3 : ∀ e ∈ v.b, okE e ∧ vsizes e.1 ≤ 1000 := okS eb.oks (hB.b.up (Nat.le_refl _) (by omega))
 have s4 : ∀ e ∈ v.a ++ v.da, okE e ∧ vsizes e.1 ≤ 1000 := okS (okA ea.oks ed.oks) (zA.up (Nat.le_refl _) (by omega))
 have s5 : ∀ e ∈ v.b ++ v.db, okE e ∧ vsizes e.1 ≤ 1000 := okS (okA eb.oks ee.oks) (zB.up (Nat.le_refl _) (by omega))
 have s6 : ∀ e ∈ v.a ++ v.da ++ dc, okE e ∧ vsizes e.1 ≤ 1000 := okS (okA (okA ea.oks ed.oks) ec.oks) ((zA.app hDC).up (Nat.le_refl _) (by omega))
 have o0 : ∀ e ∈ clnE (joinP v.on v.a v.b), okE e := okJ s1 s3
 have o1 : ∀ e ∈ clnE (joinP v.on (v.a ++ v.da) (v.b ++ v.db)), okE e := okJ s4 s5
 have o2 : ∀ e ∈ clnE (joinP v.on (v.a ++ v.da ++ dc) (v.b ++ v.db)), okE e := okJ s6 s5
 have u0 : Sz 14400 240 (joinP v.on v.a v.b) := hB.a.joinP hB.b
 have u1 : Sz 57600 240 (joinP v.on (v.a ++ v.da) (v.b ++ v.db)) := zA.joinP zB
 have u2 : Sz 86400 240 (joinP v.on (v.a ++ v.da ++ dc) (v.b ++ v.db)) := (zA.app hDC).joinP zB
 have z1 : Sz 72000 240 (clnE (jcD v.on v.a v.da v.b v.db)) := (u1.cln.app u0.cln.neg).cln
 have z2 : Sz 144000 240 (clnE (jcD v.on (clnE (v.a ++ v.da)) dc (clnE (v.b ++ v.db)) [])) := by unfold jcD; rw [hj1, hj2]; exact (u2.cln.app u1.cln.neg).cln
 have z3 : Sz 100800 240 (clnE (jcD v.on v.a (clnE (v.da ++ dc)) v.b v.db)) := by unfold jcD; rw [hj3]; exact (u2.cln.app u0.cln.neg).cln
 have k1 := z1.1
 have k2 := z2.1
 have k3 := z3.1
 have x1 : ∀ e ∈ clnE (jcD v.on v.a v.da v.b v.db), okE e := cln_okE (okA o1 (okNg o0))
 have x2 : ∀ e ∈ clnE (jcD v.on (clnE (v.a ++ v.da)) dc (clnE (v.b ++ v.db)) []), okE e := by unfold jcD; rw [hj1, hj2]; exact cln_okE (okA o2 (okNg o1))
 have x3 : ∀ e ∈ clnE (jcD v.on v.a (clnE (v.da ++ dc)) v.b v.db), okE e := by unfold jcD; rw [hj3]; exact cln_okE (okA o2 (okNg o0))
 have f1 : EnL H138 r124 (clnE (jcD v.on v.a v.da v.b v.db)) := (q9.en x1 (show (clnE (jcD v.on v.a v.da v.b v.db)).length ≤ _ by omega)).le (q10.own.le.trans (q11.own.le.trans (q12.own.le.trans (q13.own.le.trans q14.own.le))))
 have f2 : EnL H138 r131 (clnE (jcD v.on (clnE (v.a ++ v.da)) dc (clnE (v.b ++ v.db)) [])) := (q12.en x2 (show (clnE (jcD v.on (clnE (v.a ++ v.da)) dc (clnE (v.b ++ v.db)) [])).length ≤ _ by omega)).le (q13.own.le.trans q14.own.le)
 have f3 : EnL H138 r136 (clnE (jcD v.on v.a (clnE (v.da ++ dc)) v.b v.db)) := q14.en x3 (show (clnE (jcD v.on v.a (clnE (v.da ++ dc)) v.b v.db)).length ≤ _ by omega)
 refine ⟨fun b E7 => b = true, ift_pos rfl ?_, ?_⟩
 ·have zz := z1.app z2
  refine plus_ok f1 f2 (by omega) (fun e he => by have := zz.2 e he; omega) tJ.1 fun r144 y144 H145 q15 => ?_
  rw [tJ.2] at q15
  exact same_ok (q15.en x3 (by omega)) (f3.le q15.own.le) (Heap.le.refl _) rfl (by omega) fun H147 _ => rfl
 rintro b140 E7 rfl
 exact k _
end
end Sx
end

noncomputable section
set_option linter.unusedVariables false
set_option linter.unusedSimpArgs false
set_option maxRecDepth 10000
namespace Sx
open Go Go.Proofs
def nV (n : Int) : V := .mk 2 n [] []
def tV (s : Str) : V := .mk 4 0 s []
def xA1 : List V := [nV 1, tV [120]]
def xA2 : List V := [nV 2, tV [121]]
def xB1 : List V := [nV 1]
def xB2 : List V := [nV 2]
def xA3 : List V := [nV 3, tV [122]]
def lA : List En := [(xA1, 2), (xA2, 1)]
def lB : List En := [(xB1, 3)]
def lDB : List En := [(xB2, 1)]
def lDA : List En := [(xA1, -2), (xA3, 5)]
def lBB : List En := [(xB1, 3), (xB2, 1)]
def lOn : List Pr := [(0, 0)]
def r11 : List V := [nV 1, tV [120], nV 1]
def r22 : List V := [nV 2, tV [121], nV 2]
def lW : List En := [(r11, 6)]
def lI : List En := [(r11, 6), (r22, 1)]
def lZ : List En := [(r22, 1)]
def lY : List En := [(xA2, 1)]
def lD : List En := [(xA1, -1), (xA3, 1)]
theorem cln_calc {es l : List En} (h : okB es = true) (hc : calcB es l = true) : errE es = 0 ∧ clnE es = l := by
 have h0 := err_iff.2 (okB_ok h)
 obtain ⟨h1, h2⟩ := cln_sum h0
 exact ⟨h0, by rw [h2]; exact nz_calc h1 hc⟩
theorem calcs : (okB lA = true ∧ calcB lA lA = true) ∧ (okB lB = true ∧ calcB lB lB = true) ∧ (okB lDB = true ∧ calcB lDB lDB = true) ∧ (okB lDA = true ∧ calcB lDA lDA = true) ∧ (okB (lB ++ lDB) = true ∧ calcB (lB ++ lDB) lBB = true) ∧ (okB lW = true ∧ calcB lW lW = true) ∧ (okB lI = true ∧ calcB lI lI = true) ∧
 (okB (lI ++ negL lW) = true ∧ calcB (lI ++ negL lW) lZ = true) ∧ (okB lY = true ∧ calcB lY lY = true) ∧ (okB (negL lY) = true ∧ calcB (negL lY) (negL lY) = true) ∧ (okB lD = true ∧ calcB lD lD = true) ∧ (okB (lA ++ lDA) = true) ∧ okB [] = true ∧ calcB [] [] = true := by decide +kernel
theorem pairs1 : pairE lOn lA lB = lW ∧ pairE lOn lA lBB = lI := ⟨by kernel_rfl, by kernel_rfl⟩
theorem none1 : noneE lOn lA (posE lB) = lY ∧ noneE lOn lA (posE lBB) = [] := ⟨by kernel_rfl, by kernel_rfl⟩
theorem ex_join : joinR lOn lA lB = 0 ∧ joinL lOn lA lB = lW := by
 obtain ⟨a, b, _, _, _, w, _⟩ := calcs
 obtain ⟨a1, a2⟩ := cln_calc a.1 a.2
 obtain ⟨b1, b2⟩ := cln_calc b.1 b.2
 obtain ⟨w1, w2⟩ := cln_calc w.1 w.2
 have hj : joinP lOn lA lB = lW := by unfold joinP; rw [a2, b2]; exact pairs1.1
 have := join_small (on := lOn) a1 b1 (by rw [hj]; exact w1)
 rw [hj, w2] at this; exact this
theorem ex_anti : antiR lA lB = 0 ∧ antiL lOn lA lB = lY := by
 obtain ⟨a, b, _⟩ := calcs
 obtain ⟨a1, a2⟩ := cln_calc a.1 a.2
 obtain ⟨b1, b2⟩ := cln_calc b.1 b.2
 have := anti_small (on := lOn) a1 b1
 have hj : antiP lOn lA lB = lY := by unfold antiP; rw [a2, b2]; exact none1.1
 rw [hj] at this; exact this
theorem ex_parts : partsE lA [] lB lDB = 0 ∧ partsE lA lDA [] [] = 0 := by
 obtain ⟨a, b, db, da, bb, _, _, _, _, _, _, ad, n, n2⟩ := calcs
 have a1 := (cln_calc a.1 a.2).1
 have b1 := (cln_calc b.1 b.2).1
 have d1 := (cln_calc db.1 db.2).1
 have e1 := (cln_calc da.1 da.2).1
 have f1 := (cln_calc bb.1 bb.2).1
 have n1 := (cln_calc n n2).1
 have g1 := err_iff.2 (okB_ok ad)
 unfold partsE
 refine ⟨?_, ?_⟩
 ·rw [if_neg (by simpa using a1), if_neg (by simpa using n1), if_neg (by simpa using b1), if_neg (by simpa using d1), if_neg (by rw [List.append_nil]; simpa using a1)]; exact f1
 ·rw [if_neg (by simpa using a1), if_neg (by simpa using e1), if_neg (by simpa using n1), if_neg (by simpa using n1), if_neg (by simpa using g1)]; exact n1
theorem ex_jc : jcR lOn lA [] lB lDB = 0 ∧ jcL lOn lA [] lB lDB = lZ := by
 obtain ⟨a, b, db, da, bb, w, i, iw, _⟩ := calcs
 obtain ⟨a1, a2⟩ := cln_calc a.1 a.2
 obtain ⟨b1, b2⟩ := cln_calc b.1 b.2
 obtain ⟨c1, c2⟩ := cln_calc bb.1 bb.2
 obtain ⟨w1, w2⟩ := cln_calc w.1 w.2
 obtain ⟨i1, i2⟩ := cln_calc i.1 i.2
 obtain ⟨z1, z2⟩ := cln_calc iw.1 iw.2
 have hw : joinP lOn lA lB = lW := by unfold joinP; rw [a2, b2]; exact pairs1.1
 have hi : joinP lOn (lA ++ []) (lB ++ lDB) = lI := by unfold joinP; rw [List.append_nil, a2, c2]; exact pairs1.2
 have := jc_small (on := lOn) ex_parts.1 (by rw [hw]; exact w1) (by rw [hi]; exact i1) (by rw [hi, hw, w2, i2]; exact z1)
 rw [hi, hw, w2, i2, z2] at this; exact this
theorem ex_ac : acR lOn lA [] lB lDB = 0 ∧ acL lOn lA [] lB lDB = negL lY := by
 obtain ⟨a, b, db, da, bb, w, i, iw, y, ny, _⟩ := calcs
 obtain ⟨a1, a2⟩ := cln_calc a.1 a.2
 obtain ⟨b1, b2⟩ := cln_calc b.1 b.2
 obtain ⟨c1, c2⟩ := cln_calc bb.1 bb.2
 obtain ⟨n1, n2⟩ := cln_calc ny.1 ny.2
 have hW : acW lOn lA [] lB lDB = negL lY := by
  unfold acW antiP; rw [List.append_nil, a2, b2, c2, none1.1, none1.2]; rfl
 have := ac_small (on := lOn) ex_parts.1 (by rw [hW]; exact n1)
 rw [hW, n2] at this; exact this
theorem ex_dc : dcR lA lDA = 0 ∧ dcL lA lDA = lD := by
 obtain ⟨a, b, db, da, bb, w, i, iw, y, ny, d, _⟩ := calcs
 obtain ⟨d1, d2⟩ := cln_calc da.1 da.2
 obtain ⟨l1, l2⟩ := cln_calc d.1 d.2
 have hC : chgE lA lDA = lD := by unfold chgE; rw [d2]; kernel_rfl
 have := dc_small ex_parts.2 (by rw [hC]; exact l1)
 rw [hC, l2] at this; exact this
theorem vbE : VBs xA1 ∧ VBs xA2 ∧ VBs xB1 ∧ VBs xB2 ∧ VBs xA3 ∧ VBs r11 ∧ VBs r22 := by
 have n : ∀ k : Int, 1 ≤ k → k ≤ 3 → VB (nV k) := fun k h1 h2 => ⟨⟨by omega, by omega⟩, ⟨by omega, by omega⟩, by simp, by simp, trivial⟩
 have t : ∀ c : UInt8, VB (tV [c]) := fun c => ⟨⟨by omega, by omega⟩, ⟨by omega, by omega⟩, by simp, by simp, trivial⟩
 exact ⟨⟨n 1 (by omega) (by omega), t _, trivial⟩, ⟨n 2 (by omega) (by omega), t _, trivial⟩, ⟨n 1 (by omega) (by omega), trivial⟩, ⟨n 2 (by omega) (by omega), trivial⟩, ⟨n 3 (by omega) (by omega), t _, trivial⟩, ⟨n 1 (by omega) (by omega), t _, n 1 (by omega) (by omega), trivial⟩, ⟨n 2 (by omega) (by omega), t _, n 2 (by omega) (by omega), trivial⟩⟩
section
variable {C : Ctx} {H A : Heap}
theorem nwK {cs : List Value} {K : Nat → Heap → Prop} (k : ∀ b E, H.le E → E b = some (true, .row cs) → K b E) : nw cs K H := fun b nb => k b _ (Heap.le_put nb) (Heap.put_same ..)
theorem num_ok {n : Int} {K : T_api_Value → Heap → Prop} (k : ∀ E, H.le E → K (⟨2, n, [], Sl.nil⟩ : T_api_Value) E) : c_law24_awake_1 C n K H := by
 apply ad_law24_awake_1
 unfold sh_law24_awake_1
 intro b nb
 refine nwT rfl ?_
 exact bxT (Heap.put_same ..) (k _ (Heap.le_put nb))
theorem txt_ok {s : Str} {K : T_api_Value → Heap → Prop} (k : ∀ E, H.le E → K (⟨4, 0, s, Sl.nil⟩ : T_api_Value) E) : c_law24_awake_2 C s K H := by
 apply ad_law24_awake_2
 unfold sh_law24_awake_2
 intro b nb
 refine nwT rfl ?_
 exact bxT (Heap.put_same ..) (k _ (Heap.le_put nb))
theorem visN (n : Int) : VIs H (nV n) (⟨2, n, [], Sl.nil⟩ : T_api_Value) := ⟨rfl, rfl, rfl, [], .inl rfl, rfl, trivial⟩
theorem visT (s : Str) : VIs H (tV s) (⟨4, 0, s, Sl.nil⟩ : T_api_Value) := ⟨rfl, rfl, rfl, [], .inl rfl, rfl, trivial⟩
theorem rowL {b n cap : Nat} {m : Bool} {xs : List TV} {vs : List V} {cs : List Value} (h : H b = some (m, .row cs)) (hc : cs = xs.flatMap T_api_Value.c ++ []) (hn : n = xs.length) (hv : VsAre H vs xs) : VRow H (Sl.of (some (b, 0)) n cap) vs := by
 subst hc
 exact ⟨xs, .inr ⟨rfl, _, rfl, rds_row h fun j v hj => by simpa using hj⟩, hn, hv⟩
theorem enE {s : Sl} {r : List V} {k : Int} (h : VRow H s r) (hB : VBs r) (hl : r.length ≤ 10) (hk : -9223372036854775808 ≤ k ∧ k < 9223372036854775808) : EnIs H (r, k) (⟨s, k⟩ : T_zset_Entry) := ⟨h, hB, by dsimp only; omega, rfl, hk⟩
theorem ens1 {b cap : Nat} {m : Bool} {s : Sl} {r : List V} {k : Int} (h : H b = some (m, .row (T_zset_Entry.c (⟨s, k⟩ : T_zset_Entry) ++ []))) (e : EnIs H (r, k) (⟨s, k⟩ : T_zset_Entry)) : EnL H (Sl.of (some (b, 0)) 1 cap) [(r, k)] :=
 lit_ens (xs := [⟨s, k⟩]) h rfl rfl rfl (by simp) fun i v x hv hx => by
  match i with
  | 0 => simp at hv hx; subst hv; subst hx; exact e
  | i + 1 => simp at hv
theorem ens2 {b cap : Nat} {m : Bool} {s s2 : Sl} {r r2 : List V} {k k2 : Int} (h : H b = some (m, .row (T_zset_Entry.c (⟨s, k⟩ : T_zset_Entry) ++ T_zset_Entry.c (⟨s2, k2⟩ : T_zset_Entry) ++ []))) (e : EnIs H (r, k) (⟨s, k⟩ : T_zset_Entry)) (e2 : EnIs H (r2, k2) (⟨s2, k2⟩ : T_zset_Entry)) :
 EnL H (Sl.of (some (b, 0)) 2 cap) [(r, k), (r2, k2)] :=
 lit_ens (xs := [⟨s, k⟩, ⟨s2, k2⟩]) h rfl rfl rfl (by simp) fun i v x hv hx => by
  match i with
  | 0 => simp at hv hx; subst hv; subst hx; exact e
  | 1 => simp at hv hx; subst hv; subst hx; exact e2
  | i + 2 => simp at hv
theorem on1 {b cap : Nat} {m : Bool} (h : H b = some (m, .row (T_delta_Pair.c (⟨0, 0⟩ : T_delta_Pair) ++ []))) : PrL H (Sl.of (some (b, 0)) 1 cap) lOn :=
 ⟨[⟨0, 0⟩], .inr ⟨rfl, _, rfl, rds_row h fun j v hj => by simpa using hj⟩, rfl, rfl, by simp [lOn], fun i v x hv hx => by
  match i with
  | 0 => simp [lOn] at hv hx; subst hv; subst hx; exact ⟨rfl, rfl⟩
  | i + 1 => simp [lOn] at hv⟩
theorem rowF {s : Sl} {l : List V} {i : Nat} {x : Int} {K : Int → Prop} (h : VRow A s l) (hA : A.le H) (hb : l.length ≤ 140737488355328) (hx : x = i) (hi : i < l.length) (k : K l[i].n) : ixa s x fun p => ldI H .i64 ((p.1, p.2 + x.toNat * 4).1, (p.1, p.2 + x.toNat * 4).2 + 1) K :=
 SlIs.fI (VLs h hb) hA (z := 4) (fun _ => rfl) (by omega) hx hi (j := 1) (f := fun y => y.N) (fun _ => rfl) fun y hy => by rw [(VIs_iff.1 hy).2.1]; exact k
theorem entN {s : Sl} {l : List En} {i : Nat} {x : Int} {K : Int → Prop} (h : EnL A s l) (hA : A.le H) (hx : x = i) (hi : i < l.length) (k : K l[i].2) : ixa s x fun p => ldI H .i64 ((p.1, p.2 + x.toNat * 2).1, (p.1, p.2 + x.toNat * 2).2 + 1) K :=
 SlIs.fI h hA (z := 2) (fun _ => rfl) (by omega) hx hi (j := 1) (f := fun y => y.N) (fun _ => rfl) fun y hy => by rw [hy.2.2.2.1]; exact k
theorem entR {s : Sl} {l : List En} {i : Nat} {x : Int} {K : Sl → Prop} (h : EnL A s l) (hA : A.le H) (hx : x = i) (hi : i < l.length) (k : ∀ t, VRow A t l[i].1 → K t) : ixa s x fun p => ldL H ((p.1, p.2 + x.toNat * 2).1, (p.1, p.2 + x.toNat * 2).2 + 0) K :=
 SlIs.fL h hA (z := 2) (fun _ => rfl) (by omega) hx hi (j := 0) (f := fun y => y.Row) (fun _ => rfl) fun y hy => k _ hy.1
theorem szB {l : List En} {n : Nat} (h : (l.all fun e => decide (vsizes e.1 ≤ 10)) = true) (hl : l.length ≤ 10) (hn : 10 ≤ n) : Sz n n l := ⟨by omega, fun e he => by have := of_decide_eq_true (List.all_eq_true.1 h e he); omega⟩
theorem awake_ok (hF : FmtC C) {K : Bool → Heap → Prop} (k : ∀ H2, H.le H2 → K true H2) : c_law24_awake C K H := by
 obtain ⟨vb1, vb2, vb3, vb4, vb5, vb6, vb7⟩ := vbE
 apply ad_law24_awake
 unfold sh_law24_awake
 refine num_ok fun E1 l1 => txt_ok fun E2 l2 => nwK fun b5 E3 l3 c5 => ?_
 refine num_ok fun E4 l4 => txt_ok fun E5 l5 => nwK fun b11 E6 l6 c11 => ?_
 refine nwK fun b13 E7 l7 c13 => ?_
 have R1 : VRow E7 (Sl.of (some (b5, 0)) 2 2) xA1 := (rowL (vs := xA1) (xs := [⟨2, 1, [], Sl.nil⟩, ⟨4, 0, [120], Sl.nil⟩]) c5 rfl rfl ⟨visN 1, visT _, trivial⟩).le (((l4.trans l5).trans l6).trans l7)
 have R2 : VRow E7 (Sl.of (some (b11, 0)) 2 2) xA2 := (rowL (vs := xA2) (xs := [⟨2, 2, [], Sl.nil⟩, ⟨4, 0, [121], Sl.nil⟩]) c11 rfl rfl ⟨visN 2, visT _, trivial⟩).le l7
 have LA : EnL E7 (Sl.of (some (b13, 0)) 2 2) lA := ens2 c13 (enE R1 vb1 (by decide) (by omega)) (enE R2 vb2 (by decide) (by omega))
 refine num_ok fun E8 l8 => nwK fun b17 E9 l9 c17 => nwK fun b19 E10 l10 c19 => ?_
 have LB : EnL E10 (Sl.of (some (b19, 0)) 1 1) lB := ens1 c19 (enE ((rowL (vs := xB1) (xs := [⟨2, 1, [], Sl.nil⟩]) c17 rfl rfl ⟨visN 1, trivial⟩).le l10) vb3 (by decide) (by omega))
 refine num_ok fun E11 l11 => nwK fun b23 E12 l12 c23 => nwK fun b25 E13 l13 c25 => ?_
 have LDB : EnL E13 (Sl.of (some (b25, 0)) 1 1) lDB := ens1 c25 (enE ((rowL (vs := xB2) (xs := [⟨2, 2, [], Sl.nil⟩]) c23 rfl rfl ⟨visN 2, trivial⟩).le l13) vb4 (by decide) (by omega))
 refine nwK fun b27 E14 l14 c27 => ?_
 have LON : PrL E14 (Sl.of (some (b27, 0)) 1 1) lOn := on1 c27
 have h714 := l8.trans (l9.trans (l10.trans (l11.trans (l12.trans (l13.trans l14)))))
 have LA := LA.le h714
 have LB := LB.le (l11.trans (l12.trans (l13.trans l14)))
 have LDB := LDB.le l14
 have h014 := (l1.trans (l2.trans (l3.trans (l4.trans (l5.trans (l6.trans l7)))))).trans h714
 have zA : ∀ {n : Nat}, 10 ≤ n → Sz n n lA := fun h => szB (by decide +kernel) (by decide) h
 have zB : ∀ {n : Nat}, 10 ≤ n → Sz n n lB := fun h => szB (by decide +kernel) (by decide) h
 have zDB : ∀ {n : Nat}, 10 ≤ n → Sz n n lDB := fun h => szB (by decide +kernel) (by decide) h
 have zDA : ∀ {n : Nat}, 10 ≤ n → Sz n n lDA := fun h => szB (by decide +kernel) (by decide) h
 have zN : ∀ {n : Nat}, 10 ≤ n → Sz n n ([] : List En) := fun h => szB (by decide +kernel) (by decide) h
 have o1 : ∀ {r : List V} {n : Int}, VBs r → r.length ≤ 10 → -10 ≤ n → n ≤ 10 → okE (r, n) := fun h1 h2 h3 h4 => ⟨h1, by dsimp only; omega, by dsimp only; omega, by dsimp only; omega⟩
 have one : ∀ {e : En}, okE e → ∀ x ∈ [e], okE x := fun {e} h x hx => by
  have hxe : x = e := by simpa using hx
  subst hxe; exact h
 refine Join_ok hF LA LB LON (Heap.le.refl _) (zA (by omega)) (zB (by omega)) (by decide) fun r29 y29 H31 q1 => ?_
 rw [ex_join.1]
 rw [ex_join.2] at q1
 have p31 := q1.own.le
 refine Anti_ok hF LA LB LON p31 (zA (by omega)) (zB (by omega)) (by decide) fun r32 y32 H34 q2 => ?_
 rw [ex_anti.1]
 rw [ex_anti.2] at q2
 have p34 := p31.trans q2.own.le
 refine JoinChange_ok hF LA EnL.nil LB LDB LON p34 (zA (by omega)) (zN (by omega)) (zB (by omega)) (zDB (by omega)) (by decide) fun r35 y35 H37 q3 => ?_
 rw [ex_jc.1]
 rw [ex_jc.2] at q3
 have p37 := p34.trans q3.own.le
 refine AntiChange_ok hF LA EnL.nil LB LDB LON p37 (zA (by omega)) (zN (by omega)) (zB (by omega)) (zDB (by omega)) (by decide) fun r38 y38 H40 q4 => ?_
 rw [ex_ac.1]
 rw [ex_ac.2] at q4
 have p40 := p37.trans q4.own.le
 refine ⟨H40, Heap.le.refl _, entR (LA.le p40) (Heap.le.refl _) (i := 0) rfl (by decide) fun x48 h48 => ?_⟩
 refine num_ok fun E52 l52 => ⟨l52, txt_ok fun E55 l55 => ⟨l52.trans l55, nwK fun b57 E58 l58 c57 => ⟨(l52.trans l55).trans l58, nwK fun b60 E61 l61 c60 => ⟨((l52.trans l55).trans l58).trans l61, ?_⟩⟩⟩⟩
 have p61 := ((l52.trans l55).trans l58).trans l61
 have LDA : EnL E61 (Sl.of (some (b60, 0)) 2 2) lDA := ens2 c60 (enE (h48.le p61) vb1 (by decide) (by omega)) (enE ((rowL (vs := xA3) (xs := [⟨2, 3, [], Sl.nil⟩, ⟨4, 0, [122], Sl.nil⟩]) c57 rfl rfl ⟨visN 3, visT _, trivial⟩).le l61) vb5 (by decide) (by omega))
 refine DistinctChange_ok hF (LA.le (p40.trans p61)) LDA (Heap.le.refl _) (zA (by omega)) (zDA (by omega)) fun r63 y63 H65 q5 => ⟨p61.trans q5.own.le, ?_⟩
 rw [ex_dc.1]
 rw [ex_dc.2] at q5
 have p65 := q5.own.le
 have a1 := ((q2.own.le.trans q3.own.le).trans q4.own.le).trans (p61.trans p65)
 have f1 : EnL H65 r29 lW := (q1.en (one (o1 vb6 (by decide) (by omega) (by omega))) (by decide)).le a1
 have f2 : EnL H65 r32 lY := (q2.en (one (o1 vb2 (by decide) (by omega) (by omega))) (by decide)).le ((q3.own.le.trans q4.own.le).trans (p61.trans p65))
 have f3 : EnL H65 r35 lZ := (q3.en (one (o1 vb7 (by decide) (by omega) (by omega))) (by decide)).le (q4.own.le.trans (p61.trans p65))
 have f4 : EnL H65 r38 (negL lY) := (q4.en (one (o1 vb2 (by decide) (by omega) (by omega))) (by decide)).le (p61.trans p65)
 have f5 : EnL H65 r63 lD := q5.en (fun x hx => by
  have : x = (xA1, -1) ∨ x = (xA3, 1) := by simpa [lD] using hx
  rcases this with rfl | rfl
  ·exact o1 vb1 (by decide) (by omega) (by omega)
  ·exact o1 vb5 (by decide) (by omega) (by omega)) (by decide)
 have hfin := (h014.trans p40).trans (p61.trans p65)
 have lr := Heap.le.refl H65
 refine ⟨fun b E => b = true ∧ H65 = E, ift_pos (by rw [f1.len]; rfl) (entN f1 lr (i := 0) rfl (by decide) ⟨rfl, rfl⟩), ?_⟩
 rintro _ _ ⟨rfl, rfl⟩
 refine ⟨fun b E => b = true ∧ H65 = E, ift_pos rfl (entR f1 lr (i := 0) rfl (by decide) fun t ht => ⟨by rw [ht.len]; rfl, rfl⟩), ?_⟩
 rintro _ _ ⟨rfl, rfl⟩
 refine ⟨fun b E => b = true ∧ H65 = E, ift_pos (by rw [f2.len]; rfl) (entR f2 lr (i := 0) rfl (by decide) fun t ht => rowF ht lr (by decide) (i := 0) rfl (by decide) ⟨rfl, rfl⟩), ?_⟩
 rintro _ _ ⟨rfl, rfl⟩
 refine ⟨fun b E => b = true ∧ H65 = E, ift_pos (by rw [f3.len]; rfl) (entN f3 lr (i := 0) rfl (by decide) ⟨rfl, rfl⟩), ?_⟩
 rintro _ _ ⟨rfl, rfl⟩
 refine ⟨fun b E => b = true ∧ H65 = E, ift_pos rfl (entR f3 lr (i := 0) rfl (by decide) fun t ht => rowF ht lr (by decide) (i := 2) rfl (by decide) ⟨rfl, rfl⟩), ?_⟩
 rintro _ _ ⟨rfl, rfl⟩
 refine ⟨fun b E => b = true ∧ H65 = E, ift_pos (by rw [f4.len]; rfl) (entN f4 lr (i := 0) rfl (by decide) ⟨rfl, rfl⟩), ?_⟩
 rintro _ _ ⟨rfl, rfl⟩
 refine ⟨fun b E => b = true ∧ H65 = E, ift_pos (by rw [f5.len]; rfl) (entN f5 lr (i := 0) rfl (by decide) ⟨rfl, rfl⟩), ?_⟩
 rintro _ _ ⟨rfl, rfl⟩
 refine ⟨fun b E => b = true ∧ H65 = E, ift_pos rfl (entN f5 lr (i := 1) rfl (by decide) ⟨rfl, rfl⟩), ?_⟩
 rintro _ _ ⟨rfl, rfl⟩
 exact k _ hfin
end
end Sx
end

noncomputable section
set_option linter.unusedVariables false
set_option linter.unusedSimpArgs false
set_option maxRecDepth 100000
namespace Sx
open Go Go.Proofs
section
variable {P : Program} {W : World}
theorem sl_of {α β : Type} {R : α → β → Prop} {c : β → List Value} {t e : TypeId} {z n : Nat} {cs : List Value} (h : TrW P W n t cs) (ht : P.underlying t = some (.slice e)) (hz : P.cellsOf e = z) (hz0 : 0 < z) (hb : 1 ≤ P.bytesOf e)
 (ih : ∀ m, m < n → ∀ cs, TrW P W m e cs → ∃ (v : α) (x : β), cs = c x ∧ R v x) : ∃ (s : Sl) (l : List α), cs = [slv s] ∧ SlIs R c (heapOf W) s l := by
 obtain ⟨s, css, m, hm, h1, h2, h3, h4, h5, h6, h7⟩ := h.slice ht hz hz0
 have key : ∀ (css : List (List Value)), (∀ c' ∈ css, ∃ (v : α) (x : β), c' = c x ∧ R v x) → ∃ (l : List α) (xs : List β), css.flatten = xs.flatMap c ∧ css.length = xs.length ∧ l.length = xs.length ∧ ∀ (i : Nat) (v : α) (x : β), l[i]? = some v → xs[i]? = some x → R v x := by
  intro css
  induction css with
  | nil => intro _; exact ⟨[], [], rfl, rfl, rfl, fun i v x hv => by simp at hv⟩
  | cons c' css ihc =>
   intro hh
   obtain ⟨v, x, g1, g2⟩ := hh c' (List.mem_cons_self ..)
   obtain ⟨l, xs, k1, k2, k3, k4⟩ := ihc fun c' hc => hh c' (List.mem_cons_of_mem _ hc)
   refine ⟨v :: l, x :: xs, by rw [List.flatten_cons, List.flatMap_cons, k1, g1], by simp [k2], by simp [k3], fun i v' x' hv hx => ?_⟩
   cases i with
   | zero => simp at hv hx; subst hv; subst hx; exact g2
   | succ i => exact k4 i v' x' (by simpa using hv) (by simpa using hx)
 obtain ⟨l, xs, k1, k2, k3, k4⟩ := key css fun c' hc => ih m hm c' (h7 c' hc).2
 have hmx : reachBytes = 140737488351232 := rfl
 rw [hmx] at h4
 have hsl : s.len ≤ 140737488351232 := Nat.le_trans (Nat.le_mul_of_pos_right _ (by omega)) h4
 exact ⟨s, l, h1, xs, by rw [← k1]; exact h6, by omega, k3, by omega, k4⟩
end
section
variable {W : World}
theorem valTE : ValT Tryz.prog 44 42 := ⟨⟨_, Tryz.underlying44, rfl, ⟨_, _, rfl, rfl, rfl, Tryz.underlying5, by kernel_rfl⟩, ⟨_, _, rfl, rfl, rfl, Tryz.underlying2, by kernel_rfl⟩, ⟨_, _, rfl, rfl, rfl, Tryz.underlying9, by kernel_rfl⟩, ⟨_, rfl, rfl, rfl, by kernel_rfl⟩⟩, by kernel_rfl, Tryz.underlying42⟩
theorem En_of (n : Nat) {cs : List Value} (h : TrW Tryz.prog W n 59 cs) : ∃ (v : En) (x : T_zset_Entry), cs = T_zset_Entry.c x ∧ EnIs (heapOf W) v x := by
 obtain ⟨hl, m, rfl, hf⟩ := h.struct Tryz.underlying59
 rw [show Tryz.prog.cellsOf 59 = 2 by kernel_rfl] at hl
 match cs, hl with
 | [q0, q1], _ =>
 have g0 : TrW Tryz.prog W m 42 (([q0, q1].drop 0).take (Tryz.prog.cellsOf 42)) := hf 0 _ rfl
 have g1 : TrW Tryz.prog W m 3 (([q0, q1].drop 1).take (Tryz.prog.cellsOf 3)) := hf 1 _ rfl
 rw [show Tryz.prog.cellsOf 42 = 1 by kernel_rfl] at g0
 rw [show Tryz.prog.cellsOf 3 = 1 by kernel_rfl] at g1
 replace g0 : TrW Tryz.prog W m 42 [q0] := g0
 replace g1 : TrW Tryz.prog W m 3 [q1] := g1
 obtain ⟨y1, r1, z1, v1, w1, u1⟩ := row_ofw valTE (of_decide_eq_true (by kernel_rfl)) g0
 obtain ⟨x1, e1, w2⟩ := g1.int Tryz.underlying3
 have hw : -9223372036854775808 ≤ x1 ∧ x1 ≤ 9223372036854775807 := by simpa [Lit.wf, IntKind.min, IntKind.max, IntKind.signed, IntKind.bits] using w2
 exact ⟨(r1, x1), ⟨y1, x1⟩, (show [q0, q1] = [q0] ++ [q1] from rfl).trans (by rw [z1, e1]; rfl), v1, w1, u1, rfl, hw.1, by show x1 < _; omega⟩
theorem argw_ens {H : Type} {enc : TypeId × Value → H} {base : Nat} {v : Value} {d : DataW H} {p : List MemPlace} (hv : Value.okWide Tryz.prog W .any base 22 v) (h : DataW.Trod enc Tryz.prog W 0 (fun _ => true) true 22 v d p) (hw : ∀ w ∈ d.weights Tryz.prog 22, w ≤ reachBytes) :
 ∃ (s : Sl) (a : List En), v = slv s ∧ EnL (heapOf W) s a := by
 obtain ⟨x, len, c, rfl⟩ := WideShapes.okWide_slice Tryz.underlying22 hv
 obtain ⟨n, hn⟩ := TrW.of h hw
 obtain ⟨s, a, h1, h2⟩ := sl_of (R := EnIs (heapOf W)) (c := T_zset_Entry.c) hn Tryz.underlying22 (show Tryz.prog.cellsOf 59 = 2 by kernel_rfl) (by omega) (of_decide_eq_true (by kernel_rfl)) (fun m hm cs hc => En_of m hc)
 refine ⟨s, a, ?_, h2⟩
 simpa [Value.cells] using h1
theorem Pair_of (n : Nat) {cs : List Value} (h : TrW Tryz.prog W n 60 cs) : ∃ (v : Pr) (x : T_delta_Pair), cs = T_delta_Pair.c x ∧ PrIs v x := by
 obtain ⟨hl, m, rfl, hf⟩ := h.struct Tryz.underlying60
 rw [show Tryz.prog.cellsOf 60 = 2 by kernel_rfl] at hl
 match cs, hl with
 | [q0, q1], _ =>
 have g0 : TrW Tryz.prog W m 3 (([q0, q1].drop 0).take (Tryz.prog.cellsOf 3)) := hf 0 _ rfl
 have g1 : TrW Tryz.prog W m 3 (([q0, q1].drop 1).take (Tryz.prog.cellsOf 3)) := hf 1 _ rfl
 rw [show Tryz.prog.cellsOf 3 = 1 by kernel_rfl] at g0 g1
 replace g0 : TrW Tryz.prog W m 3 [q0] := g0
 replace g1 : TrW Tryz.prog W m 3 [q1] := g1
 obtain ⟨x0, e0, _⟩ := g0.int Tryz.underlying3
 obtain ⟨x1, e1, _⟩ := g1.int Tryz.underlying3
 exact ⟨(x0, x1), ⟨x0, x1⟩, (show [q0, q1] = [q0] ++ [q1] from rfl).trans (by rw [e0, e1]; rfl), rfl, rfl⟩
theorem ens_of {n : Nat} {cs : List Value} (h : TrW Tryz.prog W n 22 cs) : ∃ (s : Sl) (l : List En), cs = [slv s] ∧ EnL (heapOf W) s l :=
 sl_of (R := EnIs (heapOf W)) (c := T_zset_Entry.c) h Tryz.underlying22 (show Tryz.prog.cellsOf 59 = 2 by kernel_rfl) (by omega) (of_decide_eq_true (by kernel_rfl)) (fun m hm cs hc => En_of m hc)
theorem prs_of {n : Nat} {cs : List Value} (h : TrW Tryz.prog W n 23 cs) : ∃ (s : Sl) (l : List Pr), cs = [slv s] ∧ PrL (heapOf W) s l :=
 sl_of (R := PrIs) (c := T_delta_Pair.c) h Tryz.underlying23 (show Tryz.prog.cellsOf 60 = 2 by kernel_rfl) (by omega) (of_decide_eq_true (by kernel_rfl)) (fun m hm cs hc => Pair_of m hc)
theorem Case_of (n : Nat) {cs : List Value} (h : TrW Tryz.prog W n 25 cs) : ∃ (v : CaseV) (x : T_law24_Case), cs = T_law24_Case.c x ∧ CaseIs (heapOf W) v x := by
 obtain ⟨hl, m, rfl, hf⟩ := h.struct Tryz.underlying25
 rw [show Tryz.prog.cellsOf 25 = 5 by kernel_rfl] at hl
 match cs, hl with
 | [q0, q1, q2, q3, q4], _ =>
 have g0 : TrW Tryz.prog W m 22 (([q0, q1, q2, q3, q4].drop 0).take (Tryz.prog.cellsOf 22)) := hf 0 _ rfl
 have g1 : TrW Tryz.prog W m 22 (([q0, q1, q2, q3, q4].drop 1).take (Tryz.prog.cellsOf 22)) := hf 1 _ rfl
 have g2 : TrW Tryz.prog W m 22 (([q0, q1, q2, q3, q4].drop 2).take (Tryz.prog.cellsOf 22)) := hf 2 _ rfl
 have g3 : TrW Tryz.prog W m 22 (([q0, q1, q2, q3, q4].drop 3).take (Tryz.prog.cellsOf 22)) := hf 3 _ rfl
 have g4 : TrW Tryz.prog W m 23 (([q0, q1, q2, q3, q4].drop 4).take (Tryz.prog.cellsOf 23)) := hf 4 _ rfl
 rw [show Tryz.prog.cellsOf 22 = 1 by kernel_rfl] at g0 g1 g2 g3
 rw [show Tryz.prog.cellsOf 23 = 1 by kernel_rfl] at g4
 replace g0 : TrW Tryz.prog W m 22 [q0] := g0
 replace g1 : TrW Tryz.prog W m 22 [q1] := g1
 replace g2 : TrW Tryz.prog W m 22 [q2] := g2
 replace g3 : TrW Tryz.prog W m 22 [q3] := g3
 replace g4 : TrW Tryz.prog W m 23 [q4] := g4
 obtain ⟨s0, l0, e0, r0⟩ := ens_of g0
 obtain ⟨s1, l1, e1, r1⟩ := ens_of g1
 obtain ⟨s2, l2, e2, r2⟩ := ens_of g2
 obtain ⟨s3, l3, e3, r3⟩ := ens_of g3
 obtain ⟨s4, l4, e4, r4⟩ := prs_of g4
 exact ⟨⟨l0, l1, l2, l3, l4⟩, ⟨s0, s1, s2, s3, s4⟩, (show [q0, q1, q2, q3, q4] = [q0] ++ ([q1] ++ ([q2] ++ ([q3] ++ [q4]))) from rfl).trans (by rw [e0, e1, e2, e3, e4]; rfl), r0, r1, r2, r3, r4⟩
theorem argw_case {H : Type} {enc : TypeId × Value → H} {base : Nat} {v : Value} {d : DataW H} {p : List MemPlace} (hv : Value.okWide Tryz.prog W .any base 25 v) (h : DataW.Trod enc Tryz.prog W 0 (fun _ => true) true 25 v d p) (hw : ∀ w ∈ d.weights Tryz.prog 25, w ≤ reachBytes) :
 ∃ (a : CaseV) (x : T_law24_Case), v = .agg (T_law24_Case.c x).toArray ∧ CaseIs (heapOf W) a x := by
 obtain ⟨cs, rfl, hl⟩ := WideShapes.okWide_struct Tryz.underlying25 hv
 obtain ⟨n, hn⟩ := TrW.of h hw
 obtain ⟨a, x, h1, h2⟩ := Case_of n hn
 refine ⟨a, x, ?_, h2⟩
 simp only [Value.cells] at h1
 rw [← h1]
end
end Sx
end

noncomputable section
namespace Sx
open Go Go.Proofs
theorem Law_all {C : Ctx} (hF : FmtC C) {H : Heap} {x : T_law24_Case} {v : CaseV} {s : Sl} {l : List En} (hx : CaseIs H v x) (hl : EnL H s l) : c_law24_DeltaTwice C x s (fun r _ => r = true) H :=
 DeltaTwice_ok hF (fun k => awake_ok hF k) hx hl fun _ => rfl
end Sx
end

