/-
  Texts of this family, one behind the other: ZsA, Zs23, EntR, RowI.
-/
import Derived.Test.YtcachkhmjjomkaaGreatDoorA5
noncomputable section
set_option linter.unusedVariables false
set_option linter.unusedSimpArgs false
set_option maxRecDepth 10000
namespace Sx
open Go Go.Proofs
def nV (n : Int) : V := .mk 2 n [] []
def r1E : List V := [nV 1]
def r2E : List V := [nV 2]
def esA1 : List En := [(r2E, 1), (r1E, 3), (r2E, -1), (r1E, -1)]
def esA2 : List En := [(r1E, 2), (r1E, -3), (r2E, 1)]
def esA3 : List En := [(r1E, -1), (r2E, 1)]
theorem esA_calc : calcB esA1 [(r1E, 2)] = true ∧ calcB esA2 esA3 = true ∧ calcB esA3 esA3 = true ∧ okB esA1 = true ∧ okB esA2 = true ∧ okB esA3 = true := by decide +kernel
theorem vbN {n : Int} (h : -9223372036854775808 ≤ n ∧ n ≤ 9223372036854775807) : VBs [nV n] := ⟨⟨⟨by omega, by omega⟩, h, by simp, by simp, trivial⟩, trivial⟩
section
variable {C : Ctx} {H : Heap}
theorem rowN {b cap : Nat} {m : Bool} {n : Int} (h : H b = some (m, .row (T_api_Value.c (⟨2, n, [], Sl.nil⟩ : T_api_Value) ++ []))) : VRow H (Sl.of (some (b, 0)) 1 cap) [nV n] :=
 ⟨[(⟨2, n, [], Sl.nil⟩ : T_api_Value)], .inr ⟨rfl, _, rfl, rds_row h fun j v hj => by simpa using hj⟩, rfl, ⟨rfl, rfl, rfl, [], .inl rfl, rfl, trivial⟩, trivial⟩
theorem enN {s : Sl} {n k : Int} (h : VRow H s [nV n]) (hn : -9223372036854775808 ≤ n ∧ n ≤ 9223372036854775807) (hk : -9223372036854775808 ≤ k ∧ k < 9223372036854775808) : EnIs H ([nV n], k) (⟨s, k⟩ : T_zset_Entry) :=
 ⟨h, vbN hn, by simp, rfl, hk⟩
theorem awake_ok {K : Bool → Heap → Prop} (k : ∀ H2, H.le H2 → K true H2) : c_law16_awake C K H := by
 obtain ⟨cA1, cA2, cA3, oA1, oA2, oA3⟩ := esA_calc
 apply ad_law16_awake
 unfold sh_law16_awake
 intro b1 n1 b3 n3 b5 n5
 have ne13 : b1 ≠ b3 := fun e => by rw [e, Heap.put_same] at n3; cases n3
 have l1 := Heap.le_put n1 (g := .row (T_api_Value.c (⟨2, 1, [], Sl.nil⟩ : T_api_Value) ++ [])) (m := true)
 have l3 := Heap.le_put n3 (g := .row (T_api_Value.c (⟨2, 2, [], Sl.nil⟩ : T_api_Value) ++ [])) (m := true)
 have c3 : ((H.put b1 (.row (T_api_Value.c (⟨2, 1, [], Sl.nil⟩ : T_api_Value) ++ []))).put b3 (.row (T_api_Value.c (⟨2, 2, [], Sl.nil⟩ : T_api_Value) ++ []))) b3 = some (true, .row (T_api_Value.c (⟨2, 2, [], Sl.nil⟩ : T_api_Value) ++ [])) := Heap.put_same ..
 have c1 : ((H.put b1 (.row (T_api_Value.c (⟨2, 1, [], Sl.nil⟩ : T_api_Value) ++ []))).put b3 (.row (T_api_Value.c (⟨2, 2, [], Sl.nil⟩ : T_api_Value) ++ []))) b1 = some (true, .row (T_api_Value.c (⟨2, 1, [], Sl.nil⟩ : T_api_Value) ++ [])) := by rw [Heap.put_ne _ _ _ ne13, Heap.put_same]
 have l13 := l1.trans l3
 generalize (H.put b1 (.row (T_api_Value.c (⟨2, 1, [], Sl.nil⟩ : T_api_Value) ++ []))).put b3 (.row (T_api_Value.c (⟨2, 2, [], Sl.nil⟩ : T_api_Value) ++ [])) = H4 at *
 have l5 := Heap.le_put n5 (g := .row ((T_zset_Entry.c (⟨(Sl.of (some (b3, 0)) 1 1), 1⟩ : T_zset_Entry)) ++ (T_zset_Entry.c (⟨(Sl.of (some (b1, 0)) 1 1), 3⟩ : T_zset_Entry)) ++ (T_zset_Entry.c (⟨(Sl.of (some (b3, 0)) 1 1), (-1)⟩ : T_zset_Entry)) ++ (T_zset_Entry.c (⟨(Sl.of (some (b1, 0)) 1 1), (-1)⟩ : T_zset_Entry)) ++ [])) (m := true)
 have qb5 : (H4.put b5 (.row ((T_zset_Entry.c (⟨(Sl.of (some (b3, 0)) 1 1), 1⟩ : T_zset_Entry)) ++ (T_zset_Entry.c (⟨(Sl.of (some (b1, 0)) 1 1), 3⟩ : T_zset_Entry)) ++ (T_zset_Entry.c (⟨(Sl.of (some (b3, 0)) 1 1), (-1)⟩ : T_zset_Entry)) ++ (T_zset_Entry.c (⟨(Sl.of (some (b1, 0)) 1 1), (-1)⟩ : T_zset_Entry)) ++ []))) b5 = some (true, .row ((T_zset_Entry.c (⟨(Sl.of (some (b3, 0)) 1 1), 1⟩ : T_zset_Entry)) ++ (T_zset_Entry.c (⟨(Sl.of (some (b1, 0)) 1 1), 3⟩ : T_zset_Entry)) ++ (T_zset_Entry.c (⟨(Sl.of (some (b3, 0)) 1 1), (-1)⟩ : T_zset_Entry)) ++ (T_zset_Entry.c (⟨(Sl.of (some (b1, 0)) 1 1), (-1)⟩ : T_zset_Entry)) ++ [])) := Heap.put_same ..
 generalize H4.put b5 (.row ((T_zset_Entry.c (⟨(Sl.of (some (b3, 0)) 1 1), 1⟩ : T_zset_Entry)) ++ (T_zset_Entry.c (⟨(Sl.of (some (b1, 0)) 1 1), 3⟩ : T_zset_Entry)) ++ (T_zset_Entry.c (⟨(Sl.of (some (b3, 0)) 1 1), (-1)⟩ : T_zset_Entry)) ++ (T_zset_Entry.c (⟨(Sl.of (some (b1, 0)) 1 1), (-1)⟩ : T_zset_Entry)) ++ [])) = H6 at *
 have R1 := rowN (cap := 1) (l5 _ _ c1)
 have R2 := rowN (cap := 1) (l5 _ _ c3)
 have i1 : (-9223372036854775808 : Int) ≤ 1 ∧ (1 : Int) ≤ 9223372036854775807 := by omega
 have i2 : (-9223372036854775808 : Int) ≤ 2 ∧ (2 : Int) ≤ 9223372036854775807 := by omega
 have E1 : EnL H6 (Sl.of (some (b5, 0)) 4 4) esA1 := lit_ens (xs := [⟨(Sl.of (some (b3, 0)) 1 1), 1⟩, ⟨(Sl.of (some (b1, 0)) 1 1), 3⟩, ⟨(Sl.of (some (b3, 0)) 1 1), (-1)⟩, ⟨(Sl.of (some (b1, 0)) 1 1), (-1)⟩]) qb5 rfl rfl rfl (by decide) fun i v x hv hx => by
  match i with
  | 0 => simp [esA1] at hv hx; subst hv; subst hx; exact enN R2 i2 (by omega)
  | 1 => simp [esA1] at hv hx; subst hv; subst hx; exact enN R1 i1 (by omega)
  | 2 => simp [esA1] at hv hx; subst hv; subst hx; exact enN R2 i2 (by omega)
  | 3 => simp [esA1] at hv hx; subst hv; subst hx; exact enN R1 i1 (by omega)
  | i + 4 => simp [esA1] at hv
 have l15 := l13.trans l5
 have c1 := l5 _ _ c1
 have c3 := l5 _ _ c3
 have vsz : ∀ {l : List En}, (l.all fun e => decide (vsizes e.1 ≤ 1000000)) = true → ∀ x ∈ l, vsizes x.1 ≤ 1000000 := fun h x hx => of_decide_eq_true (List.all_eq_true.1 h x hx)
 refine pCleanS E1 (by decide) (vsz (by decide +kernel)) (okB_ok oA1) fun o7 r7 y7 H9 s7 g7 => ?_
 rw [nz_calc s7 cA1] at g7
 have e7 : EnL H9 r7 [(r1E, 2)] := g7.en (fun e he => by
  have : e = (r1E, 2) := by simpa using he
  subst this; exact ⟨vbN i1, by decide, by decide⟩) (by decide)
 have l9 := l15.trans g7.own.le
 have c1 := g7.own.le _ _ c1
 have c3 := g7.own.le _ _ c3
 intro b10 n10
 have l10 := Heap.le_put n10 (g := .row ((T_zset_Entry.c (⟨(Sl.of (some (b1, 0)) 1 1), (-3)⟩ : T_zset_Entry)) ++ (T_zset_Entry.c (⟨(Sl.of (some (b3, 0)) 1 1), 1⟩ : T_zset_Entry)) ++ [])) (m := true)
 have qb10 : (H9.put b10 (.row ((T_zset_Entry.c (⟨(Sl.of (some (b1, 0)) 1 1), (-3)⟩ : T_zset_Entry)) ++ (T_zset_Entry.c (⟨(Sl.of (some (b3, 0)) 1 1), 1⟩ : T_zset_Entry)) ++ []))) b10 = some (true, .row ((T_zset_Entry.c (⟨(Sl.of (some (b1, 0)) 1 1), (-3)⟩ : T_zset_Entry)) ++ (T_zset_Entry.c (⟨(Sl.of (some (b3, 0)) 1 1), 1⟩ : T_zset_Entry)) ++ [])) := Heap.put_same ..
 generalize H9.put b10 (.row ((T_zset_Entry.c (⟨(Sl.of (some (b1, 0)) 1 1), (-3)⟩ : T_zset_Entry)) ++ (T_zset_Entry.c (⟨(Sl.of (some (b3, 0)) 1 1), 1⟩ : T_zset_Entry)) ++ [])) = H11 at *
 have R1 := rowN (cap := 1) (l10 _ _ c1)
 have R2 := rowN (cap := 1) (l10 _ _ c3)
 have E2 : EnL H11 (Sl.of (some (b10, 0)) 2 2) [(r1E, -3), (r2E, 1)] := lit_ens (xs := [⟨(Sl.of (some (b1, 0)) 1 1), (-3)⟩, ⟨(Sl.of (some (b3, 0)) 1 1), 1⟩]) qb10 rfl rfl rfl (by decide) fun i v x hv hx => by
  match i with
  | 0 => simp at hv hx; subst hv; subst hx; exact enN R1 i1 (by omega)
  | 1 => simp at hv hx; subst hv; subst hx; exact enN R2 i2 (by omega)
  | i + 2 => simp at hv
 have e7 := e7.le l10
 have l11 := l9.trans l10
 have c3 := l10 _ _ c3
 refine pAddS e7 E2 (by decide) (vsz (by decide +kernel)) (okB_ok oA2) fun o12 r12 y12 H14 s12 g12 => ?_
 rw [nz_calc s12 cA2] at g12
 have okA3 : ∀ e ∈ esA3, okE e := fun e he => by
  have : e = (r1E, -1) ∨ e = (r2E, 1) := by simpa [esA3] using he
  rcases this with rfl | rfl
  ·exact ⟨vbN i1, by decide, by decide⟩
  ·exact ⟨vbN i2, by decide, by decide⟩
 have e12 : EnL H14 r12 esA3 := g12.en okA3 (by decide)
 have l14 := l11.trans g12.own.le
 have c3 := g12.own.le _ _ c3
 refine pDistS e12 (by decide) (vsz (by decide +kernel)) (okB_ok oA3) fun o15 r15 y15 H17 s15 g15 => ?_
 rw [nz_calc s15 cA3] at g15
 have hpos : posE esA3 = [(r2E, 1)] := rfl
 rw [hpos] at g15
 have e15 : EnL H17 r15 [(r2E, 1)] := g15.en (fun e he => by
  have : e = (r2E, 1) := by simpa using he
  subst this; exact ⟨vbN i2, by decide, by decide⟩) (by decide)
 have l17 := l14.trans g15.own.le
 have e7 := e7.le (g12.own.le.trans g15.own.le)
 have e12 := e12.le g15.own.le
 have R2 := rowN (cap := 1) (g15.own.le _ _ c3)
 have n7 := e7.len
 have n12 := e12.len
 have n15 := e15.len
 refine ⟨fun b E => E = H17 ∧ b = true, ift_pos (by rw [n7]; rfl) ?_, ?_⟩
 ·exact SlIs.fI e7 (Heap.le.refl _) (z := 2) (fun _ => rfl) (by omega) (i := 0) rfl (by decide) (j := 1) (f := fun y => y.N) (fun _ => rfl) fun y hy => ⟨rfl, by rw [hy.2.2.2.1]; rfl⟩
 rintro b19 E ⟨rfl, rfl⟩
 refine ⟨fun b E2 => E2 = E ∧ b = true, ift_pos (by rw [n12]; rfl) ?_, ?_⟩
 ·exact SlIs.fI e12 (Heap.le.refl _) (z := 2) (fun _ => rfl) (by omega) (i := 0) rfl (by decide) (j := 1) (f := fun y => y.N) (fun _ => rfl) fun y hy => ⟨rfl, by rw [hy.2.2.2.1]; rfl⟩
 rintro b33 E3 ⟨rfl, rfl⟩
 refine ⟨fun b E2 => E2 = E3 ∧ b = true, ift_pos (by rw [n15]; rfl) ?_, ?_⟩
 ·exact SlIs.fI e15 (Heap.le.refl _) (z := 2) (fun _ => rfl) (by omega) (i := 0) rfl (by decide) (j := 1) (f := fun y => y.N) (fun _ => rfl) fun y hy => ⟨rfl, by rw [hy.2.2.2.1]; rfl⟩
 rintro b47 E4 ⟨rfl, rfl⟩
 refine ⟨fun b E2 => E2 = E4 ∧ b = true, ift_pos rfl ?_, ?_⟩
 ·refine SlIs.fL e15 (Heap.le.refl _) (z := 2) (fun _ => rfl) (by omega) (i := 0) rfl (by decide) (j := 0) (f := fun y => y.Row) (fun _ => rfl) fun y hy => ?_
  refine pCmpRows_ok hy.1 R2 (by decide) (by decide) (vbN i2) (vbN i2) ⟨rfl, ?_⟩
  have e : cmpR [nV 2] [nV 2] = 0 := Lin.row.refl trivial
  show (cmpR [nV 2] [nV 2] == 0) = true
  rw [e]; rfl
 rintro b59 E5 ⟨rfl, rfl⟩
 exact k _ l17
end
end Sx
end

noncomputable section
set_option linter.unusedVariables false
set_option linter.unusedSimpArgs false
set_option maxRecDepth 10000
namespace Sx
open Go Go.Proofs
theorem EnL.okE {A : Heap} {s : Sl} {l : List En} (hs : EnL A s l) : ∀ e ∈ l, VBs e.1 ∧ e.1.length ≤ 140737488355328 ∧ -9223372036854775808 ≤ e.2 ∧ e.2 < 9223372036854775808 := fun e he => by
 obtain ⟨xs, x1, x2, x3, x4, x5⟩ := hs
 obtain ⟨j, hj, rfl⟩ := List.getElem_of_mem he
 have := x5 j _ _ (List.getElem?_eq_getElem hj) (List.getElem?_eq_getElem (by omega))
 exact ⟨this.2.1, this.2.2.1, this.2.2.2.2⟩
theorem ZsetAdds_ok {C : Ctx} {H : Heap} (hw : ∀ {K : Bool → Heap → Prop} {H : Heap}, (∀ H2, H.le H2 → K true H2) → c_law16_awake C K H) {sl sm : Sl} {l m : List En} {K : Bool → Heap → Prop} (hl : EnL H sl l) (hm : EnL H sm m) (k : ∀ H2, K true H2) : c_law16_ZsetAdds C sl sm K H := by
 apply ad_law16_ZsetAdds
 unfold sh_law16_ZsetAdds
 refine large_ok hl (Heap.le.refl _) fun r1 h1 => ?_
 refine ⟨fun b E => E = H ∧ (b = false → (l.length ≤ 500 ∧ ∀ e ∈ l, vsizes e.1 ≤ 500) ∧ (m.length ≤ 500 ∧ ∀ e ∈ m, vsizes e.1 ≤ 500)), ?_, ?_⟩
 ·exact ift.of (fun h => ⟨rfl, fun e => (nomatch e)⟩) (fun h => large_ok hm (Heap.le.refl _) fun r7 h7 => ⟨rfl, fun e => ⟨h1 h, h7 e⟩⟩)
 rintro b E ⟨rfl, hb⟩
 refine ift.of (fun _ => hw fun H2 _ => k H2) (fun h => ?_)
 obtain ⟨⟨l1, l2⟩, m1, m2⟩ := hb h
 have hsz : ∀ x ∈ l ++ m, vsizes x.1 ≤ 1000000 := fun x hx => by
  rcases List.mem_append.1 hx with hx | hx
  ·have := l2 x hx; omega
  ·have := m2 x hx; omega
 have hrg : ∀ tb, ∀ x ∈ seqS [(l, false), (m, tb)], -9223372036854775808 ≤ x.1.2 ∧ x.1.2 < 9223372036854775808 := fun tb x hx => by
  simp [seqS] at hx
  rcases hx with ⟨r, n, h, rfl⟩ | ⟨r, n, h, rfl⟩
  ·exact (hl.okE _ h).2.2
  ·exact (hm.okE _ h).2.2
 refine given_ok hl (Heap.le.refl _) (by omega) (fun x hx => by have := l2 x hx; omega) fun r13 ysl H14 g1 => ?_
 refine given_ok hm g1.own.le (by omega) (fun x hx => by have := m2 x hx; omega) fun r15 ysm H16 g2 => ?_
 have g1' := g1.up g2.own.le
 have e1 : EnL H16 r13 l := g1'.en hl.okE (by omega)
 have e2 : EnL H16 r15 m := g2.en hm.okE (by omega)
 have hHE := g1.own.le.trans g2.own.le
 refine pAdd_ok e1 e2 (by omega) hsz (sumsK_of (hrg false) fun e out cs ys H19 p1 p2 => ?_)
 refine dAdd_ok hl hm (hHE.trans p2.own.le) (by omega) hsz fun e' out' r H22 q1 qf q2 q3 => ?_
 obtain ⟨rfl, rfl⟩ := p1.eq q1
 refine like_ok (p2.up q2) q3.okE (by omega) q3 (Heap.le.refl _) fun H24 h24 => ?_
 refine ift_neg rfl ?_
 refine pLess_ok (e1.le h24) (e2.le h24) (by omega) hsz (sumsK_of (hrg true) fun f out2 cs2 ys2 H28 p3 p4 => ?_)
 refine dLess_ok hl hm (hHE.trans (h24.trans p4.own.le)) (by omega) hsz fun f' out2' r2 H31 q4 qf2 q5 q6 => ?_
 obtain ⟨rfl, rfl⟩ := p3.eq q4
 refine like_ok (p4.up q5) q6.okE (by omega) q6 (Heap.le.refl _) fun H33 h33 => ?_
 have h16 := h24.trans h33
 refine ⟨fun b E' => b = true ∧ H16.le E', ?_, ?_⟩
 ·refine ift_pos rfl (back_ok (e1.le h16) (Heap.le.refl _) (by omega) fun r38 H39 h39 he => ?_)
  exact dSameE_ok he (hl.le (hHE.trans (h16.trans h39))) (Heap.le.refl _) fun b hb2 => ⟨hb2.2 rfl, h16.trans h39⟩
 rintro b34 E34 ⟨rfl, h34⟩
 refine ⟨fun b E' => b = true ∧ H16.le E', ?_, ?_⟩
 ·refine ift_pos rfl (back_ok (e2.le h34) (Heap.le.refl _) (by omega) fun r47 H48 h48 he => ?_)
  exact dSameE_ok he (hm.le (hHE.trans (h34.trans h48))) (Heap.le.refl _) fun b hb2 => ⟨hb2.2 rfl, h34.trans h48⟩
 rintro b43 E43 ⟨rfl, h43⟩
 refine ⟨fun b E' => b = true, ift_pos rfl (hw fun H2 _ => rfl), ?_⟩
 rintro b52 E52 rfl
 exact k _
end Sx
end

noncomputable section
set_option linter.unusedVariables false
set_option linter.unusedSimpArgs false
set_option maxRecDepth 100000
namespace Sx
open Go Go.Proofs
section
variable {P : Program} {W : World}
theorem sl_of {α β : Type} {R : α → β → Prop} {c : β → List Value} {t e : TypeId} {z n : Nat} {cs : List Value} (h : TrW P W n t cs) (ht : P.underlying t = some (.slice e)) (hz : P.cellsOf e = z) (hz0 : 0 < z) (hb : 1 ≤ P.bytesOf e)
 (ih : ∀ m, m < n → ∀ cs, TrW P W m e cs → ∃ (v : α) (x : β), cs = c x ∧ R v x) : ∃ (s : Sl) (l : List α), cs = [slv s] ∧ SlIs R c (heapOf W) s l := by
 obtain ⟨s, css, m, hm, h1, h2, h3, h4, h5, h6, h7⟩ := h.slice ht hz hz0
 have key : ∀ (css : List (List Value)), (∀ c' ∈ css, ∃ (v : α) (x : β), c' = c x ∧ R v x) → ∃ (l : List α) (xs : List β), css.flatten = xs.flatMap c ∧ css.length = xs.length ∧ l.length = xs.length ∧ ∀ (i : Nat) (v : α) (x : β), l[i]? = some v → xs[i]? = some x → R v x := by
  intro css
  induction css with
  | nil => intro _; exact ⟨[], [], rfl, rfl, rfl, fun i v x hv => by simp at hv⟩
  | cons c' css ihc =>
   intro hh
   obtain ⟨v, x, g1, g2⟩ := hh c' (List.mem_cons_self ..)
   obtain ⟨l, xs, k1, k2, k3, k4⟩ := ihc fun c' hc => hh c' (List.mem_cons_of_mem _ hc)
   refine ⟨v :: l, x :: xs, by rw [List.flatten_cons, List.flatMap_cons, k1, g1], by simp [k2], by simp [k3], fun i v' x' hv hx => ?_⟩
   cases i with
   | zero => simp at hv hx; subst hv; subst hx; exact g2
   | succ i => exact k4 i v' x' (by simpa using hv) (by simpa using hx)
 obtain ⟨l, xs, k1, k2, k3, k4⟩ := key css fun c' hc => ih m hm c' (h7 c' hc).2
 have hmx : reachBytes = 140737488351232 := rfl
 rw [hmx] at h4
 have hsl : s.len ≤ 140737488351232 := Nat.le_trans (Nat.le_mul_of_pos_right _ (by omega)) h4
 exact ⟨s, l, h1, xs, by rw [← k1]; exact h6, by omega, k3, by omega, k4⟩
end
section
variable {W : World}
theorem valTE : ValT Tryz.prog 39 36 := ⟨⟨_, Tryz.underlying39, rfl, ⟨_, _, rfl, rfl, rfl, Tryz.underlying5, by kernel_rfl⟩, ⟨_, _, rfl, rfl, rfl, Tryz.underlying2, by kernel_rfl⟩, ⟨_, _, rfl, rfl, rfl, Tryz.underlying9, by kernel_rfl⟩, ⟨_, rfl, rfl, rfl, by kernel_rfl⟩⟩, by kernel_rfl, Tryz.underlying36⟩
theorem En_of (n : Nat) {cs : List Value} (h : TrW Tryz.prog W n 52 cs) : ∃ (v : En) (x : T_zset_Entry), cs = T_zset_Entry.c x ∧ EnIs (heapOf W) v x := by
 obtain ⟨hl, m, rfl, hf⟩ := h.struct Tryz.underlying52
 rw [show Tryz.prog.cellsOf 52 = 2 by kernel_rfl] at hl
 match cs, hl with
 | [q0, q1], _ =>
 have g0 : TrW Tryz.prog W m 36 (([q0, q1].drop 0).take (Tryz.prog.cellsOf 36)) := hf 0 _ rfl
 have g1 : TrW Tryz.prog W m 3 (([q0, q1].drop 1).take (Tryz.prog.cellsOf 3)) := hf 1 _ rfl
 rw [show Tryz.prog.cellsOf 36 = 1 by kernel_rfl] at g0
 rw [show Tryz.prog.cellsOf 3 = 1 by kernel_rfl] at g1
 replace g0 : TrW Tryz.prog W m 36 [q0] := g0
 replace g1 : TrW Tryz.prog W m 3 [q1] := g1
 obtain ⟨y1, r1, z1, v1, w1, u1⟩ := row_ofw valTE (of_decide_eq_true (by kernel_rfl)) g0
 obtain ⟨x1, e1, w2⟩ := g1.int Tryz.underlying3
 have hw : -9223372036854775808 ≤ x1 ∧ x1 ≤ 9223372036854775807 := by simpa [Lit.wf, IntKind.min, IntKind.max, IntKind.signed, IntKind.bits] using w2
 exact ⟨(r1, x1), ⟨y1, x1⟩, (show [q0, q1] = [q0] ++ [q1] from rfl).trans (by rw [z1, e1]; rfl), v1, w1, u1, rfl, hw.1, by show x1 < _; omega⟩
theorem argw_ens {H : Type} {enc : TypeId × Value → H} {base : Nat} {v : Value} {d : DataW H} {p : List MemPlace} (hv : Value.okWide Tryz.prog W .any base 22 v) (h : DataW.Trod enc Tryz.prog W 0 (fun _ => true) true 22 v d p) (hw : ∀ w ∈ d.weights Tryz.prog 22, w ≤ reachBytes) :
 ∃ (s : Sl) (a : List En), v = slv s ∧ EnL (heapOf W) s a := by
 obtain ⟨x, len, c, rfl⟩ := WideShapes.okWide_slice Tryz.underlying22 hv
 obtain ⟨n, hn⟩ := TrW.of h hw
 obtain ⟨s, a, h1, h2⟩ := sl_of (R := EnIs (heapOf W)) (c := T_zset_Entry.c) hn Tryz.underlying22 (show Tryz.prog.cellsOf 52 = 2 by kernel_rfl) (by omega) (of_decide_eq_true (by kernel_rfl)) (fun m hm cs hc => En_of m hc)
 refine ⟨s, a, ?_, h2⟩
 simpa [Value.cells] using h1
end
end Sx
end

noncomputable section
namespace Sx
open Go Go.Proofs
theorem ZsetAdds_all {C : Ctx} {H : Heap} {s t : Sl} {l m : List En} (hl : EnL H s l) (hm : EnL H t m) : c_law16_ZsetAdds C s t (fun r _ => r = true) H :=
 ZsetAdds_ok (fun k => awake_ok k) hl hm fun _ => rfl
end Sx
end

