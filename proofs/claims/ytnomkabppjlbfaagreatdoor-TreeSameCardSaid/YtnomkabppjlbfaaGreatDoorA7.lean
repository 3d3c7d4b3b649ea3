/-
  Texts of this family, one behind the other: TreeQ, ValR, ValW, ModR, RowI.
-/
import Derived.Test.YtnomkabppjlbfaaGreatDoorA6
noncomputable section
set_option linter.unusedVariables false
set_option linter.unusedSimpArgs false
set_option maxRecDepth 10000
namespace Sx
open Go Go.Proofs
theorem nw2 {D : Heap} {z z' cx cy : List Value} {K : Nat → Nat → Heap → Prop} (hx : cx.length = z.length) (hy : cy.length = z'.length)
    (k : ∀ b1 b2 E, D.le E → E b1 = some (true, .row cx) → E b2 = some (true, .row cy) → K b1 b2 E) :
    nw z (fun b1 H1 => D.le H1 ∧ nw z' (fun b2 H2 => D.le H2 ∧ stT (b1, 0) cx (fun H3 => D.le H3 ∧ stT (b2, 0) cy (fun H4 => K b1 b2 H4) H3) H2) H1) D := by
  intro b1 n1
  have l1 := Heap.le_put n1 (g := .row z) (m := true)
  refine ⟨l1, ?_⟩
  intro b2 n2
  have l2 := Heap.le_put n2 (g := .row z') (m := true)
  refine ⟨l1.trans l2, ?_⟩
  have ne : b1 ≠ b2 := fun e => by rw [← e, Heap.put_same] at n2; cases n2
  have d1 : D b1 = none := n1
  have d2 : D b2 = none := by rw [Heap.put_ne _ _ _ ne.symm] at n2; exact n2
  have sp : ∀ (c d : List Value), d.length = c.length → splice c 0 d = d := fun c d h => by
    unfold splice
    rw [List.take_zero, List.nil_append, List.drop_of_length_le (by rw [h]; simp), List.append_nil]
  refine ⟨z, by rw [Heap.put_ne _ _ _ ne, Heap.put_same], by rw [hx]; simp, ?_⟩
  rw [show splice z (b1, 0).2 cx = cx from sp z cx hx]
  have hh : ∀ (E : Heap), (∀ b, b ≠ b1 → b ≠ b2 → E b = D b) → D.le E := fun E h b v hb => by
    rw [h b (fun e => by subst e; rw [d1] at hb; cases hb) (fun e => by subst e; rw [d2] at hb; cases hb)]; exact hb
  refine ⟨hh _ fun b g1 g2 => by simp only [Heap.put_ne _ _ _ g1, Heap.put_ne _ _ _ g2], ?_⟩
  refine ⟨z', by rw [Heap.put_ne _ _ _ ne.symm, Heap.put_same], by rw [hy]; simp, ?_⟩
  rw [show splice z' (b2, 0).2 cy = cy from sp z' cy hy]
  refine k b1 b2 _ (hh _ fun b g1 g2 => by simp only [Heap.put_ne _ _ _ g1, Heap.put_ne _ _ _ g2]) ?_ ?_
  · rw [Heap.put_ne _ _ _ ne, Heap.put_same]
  · rw [Heap.put_same]
theorem nw2' {D : Heap} {z z' cx cy : List Value} {K : Nat → Nat → Heap → Prop} (hx : cx.length = z'.length) (hy : cy.length = z.length)
    (k : ∀ b1 b2 E, D.le E → E b1 = some (true, .row cy) → E b2 = some (true, .row cx) → K b1 b2 E) :
    nw z (fun b1 H1 => D.le H1 ∧ nw z' (fun b2 H2 => D.le H2 ∧ stT (b2, 0) cx (fun H3 => D.le H3 ∧ stT (b1, 0) cy (fun H4 => K b1 b2 H4) H3) H2) H1) D := by
  intro b1 n1
  have l1 := Heap.le_put n1 (g := .row z) (m := true)
  refine ⟨l1, ?_⟩
  intro b2 n2
  have l2 := Heap.le_put n2 (g := .row z') (m := true)
  refine ⟨l1.trans l2, ?_⟩
  have ne : b1 ≠ b2 := fun e => by rw [← e, Heap.put_same] at n2; cases n2
  have d1 : D b1 = none := n1
  have d2 : D b2 = none := by rw [Heap.put_ne _ _ _ ne.symm] at n2; exact n2
  have sp : ∀ (c d : List Value), d.length = c.length → splice c 0 d = d := fun c d h => by
    unfold splice
    rw [List.take_zero, List.nil_append, List.drop_of_length_le (by rw [h]; simp), List.append_nil]
  refine ⟨z', by rw [Heap.put_same], by rw [hx]; simp, ?_⟩
  rw [show splice z' (b2, 0).2 cx = cx from sp z' cx hx]
  have hh : ∀ (E : Heap), (∀ b, b ≠ b1 → b ≠ b2 → E b = D b) → D.le E := fun E h b v hb => by
    rw [h b (fun e => by subst e; rw [d1] at hb; cases hb) (fun e => by subst e; rw [d2] at hb; cases hb)]; exact hb
  refine ⟨hh _ fun b g1 g2 => by simp only [Heap.put_ne _ _ _ g1, Heap.put_ne _ _ _ g2], ?_⟩
  refine ⟨z, by rw [Heap.put_ne _ _ _ ne, Heap.put_ne _ _ _ ne, Heap.put_same], by rw [hy]; simp, ?_⟩
  rw [show splice z (b1, 0).2 cy = cy from sp z cy hy]
  refine k b1 b2 _ (hh _ fun b g1 g2 => by simp only [Heap.put_ne _ _ _ g1, Heap.put_ne _ _ _ g2]) ?_ ?_
  · rw [Heap.put_same]
  · rw [Heap.put_ne _ _ _ ne.symm, Heap.put_same]
theorem and_lt {a b : Int} {q : Bool} (h : (decide (a < b) && q) = true) : a < b := by rw [Bool.and_eq_true] at h; exact of_decide_eq_true h.1
section
variable {C : Ctx} {H A : Heap}
theorem types_gen {l : List TyV} {s : Sl} {m : Int} {K : Int → Heap → Prop} (hs : TyL A s l) (hA : A.le H)
    (ih : ∀ p ∈ l, ∀ {s : Sl} {m : Int} {K : Int → Heap → Prop} {H : Heap}, TyL A s p.a → A.le H → (∀ r, K r H) → c_law06_types C s m K H) (k : ∀ r, K r H) : c_law06_types C s m K H := by
  apply c_law06_types.gh
  apply ad_law06_types
  unfold sh_law06_types
  refine lpN (N := l.length) hs.bd fun n i D J hD hi hJ => ?_
  rw [hs.len]
  refine ift.of (fun h => ?_) (fun h => ⟨H, Gh.le hD, k _⟩)
  have hlt : i < l.length := by have := and_lt h; omega
  have hAD := hA.trans hD
  refine SlIs.fS hs hAD len_Type (by omega) rfl hlt (f := fun y => y.Name) (fun _ => rfl) fun y1 hy1 => SlIs.fL hs hAD len_Type (by omega) rfl hlt (f := fun y => y.Args) (fun _ => rfl) fun y2 hy2 => ?_
  exact ih _ (List.getElem_mem hlt) (TyIs_iff.1 hy2).2 hAD fun r => hJ hlt _ _ hD
theorem types_of : ∀ (v : TyV) {s : Sl} {m : Int} {K : Int → Heap → Prop} {H : Heap}, TyL A s v.a → A.le H → (∀ r, K r H) → c_law06_types C s m K H := by
  refine TyV.rec_ fun v ih s m K H hs hA k => ?_
  exact types_gen hs hA (fun p hp s m K H g1 g2 g3 => ih p hp g1 g2 g3) k
theorem types_any {l : List TyV} {s : Sl} {m : Int} {K : Int → Heap → Prop} (hs : TyL A s l) (hA : A.le H) (k : ∀ r, K r H) : c_law06_types C s m K H :=
  types_gen hs hA (fun p _ s m K H g1 g2 g3 => types_of p g1 g2 g3) k
theorem exprs_gen {l : List ExV} {s : Sl} {m : Int} {K : Int → Heap → Prop} (hs : ExL A s l) (hA : A.le H)
    (ih : ∀ p ∈ l, ∀ {s : Sl} {m : Int} {K : Int → Heap → Prop} {H : Heap}, ExL A s p.a → A.le H → (∀ r, K r H) → c_law06_exprs C s m K H) (k : ∀ r, K r H) : c_law06_exprs C s m K H := by
  apply c_law06_exprs.gh
  apply ad_law06_exprs
  unfold sh_law06_exprs
  refine lpN (N := l.length) hs.bd fun n i D J hD hi hJ => ?_
  rw [hs.len]
  refine ift.of (fun h => ?_) (fun h => ⟨H, Gh.le hD, k _⟩)
  have hlt : i < l.length := by have := and_lt h; omega
  have hAD := hA.trans hD
  refine SlIs.fS hs hAD len_Expr (by omega) rfl hlt (j := 3) (f := fun y => y.Name) (fun _ => rfl) fun y1 hy1 => ?_
  refine SlIs.fS hs hAD len_Expr (by omega) rfl hlt (j := 6) (f := fun y => y.Value_.S) (fun _ => rfl) fun y2 hy2 => ?_
  refine SlIs.fL hs hAD len_Expr (by omega) rfl hlt (j := 7) (f := fun y => y.Value_.L) (fun _ => rfl) fun y3 hy3 => ?_
  refine SlIs.fL hs hAD len_Expr (by omega) rfl hlt (j := 8) (f := fun y => y.Args) (fun _ => rfl) fun y4 hy4 => ?_
  exact ih _ (List.getElem_mem hlt) (ExIs_iff.1 hy4).2.2.2.2 hAD fun r => hJ hlt _ _ hD
theorem exprs_of : ∀ (v : ExV) {s : Sl} {m : Int} {K : Int → Heap → Prop} {H : Heap}, ExL A s v.a → A.le H → (∀ r, K r H) → c_law06_exprs C s m K H := by
  refine ExV.rec_ fun v ih s m K H hs hA k => ?_
  exact exprs_gen hs hA (fun p hp s m K H g1 g2 g3 => ih p hp g1 g2 g3) k
theorem exprs_any {l : List ExV} {s : Sl} {m : Int} {K : Int → Heap → Prop} (hs : ExL A s l) (hA : A.le H) (k : ∀ r, K r H) : c_law06_exprs C s m K H :=
  exprs_gen hs hA (fun p _ s m K H g1 g2 g3 => exprs_of p g1 g2 g3) k
theorem body_any {l : List LiV} {s : Sl} {m : Int} {K : Int → Heap → Prop} (hs : LiL A s l) (hA : A.le H) (k : ∀ r, K r H) : c_law06_body C s m K H := by
  apply c_law06_body.gh
  apply ad_law06_body
  unfold sh_law06_body
  refine lpN (N := l.length) hs.bd fun n i D J hD hi hJ => ?_
  rw [hs.len]
  refine ift.of (fun h => ?_) (fun h => ⟨H, Gh.le hD, k _⟩)
  have hlt : i < l.length := by have := and_lt h; omega
  have hAD := hA.trans hD
  refine SlIs.fS hs hAD len_Literal (by omega) rfl hlt (f := fun y => y.Rel) (fun _ => rfl) fun y1 hy1 => SlIs.fL hs hAD len_Literal (by omega) rfl hlt (f := fun y => y.Args) (fun _ => rfl) fun y2 hy2 => ?_
  exact exprs_any hy2.2.2 hAD fun r => hJ hlt _ _ hD
theorem fields_any {l : List FdV} {s : Sl} {m : Int} {K : Int → Heap → Prop} (hs : FdL A s l) (hA : A.le H) (k : ∀ r, K r H) : c_law06_fields C s m K H := by
  apply c_law06_fields.gh
  apply ad_law06_fields
  unfold sh_law06_fields
  refine lpN (N := l.length) hs.bd fun n i D J hD hi hJ => ?_
  rw [hs.len]
  refine ift.of (fun h => ?_) (fun h => ⟨H, Gh.le hD, k _⟩)
  have hlt : i < l.length := by have := and_lt h; omega
  have hAD := hA.trans hD
  refine ⟨D, Heap.le.refl _, SlIs.fS hs hAD len_FieldDef (by omega) rfl hlt (f := fun y => y.Name) (fun _ => rfl) fun y1 hy1 => SlIs.fT hs hAD len_FieldDef (by omega) rfl hlt (f := fun y => y.Type_) (fun y n v hn => ty_at n v hn) fun y2 hy2 => ?_⟩
  intro b n1
  have l1 := Heap.le_put n1 (g := .row (T_api_Type.c y2.Type_ ++ [])) (m := true)
  have h1 : (D.put b (.row (T_api_Type.c y2.Type_ ++ []))) b = some (true, .row (T_api_Type.c y2.Type_ ++ [])) := Heap.put_same ..
  generalize D.put b (.row (T_api_Type.c y2.Type_ ++ [])) = E at *
  have hT : TyL E (Sl.of (some (b, 0)) 1 1) [l[i].t] := ⟨[y2.Type_], .inr ⟨rfl, _, rfl, rds_row h1 fun j v hj => by simpa using hj⟩, rfl, rfl, by simp, fun j v x hv hx => by
    cases j with
    | zero => simp at hv hx; subst hv; subst hx; exact TyIs.le (hAD.trans l1) _ _ hy2.2
    | succ j => simp at hv⟩
  exact ⟨l1, types_any hT (Heap.le.refl _) fun r => ⟨l1, hJ hlt _ _ (hD.trans l1)⟩⟩
theorem large_any {v : MoV} {x : T_api_Module} {K : Bool → Heap → Prop} (hx : MoIs A v x) (hA : A.le H) (k : ∀ b, K b H) : c_law06_large C x K H := by
  apply c_law06_large.gh
  apply ad_law06_large
  unfold sh_law06_large
  intro b1 n1
  have hle := Heap.le_put n1 (g := .row (T_api_Module.c x)) (m := true)
  have h1 : (H.put b1 (.row (T_api_Module.c x))) b1 = some (true, .row (T_api_Module.c x)) := Heap.put_same ..
  generalize H.put b1 (.row (T_api_Module.c x)) = H2 at *
  have hA2 := hA.trans hle
  obtain ⟨x1, x2, x3, x4, x5, x6⟩ := hx
  refine fL h1 rfl (fS h1 rfl ?_)
  refine lpN (N := v.ty.length) x3.bd fun n i D J hD hi hJ => fL (hD _ _ h1) rfl ?_
  rw [x3.len]
  refine ift.of (fun h => ?_) (fun h => ?_)
  · have hlt : i < v.ty.length := by have := and_lt h; omega
    refine fL (hD _ _ h1) rfl (SlIs.fL x3 (hA2.trans hD) len_TypeDef (by omega) rfl hlt (f := fun y => y.Params) (fun _ => rfl) fun y1 hy1 => ?_)
    refine lpN (N := v.ty[i].cs.length) hy1.2.2.2.bd fun n2 i2 D2 J2 hD2 hi2 hJ2 => ?_
    have hDD := hD.trans hD2
    refine fL (hDD _ _ h1) rfl (SlIs.fL x3 (hA2.trans hDD) len_TypeDef (by omega) rfl hlt (f := fun y => y.Cons) (fun _ => rfl) fun y2 hy2 => ?_)
    rw [hy2.2.2.2.len]
    refine ift.of (fun h => ?_) (fun h => hJ hlt _ _ hDD)
    have hlt2 : i2 < v.ty[i].cs.length := by have := and_lt h; omega
    refine fL (hDD _ _ h1) rfl (SlIs.fL x3 (hA2.trans hDD) len_TypeDef (by omega) rfl hlt (f := fun y => y.Cons) (fun _ => rfl) fun y3 hy3 => ?_)
    refine SlIs.fL hy3.2.2.2 (hA2.trans hDD) len_ConsDef (by omega) rfl hlt2 (f := fun y => y.Fields) (fun _ => rfl) fun y4 hy4 => ?_
    exact fields_any hy4.2 (hA2.trans hDD) fun r => hJ2 hlt2 _ _ hD2
  clear h hJ
  refine lpN (N := v.re.length) x4.bd fun n i D2 J hD2 hi hJ => ?_
  have hD := hD.trans hD2
  refine fL (hD _ _ h1) rfl ?_
  rw [x4.len]
  refine ift.of (fun h => ?_) (fun h => ?_)
  · have hlt : i < v.re.length := by have := and_lt h; omega
    refine fL (hD _ _ h1) rfl (SlIs.fL x4 (hA2.trans hD) len_RelDef (by omega) rfl hlt (f := fun y => y.Fields) (fun _ => rfl) fun y1 hy1 => ?_)
    exact fields_any hy1.2.2.2 (hA2.trans hD) fun r => hJ hlt _ _ hD2
  clear h hJ
  refine lpN (N := v.ru.length) x5.bd fun n i D3 J hD3 hi hJ => ?_
  have hD := hD.trans hD3
  refine fL (hD _ _ h1) rfl ?_
  rw [x5.len]
  refine ift.of (fun h => ?_) (fun h => ?_)
  · have hlt : i < v.ru.length := by have := and_lt h; omega
    have hAD := hA2.trans hD
    refine ⟨D3, Heap.le.refl _, fL (hD _ _ h1) rfl (SlIs.fL x5 hAD len_Rule (by omega) rfl hlt (f := fun y => y.Aggs) (fun _ => rfl) fun y1 hy1 => ?_)⟩
    refine fL (hD _ _ h1) rfl (SlIs.fL x5 hAD len_Rule (by omega) rfl hlt (f := fun y => y.Args) (fun _ => rfl) fun y2 hy2 => ?_)
    refine fL (hD _ _ h1) rfl (SlIs.fL x5 hAD len_Rule (by omega) rfl hlt (f := fun y => y.Body) (fun _ => rfl) fun y3 hy3 => ?_)
    exact exprs_any hy2.2.1 hAD fun r => ⟨Heap.le.refl _, body_any hy3.2.2.2 hAD fun r2 => ⟨Heap.le.refl _, hJ hlt _ _ hD3⟩⟩
  clear h hJ
  refine lpN (N := v.ne.length) x6.bd fun n i D4 J hD4 hi hJ => ?_
  have hD := hD.trans hD4
  refine fL (hD _ _ h1) rfl ?_
  rw [x6.len]
  refine ift.of (fun h => ?_) (fun h => ⟨H, Gh.le (hle.trans hD), k _⟩)
  have hlt : i < v.ne.length := by have := and_lt h; omega
  refine fL (hD _ _ h1) rfl (SlIs.fL x6 (hA2.trans hD) len_Never (by omega) rfl hlt (f := fun y => y.Body) (fun _ => rfl) fun y1 hy1 => ?_)
  exact body_any hy1.2 (hA2.trans hD) fun r => hJ hlt _ _ hD4
theorem dSame_ok {v w : MoV} {x y : T_api_Module} {K : Bool → Heap → Prop} (hx : MoIs A v x) (hy : MoIs A w y) (hA : A.le H) (k : K (sm v w) H) : c_ref06_Same C x y K H := by
  apply c_ref06_Same.gh
  apply ad_ref06_Same
  unfold sh_ref06_Same
  refine box2 fun b1 b3 H4 hle h1 h3 => fS h1 rfl (fS h3 rfl ?_)
  have hA4 := hA.trans hle
  obtain ⟨x1, x2, x3, x4, x5, x6⟩ := hx
  obtain ⟨y1, y2, y3, y4, y5, y6⟩ := hy
  refine jb (P := ¬ (v.n = w.n ∧ v.im.length = w.im.length)) H4 ?_ fun b9 hb9 => ?_
  · have i1 := nsq x1 y1
    exact ift.of (fun h => ⟨rfl, n1 i1 h⟩) (fun h => fL h1 rfl (fL h3 rfl ⟨rfl, n2 i1 h (nlen x2 y2)⟩))
  refine jb (P := ¬ ((v.n = w.n ∧ v.im.length = w.im.length) ∧ v.ty.length = w.ty.length)) H4 ?_ fun b18 hb18 => ?_
  · exact ift.of (fun h => ⟨rfl, n1 hb9 h⟩) (fun h => fL h1 rfl (fL h3 rfl ⟨rfl, n2 hb9 h (nlen x3 y3)⟩))
  refine jb (P := ¬ (((v.n = w.n ∧ v.im.length = w.im.length) ∧ v.ty.length = w.ty.length) ∧ v.re.length = w.re.length)) H4 ?_ fun b27 hb27 => ?_
  · exact ift.of (fun h => ⟨rfl, n1 hb18 h⟩) (fun h => fL h1 rfl (fL h3 rfl ⟨rfl, n2 hb18 h (nlen x4 y4)⟩))
  refine jb (P := ¬ ((((v.n = w.n ∧ v.im.length = w.im.length) ∧ v.ty.length = w.ty.length) ∧ v.re.length = w.re.length) ∧ v.ru.length = w.ru.length)) H4 ?_ fun b36 hb36 => ?_
  · exact ift.of (fun h => ⟨rfl, n1 hb27 h⟩) (fun h => fL h1 rfl (fL h3 rfl ⟨rfl, n2 hb27 h (nlen x5 y5)⟩))
  refine jb (P := ¬ (((((v.n = w.n ∧ v.im.length = w.im.length) ∧ v.ty.length = w.ty.length) ∧ v.re.length = w.re.length) ∧ v.ru.length = w.ru.length) ∧ v.ne.length = w.ne.length)) H4 ?_ fun b45 hb45 => ?_
  · exact ift.of (fun h => ⟨rfl, n1 hb36 h⟩) (fun h => fL h1 rfl (fL h3 rfl ⟨rfl, n2 hb36 h (nlen x6 y6)⟩))
  refine ift.of (fun h => ?_) (fun h => ?_)
  · rw [sm_no (fun e => hb45.1 h (by subst e; exact ⟨⟨⟨⟨⟨rfl, rfl⟩, rfl⟩, rfl⟩, rfl⟩, rfl⟩))] at k; exact ⟨H, Gh.le hle, k⟩
  obtain ⟨⟨⟨⟨⟨q1, q2⟩, q3⟩, q4⟩, q5⟩, q6⟩ := n3 hb45 h
  clear hb9 hb18 hb27 hb36 hb45 h
  have kno : ∀ E, H4.le E → ¬ v = w → ∃ H0, Gh C E H0 ∧ K false H0 := fun E hE hn => by rw [sm_no hn] at k; exact ⟨H, Gh.le (hle.trans hE), k⟩
  refine lpEq (l := v.im) (m := w.im) x2.bd fun i D J hD hi hh hJ => fL (hD _ _ h1) rfl ?_
  rw [x2.len]
  refine ift.of (fun h => ?_) (fun h => ?_)
  · have hlt : i < v.im.length := by have := of_decide_eq_true h; omega
    have hlt2 : i < w.im.length := by omega
    have hAD := hA4.trans hD
    refine fL (hD _ _ h1) rfl (SlIs.fS x2 hAD len_Import (by omega) rfl hlt (f := fun y => y.Name) (fun _ => rfl) fun u1 hu1 => fL (hD _ _ h3) rfl (SlIs.fS y2 hAD len_Import (by omega) rfl hlt2 (f := fun y => y.Name) (fun _ => rfl) fun u2 hu2 => ?_))
    have j1 := nsq hu1 hu2
    exact ift.of (fun h => kno _ hD fun e => get_ne hlt hlt2 (j1.1 h) (by rw [e])) (fun h => hJ hlt _ hD (take_eq hlt hlt2 hh (n3 j1 h)))
  have q2 : v.im = w.im := take_all (by have := of_decide_eq_false h; omega) q2 hh
  clear h hJ hh hi
  refine lpEq (l := v.ty) (m := w.ty) x3.bd fun i D2 J hD2 hi hh hJ => ?_
  have hD := hD.trans hD2
  refine fL (hD _ _ h1) rfl ?_
  rw [x3.len]
  refine ift.of (fun h => ?_) (fun h => ?_)
  · have hlt : i < v.ty.length := by have := of_decide_eq_true h; omega
    have hlt2 : i < w.ty.length := by omega
    have hAD := hA4.trans hD
    refine ⟨D2, Heap.le.refl _, fL (hD _ _ h1) rfl (SlIs.ld x3 hAD len_TypeDef (by omega) rfl hlt fun u1 hu1 => fL (hD _ _ h3) rfl (SlIs.ld y3 hAD len_TypeDef (by omega) rfl hlt2 fun u2 hu2 => ?_))⟩
    refine sameTypeDef_ok hu1 hu2 hAD ⟨Heap.le.refl _, ?_⟩
    exact ift.of (fun h => kno _ hD fun e => get_ne hlt hlt2 (nsm.1 h) (by rw [e])) (fun h => hJ hlt _ hD2 (take_eq hlt hlt2 hh (n3 nsm h)))
  have q3 : v.ty = w.ty := take_all (by have := of_decide_eq_false h; omega) q3 hh
  clear h hJ hh hi
  refine lpEq (l := v.re) (m := w.re) x4.bd fun i D3 J hD3 hi hh hJ => ?_
  have hD := hD.trans hD3
  refine fL (hD _ _ h1) rfl ?_
  rw [x4.len]
  refine ift.of (fun h => ?_) (fun h => ?_)
  · have hlt : i < v.re.length := by have := of_decide_eq_true h; omega
    have hlt2 : i < w.re.length := by omega
    have hAD := hA4.trans hD
    refine ⟨fun (p : (Nat × Nat) × (Nat × Nat)) E => D3.le E ∧ ∃ (a b : Nat) (u1 u2 : T_api_RelDef), p = ((a, 0), (b, 0)) ∧ E a = some (true, .row (T_api_RelDef.c u1)) ∧ E b = some (true, .row (T_api_RelDef.c u2)) ∧ RdIs A v.re[i] u1 ∧ RdIs A w.re[i] u2, ?_, ?_⟩
    · refine ⟨D3, Heap.le.refl _, fL (hD _ _ h1) rfl (SlIs.ld x4 hAD len_RelDef (by omega) rfl hlt fun u1 hu1 => fL (hD _ _ h3) rfl (SlIs.ld y4 hAD len_RelDef (by omega) rfl hlt2 fun u2 hu2 => ⟨?_, ?_⟩))⟩
      · exact nw2 rfl rfl fun a b E lE ha hb => ⟨lE, a, b, u1, u2, rfl, ha, hb, hu1, hu2⟩
      · refine nw2' rfl rfl fun a b E lE ha hb => ⟨lE, b, a, u1, u2, rfl, hb, ha, hu1, hu2⟩
    rintro _ E ⟨lE, a, b, u1, u2, rfl, ha, hb, hu1, hu2⟩
    have hD3E := hD3.trans lE
    have hDE := hD.trans lE
    refine fB ha rfl (fB hb rfl ?_)
    have i1 := nbq hu1.1 hu2.1
    refine jb (P := ¬ (v.re[i].p = w.re[i].p ∧ v.re[i].i = w.re[i].i)) E ?_ fun c1 hc1 => ?_
    · exact ift.of (fun h => ⟨rfl, n1 i1 h⟩) (fun h => fB ha rfl (fB hb rfl ⟨rfl, n2 i1 h (nbq hu1.2.1 hu2.2.1)⟩))
    refine jb (P := ¬ ((v.re[i].p = w.re[i].p ∧ v.re[i].i = w.re[i].i) ∧ v.re[i].n = w.re[i].n)) E ?_ fun c2 hc2 => ?_
    · exact ift.of (fun h => ⟨rfl, n1 hc1 h⟩) (fun h => fS ha rfl (fS hb rfl ⟨rfl, n2 hc1 h (nsq hu1.2.2.1 hu2.2.2.1)⟩))
    refine jb (P := ¬ (((v.re[i].p = w.re[i].p ∧ v.re[i].i = w.re[i].i) ∧ v.re[i].n = w.re[i].n) ∧ v.re[i].f = w.re[i].f)) E ?_ fun c3 hc3 => ?_
    · exact ift.of (fun h => ⟨rfl, n1 hc2 h⟩) (fun h => fL ha rfl (fL hb rfl (SameFields_ok hu1.2.2.2 hu2.2.2.2 (hA4.trans hDE) ⟨rfl, n2 hc2 h nsm⟩)))
    rw [← RdV.eq_iff] at hc3
    exact ift.of (fun h => kno _ hDE fun e => get_ne hlt hlt2 (hc3.1 h) (by rw [e])) (fun h => hJ hlt _ hD3E (take_eq hlt hlt2 hh (n3 hc3 h)))
  have q4 : v.re = w.re := take_all (by have := of_decide_eq_false h; omega) q4 hh
  clear h hJ hh hi
  refine lpEq (l := v.ru) (m := w.ru) x5.bd fun i D4 J hD4 hi hh hJ => ?_
  have hD := hD.trans hD4
  refine fL (hD _ _ h1) rfl ?_
  rw [x5.len]
  refine ift.of (fun h => ?_) (fun h => ?_)
  · have hlt : i < v.ru.length := by have := of_decide_eq_true h; omega
    have hlt2 : i < w.ru.length := by omega
    have hAD := hA4.trans hD
    refine ⟨D4, Heap.le.refl _, fL (hD _ _ h1) rfl (SlIs.ld x5 hAD len_Rule (by omega) rfl hlt fun u1 hu1 => fL (hD _ _ h3) rfl (SlIs.ld y5 hAD len_Rule (by omega) rfl hlt2 fun u2 hu2 => ?_))⟩
    refine SameRule_ok hu1 hu2 hAD ⟨Heap.le.refl _, ?_⟩
    exact ift.of (fun h => kno _ hD fun e => get_ne hlt hlt2 (nsm.1 h) (by rw [e])) (fun h => hJ hlt _ hD4 (take_eq hlt hlt2 hh (n3 nsm h)))
  have q5 : v.ru = w.ru := take_all (by have := of_decide_eq_false h; omega) q5 hh
  clear h hJ hh hi
  refine lpEq (l := v.ne) (m := w.ne) x6.bd fun i D5 J hD5 hi hh hJ => ?_
  have hD := hD.trans hD5
  refine fL (hD _ _ h1) rfl ?_
  rw [x6.len]
  refine ift.of (fun h => ?_) (fun h => ?_)
  · have hlt : i < v.ne.length := by have := of_decide_eq_true h; omega
    have hlt2 : i < w.ne.length := by omega
    have hAD := hA4.trans hD
    refine jb (P := ¬ (v.ne[i].n = w.ne[i].n ∧ v.ne[i].b = w.ne[i].b)) D5 ?_ fun b hb => ?_
    · refine ⟨D5, Heap.le.refl _, fL (hD _ _ h1) rfl (SlIs.fS x6 hAD len_Never (by omega) rfl hlt (f := fun y => y.Name) (fun _ => rfl) fun u1 hu1 => fL (hD _ _ h3) rfl (SlIs.fS y6 hAD len_Never (by omega) rfl hlt2 (f := fun y => y.Name) (fun _ => rfl) fun u2 hu2 => ?_))⟩
      have j1 := nsq hu1.1 hu2.1
      refine ift.of (fun h => ⟨rfl, n1 j1 h⟩) fun h => ?_
      refine fL (hD _ _ h1) rfl (SlIs.fL x6 hAD len_Never (by omega) rfl hlt (f := fun y => y.Body) (fun _ => rfl) fun u3 hu3 => fL (hD _ _ h3) rfl (SlIs.fL y6 hAD len_Never (by omega) rfl hlt2 (f := fun y => y.Body) (fun _ => rfl) fun u4 hu4 => ?_))
      exact SameBody_ok hu3.2 hu4.2 hAD ⟨Heap.le.refl _, rfl, n2 j1 h nsm⟩
    rw [← NeV.eq_iff] at hb
    exact ift.of (fun h => kno _ hD fun e => get_ne hlt hlt2 (hb.1 h) (by rw [e])) (fun h => hJ hlt _ hD5 (take_eq hlt hlt2 hh (n3 hb h)))
  have q6 : v.ne = w.ne := take_all (by have := of_decide_eq_false h; omega) q6 hh
  rw [sm_yes (MoV.eq_iff.2 ⟨⟨⟨⟨⟨q1, q2⟩, q3⟩, q4⟩, q5⟩, q6⟩)] at k
  exact ⟨H, Gh.le (hle.trans hD), k⟩
theorem TreeSame_ok (hw : ∀ {K : Bool → Heap → Prop} {H : Heap}, (∀ H2, H.le H2 → K true H2) → c_law06_awake C K H) {v w : MoV} {x y : T_api_Module} {K : Bool → Heap → Prop} (hx : MoIs H v x) (hy : MoIs H w y) (k : ∀ H2, K true H2) : c_law06_TreeSame C x y K H := by
  apply ad_law06_TreeSame
  unfold sh_law06_TreeSame
  refine box2 fun b1 b3 H4 hle h1 h3 => bxT h1 ?_
  refine large_any hx hle fun r7 => ?_
  refine ⟨fun b E => E = H4, ?_, ?_⟩
  · exact ift.of (fun h => rfl) (fun h => bxT h3 (large_any hy hle fun r => rfl))
  rintro b E rfl
  refine ift.of (fun h => hw fun H2 _ => k H2) (fun h => ?_)
  refine ⟨E, Heap.le.refl _, bxT h1 (bxT h3 (bxT h1 (bxT h3 (tSame_ok hx hy hle ⟨Heap.le.refl _, dSame_ok hx hy hle ⟨Heap.le.refl _, ?_⟩⟩))))⟩
  refine ift_pos (by simp) (bxT h1 (bxT h1 (tSame_ok hx hx hle ⟨Heap.le.refl _, ?_⟩)))
  rw [sm_yes rfl]
  exact ift_pos rfl (hw fun H2 l2 => ⟨l2, k H2⟩)
end
end Sx
end

noncomputable section
set_option linter.unusedVariables false
set_option linter.unusedSimpArgs false
namespace Sx
open Go
section
variable {H : Type} {enc : TypeId × Value → H} {P : Program} {W : World}
/-- the type of values -/
structure ValT (P : Program) (t tl : TypeId) : Prop where
  st : ∃ fs : Array Field, P.underlying t = some (.struct fs) ∧ fs.size = 4 ∧ (∃ f tk, fs[0]? = some f ∧ f.type = tk ∧ f.offset = 0 ∧ P.underlying tk = some (.int .u8) ∧ P.cellsOf tk = 1) ∧ (∃ f tk, fs[1]? = some f ∧ f.type = tk ∧ f.offset = 1 ∧ P.underlying tk = some (.int .i64) ∧ P.cellsOf tk = 1) ∧ (∃ f tk, fs[2]? = some f ∧ f.type = tk ∧ f.offset = 2 ∧ P.underlying tk = some .string ∧ P.cellsOf tk = 1) ∧ (∃ f, fs[3]? = some f ∧ f.type = tl ∧ f.offset = 3 ∧ P.cellsOf tl = 1)
  cells : P.cellsOf t = 4
  sl : P.underlying tl = some (.slice t)

end
end Sx
end

noncomputable section
set_option linter.unusedVariables false
set_option linter.unusedSimpArgs false
namespace Sx
open Go
section
variable {H : Type} {enc : TypeId × Value → H} {P : Program} {W : World}
theorem rows_genw {t tl : TypeId} {css : List (List Value)} {s : Sl} (hl : css.length = s.len) (hr : rdsl (heapOf W) s css.flatten)
    (ih : ∀ c ∈ css, ∃ (v : V) (x : TV), c = T_api_Value.c x ∧ VIs (heapOf W) v x ∧ VB v) : ∃ l : List V, VRow (heapOf W) s l ∧ VBs l := by
  have key : ∀ (css : List (List Value)), (∀ c ∈ css, ∃ (v : V) (x : TV), c = T_api_Value.c x ∧ VIs (heapOf W) v x ∧ VB v) →
      ∃ (l : List V) (xs : List TV), css.flatten = xs.flatMap T_api_Value.c ∧ css.length = xs.length ∧ VsAre (heapOf W) l xs ∧ VBs l := by
    intro css
    induction css with
    | nil => intro _; exact ⟨[], [], rfl, rfl, trivial, trivial⟩
    | cons c css ihc =>
      intro hh
      obtain ⟨v, x, h1, h2, h3⟩ := hh c (List.mem_cons_self ..)
      obtain ⟨l, xs, g1, g2, g3, g4⟩ := ihc fun c' hc => hh c' (List.mem_cons_of_mem _ hc)
      exact ⟨v :: l, x :: xs, by rw [List.flatten_cons, List.flatMap_cons, g1, h1], by simp [g2], ⟨h2, g3⟩, ⟨h3, g4⟩⟩
  obtain ⟨l, xs, g1, g2, g3, g4⟩ := key css ih
  exact ⟨l, ⟨xs, by rw [← g1]; exact hr, by omega, g3⟩, g4⟩

theorem valw_of {t tl : TypeId} (hT : ValT P t tl) (hb : 1 ≤ P.bytesOf t) : ∀ (n : Nat) {cs : List Value}, TrW P W n t cs → ∃ (v : V) (y : TV), cs = T_api_Value.c y ∧ VIs (heapOf W) v y ∧ VB v := by
  intro n
  induction n using Nat.strongRecOn with
  | _ n ih =>
  intro cs h
  obtain ⟨fs, hu, hfs, ⟨f0, t0, a0, b0, c0, d0, e0⟩, ⟨f1, t1, a1, b1, c1, d1, e1⟩, ⟨f2, t2, a2, b2, c2, d2, e2⟩, ⟨f3, a3, b3, c3, e3⟩⟩ := hT.st
  obtain ⟨hl, m, rfl, hf⟩ := h.struct hu
  rw [hT.cells] at hl
  match cs, hl with
  | [q0, q1, q2, q3], _ =>
  have g0 := hf 0 f0 a0
  have g1 := hf 1 f1 a1
  have g2 := hf 2 f2 a2
  have g3 := hf 3 f3 a3
  rw [b0, c0, e0] at g0
  rw [b1, c1, e1] at g1
  rw [b2, c2, e2] at g2
  rw [b3, c3, e3] at g3
  simp at g0 g1 g2 g3
  obtain ⟨n0, k0, k2⟩ := g0.int d0
  obtain ⟨n1, l0, l2⟩ := g1.int d1
  obtain ⟨s2, m0, m1, m2⟩ := g2.str d2
  obtain ⟨s, css, m', hm', p0, p1, p2, p3, p4, p5, p6⟩ := g3.slice hT.sl hT.cells (by omega)
  have hmx : reachBytes = 140737488351232 := rfl
  rw [hmx] at p3 m2
  obtain ⟨l, r1, r2⟩ := rows_genw (t := t) (tl := tl) p4 p5 fun c hc => ih m' (by omega) (p6 c hc).2
  have hll := r1.len
  have hsl : s.len ≤ 140737488351232 := Nat.le_trans (Nat.le_mul_of_pos_right _ (by omega)) p3
  refine ⟨.mk n0 n1 s2 l, ⟨n0, n1, s2, s⟩, ?_, VIs_iff.2 ⟨rfl, rfl, rfl, r1⟩, ⟨?_, ?_, by omega, by omega, r2⟩⟩
  · injection k0 with k0
    injection l0 with l0
    injection m0 with m0
    injection p0 with p0
    subst k0; subst l0; subst m0; subst p0
    simp [T_api_Value.c]
  · simpa [Lit.wf, IntKind.min, IntKind.max, IntKind.signed, IntKind.bits] using k2
  · simpa [Lit.wf, IntKind.min, IntKind.max, IntKind.signed, IntKind.bits] using l2

end
end Sx
end

noncomputable section
set_option linter.unusedVariables false
set_option linter.unusedSimpArgs false
set_option maxRecDepth 100000
namespace Sx
open Go Go.Proofs
section
variable {P : Program} {W : World}
theorem sl_of {α β : Type} {R : α → β → Prop} {c : β → List Value} {t e : TypeId} {z n : Nat} {cs : List Value} (h : TrW P W n t cs) (ht : P.underlying t = some (.slice e)) (hz : P.cellsOf e = z) (hz0 : 0 < z) (hb : 1 ≤ P.bytesOf e)
    (ih : ∀ m, m < n → ∀ cs, TrW P W m e cs → ∃ (v : α) (x : β), cs = c x ∧ R v x) : ∃ (s : Sl) (l : List α), cs = [slv s] ∧ SlIs R c (heapOf W) s l := by
  obtain ⟨s, css, m, hm, h1, h2, h3, h4, h5, h6, h7⟩ := h.slice ht hz hz0
  have key : ∀ (css : List (List Value)), (∀ c' ∈ css, ∃ (v : α) (x : β), c' = c x ∧ R v x) → ∃ (l : List α) (xs : List β), css.flatten = xs.flatMap c ∧ css.length = xs.length ∧ l.length = xs.length ∧ ∀ (i : Nat) (v : α) (x : β), l[i]? = some v → xs[i]? = some x → R v x := by
    intro css
    induction css with
    | nil => intro _; exact ⟨[], [], rfl, rfl, rfl, fun i v x hv => by simp at hv⟩
    | cons c' css ihc =>
      intro hh
      obtain ⟨v, x, g1, g2⟩ := hh c' (List.mem_cons_self ..)
      obtain ⟨l, xs, k1, k2, k3, k4⟩ := ihc fun c' hc => hh c' (List.mem_cons_of_mem _ hc)
      refine ⟨v :: l, x :: xs, by rw [List.flatten_cons, List.flatMap_cons, k1, g1], by simp [k2], by simp [k3], fun i v' x' hv hx => ?_⟩
      cases i with
      | zero => simp at hv hx; subst hv; subst hx; exact g2
      | succ i => exact k4 i v' x' (by simpa using hv) (by simpa using hx)
  obtain ⟨l, xs, k1, k2, k3, k4⟩ := key css fun c' hc => ih m hm c' (h7 c' hc).2
  have hmx : reachBytes = 140737488351232 := rfl
  rw [hmx] at h4
  have hsl : s.len ≤ 140737488351232 := Nat.le_trans (Nat.le_mul_of_pos_right _ (by omega)) h4
  exact ⟨s, l, h1, xs, by rw [← k1]; exact h6, by omega, k3, by omega, k4⟩
end
section
variable {W : World}
theorem valT6 : ValT Tryz.prog 44 42 := ⟨⟨_, Tryz.underlying44, rfl, ⟨_, _, rfl, rfl, rfl, Tryz.underlying5, by kernel_rfl⟩, ⟨_, _, rfl, rfl, rfl, Tryz.underlying2, by kernel_rfl⟩, ⟨_, _, rfl, rfl, rfl, Tryz.underlying9, by kernel_rfl⟩, ⟨_, rfl, rfl, rfl, by kernel_rfl⟩⟩, by kernel_rfl, Tryz.underlying42⟩
theorem pos_of {n : Nat} {cs : List Value} (h : TrW Tryz.prog W n 41 cs) : ∃ x : T_api_Pos, cs = [.int .i64 x.Line, .int .i64 x.Col] := by
  obtain ⟨hl, m, rfl, hf⟩ := h.struct Tryz.underlying41
  rw [show Tryz.prog.cellsOf 41 = 2 by kernel_rfl] at hl
  match cs, hl with
  | [q0, q1], _ =>
  have g0 : TrW Tryz.prog W m 3 (([q0, q1].drop 0).take (Tryz.prog.cellsOf 3)) := hf 0 _ rfl
  have g1 : TrW Tryz.prog W m 3 (([q0, q1].drop 1).take (Tryz.prog.cellsOf 3)) := hf 1 _ rfl
  rw [show Tryz.prog.cellsOf 3 = 1 by kernel_rfl] at g0 g1
  obtain ⟨x0, e0, _⟩ := g0.int Tryz.underlying3
  obtain ⟨x1, e1, _⟩ := g1.int Tryz.underlying3
  refine ⟨⟨x0, x1⟩, ?_⟩
  injection e0 with e0; injection e1 with e1
  rw [e0, e1]
theorem Type_of : ∀ (n : Nat) {cs : List Value}, TrW Tryz.prog W n 75 cs → ∃ (v : TyV) (x : T_api_Type), cs = T_api_Type.c x ∧ TyIs (heapOf W) v x := by
  intro n
  induction n using Nat.strongRecOn with
  | _ n ih =>
  intro cs h
  obtain ⟨hl, m, rfl, hf⟩ := h.struct Tryz.underlying75
  rw [show Tryz.prog.cellsOf 75 = 2 by kernel_rfl] at hl
  match cs, hl with
  | [q0, q1], _ =>
  have g0 : TrW Tryz.prog W m 9 (([q0, q1].drop 0).take (Tryz.prog.cellsOf 9)) := hf 0 _ rfl
  rw [show Tryz.prog.cellsOf 9 = 1 by kernel_rfl] at g0
  replace g0 : TrW Tryz.prog W m 9 [q0] := g0
  obtain ⟨x0, e0, _, _⟩ := g0.str Tryz.underlying9
  have g1 : TrW Tryz.prog W m 73 (([q0, q1].drop 1).take (Tryz.prog.cellsOf 73)) := hf 1 _ rfl
  rw [show Tryz.prog.cellsOf 73 = 1 by kernel_rfl] at g1
  replace g1 : TrW Tryz.prog W m 73 [q1] := g1
  obtain ⟨x1, l1, e1, r1⟩ := sl_of (R := (TyIs (heapOf W))) (c := T_api_Type.c) g1 Tryz.underlying73 (show Tryz.prog.cellsOf 75 = 2 by kernel_rfl) (by omega) (of_decide_eq_true (by kernel_rfl)) (fun m hm cs hc => ih m (by omega) hc)
  exact ⟨.mk x0 l1, ⟨x0, x1⟩, (show [q0, q1] = [q0] ++ ([q1]) from rfl).trans (by rw [e0, e1]; rfl), TyIs_iff.2 ⟨rfl, r1⟩⟩
theorem FieldDef_of : ∀ (n : Nat) {cs : List Value}, TrW Tryz.prog W n 79 cs → ∃ (v : FdV) (x : T_api_FieldDef), cs = T_api_FieldDef.c x ∧ FdIs (heapOf W) v x := by
  intro n
  intro cs h
  obtain ⟨hl, m, rfl, hf⟩ := h.struct Tryz.underlying79
  rw [show Tryz.prog.cellsOf 79 = 3 by kernel_rfl] at hl
  match cs, hl with
  | [q0, q1, q2], _ =>
  have g0 : TrW Tryz.prog W m 9 (([q0, q1, q2].drop 0).take (Tryz.prog.cellsOf 9)) := hf 0 _ rfl
  rw [show Tryz.prog.cellsOf 9 = 1 by kernel_rfl] at g0
  replace g0 : TrW Tryz.prog W m 9 [q0] := g0
  obtain ⟨x0, e0, _, _⟩ := g0.str Tryz.underlying9
  have g1 : TrW Tryz.prog W m 75 (([q0, q1, q2].drop 1).take (Tryz.prog.cellsOf 75)) := hf 1 _ rfl
  rw [show Tryz.prog.cellsOf 75 = 2 by kernel_rfl] at g1
  replace g1 : TrW Tryz.prog W m 75 [q1, q2] := g1
  obtain ⟨v1, x1, e1, r1⟩ := Type_of _ g1
  exact ⟨⟨x0, v1⟩, ⟨x0, x1⟩, (show [q0, q1, q2] = [q0] ++ ([q1, q2]) from rfl).trans (by rw [e0, e1]; rfl), ⟨rfl, r1⟩⟩
theorem Expr_of : ∀ (n : Nat) {cs : List Value}, TrW Tryz.prog W n 47 cs → ∃ (v : ExV) (x : T_api_Expr), cs = T_api_Expr.c x ∧ ExIs (heapOf W) v x := by
  intro n
  induction n using Nat.strongRecOn with
  | _ n ih =>
  intro cs h
  obtain ⟨hl, m, rfl, hf⟩ := h.struct Tryz.underlying47
  rw [show Tryz.prog.cellsOf 47 = 9 by kernel_rfl] at hl
  match cs, hl with
  | [q0, q1, q2, q3, q4, q5, q6, q7, q8], _ =>
  have g0 : TrW Tryz.prog W m 5 (([q0, q1, q2, q3, q4, q5, q6, q7, q8].drop 0).take (Tryz.prog.cellsOf 5)) := hf 0 _ rfl
  rw [show Tryz.prog.cellsOf 5 = 1 by kernel_rfl] at g0
  replace g0 : TrW Tryz.prog W m 5 [q0] := g0
  obtain ⟨x0, e0, _⟩ := g0.int Tryz.underlying5
  have g1 : TrW Tryz.prog W m 41 (([q0, q1, q2, q3, q4, q5, q6, q7, q8].drop 1).take (Tryz.prog.cellsOf 41)) := hf 1 _ rfl
  rw [show Tryz.prog.cellsOf 41 = 2 by kernel_rfl] at g1
  replace g1 : TrW Tryz.prog W m 41 [q1, q2] := g1
  obtain ⟨x1, e1⟩ := pos_of g1
  have g2 : TrW Tryz.prog W m 9 (([q0, q1, q2, q3, q4, q5, q6, q7, q8].drop 3).take (Tryz.prog.cellsOf 9)) := hf 2 _ rfl
  rw [show Tryz.prog.cellsOf 9 = 1 by kernel_rfl] at g2
  replace g2 : TrW Tryz.prog W m 9 [q3] := g2
  obtain ⟨x2, e2, _, _⟩ := g2.str Tryz.underlying9
  have g3 : TrW Tryz.prog W m 44 (([q0, q1, q2, q3, q4, q5, q6, q7, q8].drop 4).take (Tryz.prog.cellsOf 44)) := hf 3 _ rfl
  rw [show Tryz.prog.cellsOf 44 = 4 by kernel_rfl] at g3
  replace g3 : TrW Tryz.prog W m 44 [q4, q5, q6, q7] := g3
  obtain ⟨v3, x3, e3, r3, b3⟩ := valw_of valT6 (of_decide_eq_true (by kernel_rfl)) _ g3
  have g4 : TrW Tryz.prog W m 45 (([q0, q1, q2, q3, q4, q5, q6, q7, q8].drop 8).take (Tryz.prog.cellsOf 45)) := hf 4 _ rfl
  rw [show Tryz.prog.cellsOf 45 = 1 by kernel_rfl] at g4
  replace g4 : TrW Tryz.prog W m 45 [q8] := g4
  obtain ⟨x4, l4, e4, r4⟩ := sl_of (R := (ExIs (heapOf W))) (c := T_api_Expr.c) g4 Tryz.underlying45 (show Tryz.prog.cellsOf 47 = 9 by kernel_rfl) (by omega) (of_decide_eq_true (by kernel_rfl)) (fun m hm cs hc => ih m (by omega) hc)
  exact ⟨.mk x0 x2 v3 l4, ⟨x0, x1, x2, x3, x4⟩, (show [q0, q1, q2, q3, q4, q5, q6, q7, q8] = [q0] ++ ([q1, q2] ++ ([q3] ++ ([q4, q5, q6, q7] ++ ([q8])))) from rfl).trans (by rw [e0, e1, e2, e3, e4]; rfl), ExIs_iff.2 ⟨rfl, rfl, r3, b3, r4⟩⟩
theorem Literal_of : ∀ (n : Nat) {cs : List Value}, TrW Tryz.prog W n 56 cs → ∃ (v : LiV) (x : T_api_Literal), cs = T_api_Literal.c x ∧ LiIs (heapOf W) v x := by
  intro n
  intro cs h
  obtain ⟨hl, m, rfl, hf⟩ := h.struct Tryz.underlying56
  rw [show Tryz.prog.cellsOf 56 = 5 by kernel_rfl] at hl
  match cs, hl with
  | [q0, q1, q2, q3, q4], _ =>
  have g0 : TrW Tryz.prog W m 5 (([q0, q1, q2, q3, q4].drop 0).take (Tryz.prog.cellsOf 5)) := hf 0 _ rfl
  rw [show Tryz.prog.cellsOf 5 = 1 by kernel_rfl] at g0
  replace g0 : TrW Tryz.prog W m 5 [q0] := g0
  obtain ⟨x0, e0, _⟩ := g0.int Tryz.underlying5
  have g1 : TrW Tryz.prog W m 41 (([q0, q1, q2, q3, q4].drop 1).take (Tryz.prog.cellsOf 41)) := hf 1 _ rfl
  rw [show Tryz.prog.cellsOf 41 = 2 by kernel_rfl] at g1
  replace g1 : TrW Tryz.prog W m 41 [q1, q2] := g1
  obtain ⟨x1, e1⟩ := pos_of g1
  have g2 : TrW Tryz.prog W m 9 (([q0, q1, q2, q3, q4].drop 3).take (Tryz.prog.cellsOf 9)) := hf 2 _ rfl
  rw [show Tryz.prog.cellsOf 9 = 1 by kernel_rfl] at g2
  replace g2 : TrW Tryz.prog W m 9 [q3] := g2
  obtain ⟨x2, e2, _, _⟩ := g2.str Tryz.underlying9
  have g3 : TrW Tryz.prog W m 45 (([q0, q1, q2, q3, q4].drop 4).take (Tryz.prog.cellsOf 45)) := hf 3 _ rfl
  rw [show Tryz.prog.cellsOf 45 = 1 by kernel_rfl] at g3
  replace g3 : TrW Tryz.prog W m 45 [q4] := g3
  obtain ⟨x3, l3, e3, r3⟩ := sl_of (R := (ExIs (heapOf W))) (c := T_api_Expr.c) g3 Tryz.underlying45 (show Tryz.prog.cellsOf 47 = 9 by kernel_rfl) (by omega) (of_decide_eq_true (by kernel_rfl)) (fun m hm cs hc => Expr_of m hc)
  exact ⟨⟨x0, x2, l3⟩, ⟨x0, x1, x2, x3⟩, (show [q0, q1, q2, q3, q4] = [q0] ++ ([q1, q2] ++ ([q3] ++ ([q4]))) from rfl).trans (by rw [e0, e1, e2, e3]; rfl), ⟨rfl, rfl, r3⟩⟩
theorem ConsDef_of : ∀ (n : Nat) {cs : List Value}, TrW Tryz.prog W n 68 cs → ∃ (v : CnV) (x : T_api_ConsDef), cs = T_api_ConsDef.c x ∧ CnIs (heapOf W) v x := by
  intro n
  intro cs h
  obtain ⟨hl, m, rfl, hf⟩ := h.struct Tryz.underlying68
  rw [show Tryz.prog.cellsOf 68 = 2 by kernel_rfl] at hl
  match cs, hl with
  | [q0, q1], _ =>
  have g0 : TrW Tryz.prog W m 9 (([q0, q1].drop 0).take (Tryz.prog.cellsOf 9)) := hf 0 _ rfl
  rw [show Tryz.prog.cellsOf 9 = 1 by kernel_rfl] at g0
  replace g0 : TrW Tryz.prog W m 9 [q0] := g0
  obtain ⟨x0, e0, _, _⟩ := g0.str Tryz.underlying9
  have g1 : TrW Tryz.prog W m 66 (([q0, q1].drop 1).take (Tryz.prog.cellsOf 66)) := hf 1 _ rfl
  rw [show Tryz.prog.cellsOf 66 = 1 by kernel_rfl] at g1
  replace g1 : TrW Tryz.prog W m 66 [q1] := g1
  obtain ⟨x1, l1, e1, r1⟩ := sl_of (R := (FdIs (heapOf W))) (c := T_api_FieldDef.c) g1 Tryz.underlying66 (show Tryz.prog.cellsOf 79 = 3 by kernel_rfl) (by omega) (of_decide_eq_true (by kernel_rfl)) (fun m hm cs hc => FieldDef_of m hc)
  exact ⟨⟨x0, l1⟩, ⟨x0, x1⟩, (show [q0, q1] = [q0] ++ ([q1]) from rfl).trans (by rw [e0, e1]; rfl), ⟨rfl, r1⟩⟩
theorem TypeDef_of : ∀ (n : Nat) {cs : List Value}, TrW Tryz.prog W n 64 cs → ∃ (v : TdV) (x : T_api_TypeDef), cs = T_api_TypeDef.c x ∧ TdIs (heapOf W) v x := by
  intro n
  intro cs h
  obtain ⟨hl, m, rfl, hf⟩ := h.struct Tryz.underlying64
  rw [show Tryz.prog.cellsOf 64 = 6 by kernel_rfl] at hl
  match cs, hl with
  | [q0, q1, q2, q3, q4, q5], _ =>
  have g0 : TrW Tryz.prog W m 41 (([q0, q1, q2, q3, q4, q5].drop 0).take (Tryz.prog.cellsOf 41)) := hf 0 _ rfl
  rw [show Tryz.prog.cellsOf 41 = 2 by kernel_rfl] at g0
  replace g0 : TrW Tryz.prog W m 41 [q0, q1] := g0
  obtain ⟨x0, e0⟩ := pos_of g0
  have g1 : TrW Tryz.prog W m 4 (([q0, q1, q2, q3, q4, q5].drop 2).take (Tryz.prog.cellsOf 4)) := hf 1 _ rfl
  rw [show Tryz.prog.cellsOf 4 = 1 by kernel_rfl] at g1
  replace g1 : TrW Tryz.prog W m 4 [q2] := g1
  obtain ⟨x1, e1⟩ := g1.bool Tryz.underlying4
  have g2 : TrW Tryz.prog W m 9 (([q0, q1, q2, q3, q4, q5].drop 3).take (Tryz.prog.cellsOf 9)) := hf 2 _ rfl
  rw [show Tryz.prog.cellsOf 9 = 1 by kernel_rfl] at g2
  replace g2 : TrW Tryz.prog W m 9 [q3] := g2
  obtain ⟨x2, e2, _, _⟩ := g2.str Tryz.underlying9
  have g3 : TrW Tryz.prog W m 36 (([q0, q1, q2, q3, q4, q5].drop 4).take (Tryz.prog.cellsOf 36)) := hf 3 _ rfl
  rw [show Tryz.prog.cellsOf 36 = 1 by kernel_rfl] at g3
  replace g3 : TrW Tryz.prog W m 36 [q4] := g3
  obtain ⟨x3, l3, e3, r3⟩ := sl_of (R := (fun (v : Str) (x : Str) => x = v)) (c := (fun x => [sv x])) g3 Tryz.underlying36 (show Tryz.prog.cellsOf 9 = 1 by kernel_rfl) (by omega) (of_decide_eq_true (by kernel_rfl)) (fun m hm cs hc => by obtain ⟨s, hs, _, _⟩ := hc.str Tryz.underlying9; exact ⟨s, s, hs, rfl⟩)
  have g4 : TrW Tryz.prog W m 62 (([q0, q1, q2, q3, q4, q5].drop 5).take (Tryz.prog.cellsOf 62)) := hf 4 _ rfl
  rw [show Tryz.prog.cellsOf 62 = 1 by kernel_rfl] at g4
  replace g4 : TrW Tryz.prog W m 62 [q5] := g4
  obtain ⟨x4, l4, e4, r4⟩ := sl_of (R := (CnIs (heapOf W))) (c := T_api_ConsDef.c) g4 Tryz.underlying62 (show Tryz.prog.cellsOf 68 = 2 by kernel_rfl) (by omega) (of_decide_eq_true (by kernel_rfl)) (fun m hm cs hc => ConsDef_of m hc)
  exact ⟨⟨x1, x2, l3, l4⟩, ⟨x0, x1, x2, x3, x4⟩, (show [q0, q1, q2, q3, q4, q5] = [q0, q1] ++ ([q2] ++ ([q3] ++ ([q4] ++ ([q5])))) from rfl).trans (by rw [e0, e1, e2, e3, e4]; rfl), ⟨rfl, rfl, r3, r4⟩⟩
theorem RelDef_of : ∀ (n : Nat) {cs : List Value}, TrW Tryz.prog W n 70 cs → ∃ (v : RdV) (x : T_api_RelDef), cs = T_api_RelDef.c x ∧ RdIs (heapOf W) v x := by
  intro n
  intro cs h
  obtain ⟨hl, m, rfl, hf⟩ := h.struct Tryz.underlying70
  rw [show Tryz.prog.cellsOf 70 = 6 by kernel_rfl] at hl
  match cs, hl with
  | [q0, q1, q2, q3, q4, q5], _ =>
  have g0 : TrW Tryz.prog W m 41 (([q0, q1, q2, q3, q4, q5].drop 0).take (Tryz.prog.cellsOf 41)) := hf 0 _ rfl
  rw [show Tryz.prog.cellsOf 41 = 2 by kernel_rfl] at g0
  replace g0 : TrW Tryz.prog W m 41 [q0, q1] := g0
  obtain ⟨x0, e0⟩ := pos_of g0
  have g1 : TrW Tryz.prog W m 4 (([q0, q1, q2, q3, q4, q5].drop 2).take (Tryz.prog.cellsOf 4)) := hf 1 _ rfl
  rw [show Tryz.prog.cellsOf 4 = 1 by kernel_rfl] at g1
  replace g1 : TrW Tryz.prog W m 4 [q2] := g1
  obtain ⟨x1, e1⟩ := g1.bool Tryz.underlying4
  have g2 : TrW Tryz.prog W m 4 (([q0, q1, q2, q3, q4, q5].drop 3).take (Tryz.prog.cellsOf 4)) := hf 2 _ rfl
  rw [show Tryz.prog.cellsOf 4 = 1 by kernel_rfl] at g2
  replace g2 : TrW Tryz.prog W m 4 [q3] := g2
  obtain ⟨x2, e2⟩ := g2.bool Tryz.underlying4
  have g3 : TrW Tryz.prog W m 9 (([q0, q1, q2, q3, q4, q5].drop 4).take (Tryz.prog.cellsOf 9)) := hf 3 _ rfl
  rw [show Tryz.prog.cellsOf 9 = 1 by kernel_rfl] at g3
  replace g3 : TrW Tryz.prog W m 9 [q4] := g3
  obtain ⟨x3, e3, _, _⟩ := g3.str Tryz.underlying9
  have g4 : TrW Tryz.prog W m 66 (([q0, q1, q2, q3, q4, q5].drop 5).take (Tryz.prog.cellsOf 66)) := hf 4 _ rfl
  rw [show Tryz.prog.cellsOf 66 = 1 by kernel_rfl] at g4
  replace g4 : TrW Tryz.prog W m 66 [q5] := g4
  obtain ⟨x4, l4, e4, r4⟩ := sl_of (R := (FdIs (heapOf W))) (c := T_api_FieldDef.c) g4 Tryz.underlying66 (show Tryz.prog.cellsOf 79 = 3 by kernel_rfl) (by omega) (of_decide_eq_true (by kernel_rfl)) (fun m hm cs hc => FieldDef_of m hc)
  exact ⟨⟨x1, x2, x3, l4⟩, ⟨x0, x1, x2, x3, x4⟩, (show [q0, q1, q2, q3, q4, q5] = [q0, q1] ++ ([q2] ++ ([q3] ++ ([q4] ++ ([q5])))) from rfl).trans (by rw [e0, e1, e2, e3, e4]; rfl), ⟨rfl, rfl, rfl, r4⟩⟩
theorem Rule_of : ∀ (n : Nat) {cs : List Value}, TrW Tryz.prog W n 54 cs → ∃ (v : RuV) (x : T_api_Rule), cs = T_api_Rule.c x ∧ RuIs (heapOf W) v x := by
  intro n
  intro cs h
  obtain ⟨hl, m, rfl, hf⟩ := h.struct Tryz.underlying54
  rw [show Tryz.prog.cellsOf 54 = 6 by kernel_rfl] at hl
  match cs, hl with
  | [q0, q1, q2, q3, q4, q5], _ =>
  have g0 : TrW Tryz.prog W m 41 (([q0, q1, q2, q3, q4, q5].drop 0).take (Tryz.prog.cellsOf 41)) := hf 0 _ rfl
  rw [show Tryz.prog.cellsOf 41 = 2 by kernel_rfl] at g0
  replace g0 : TrW Tryz.prog W m 41 [q0, q1] := g0
  obtain ⟨x0, e0⟩ := pos_of g0
  have g1 : TrW Tryz.prog W m 9 (([q0, q1, q2, q3, q4, q5].drop 2).take (Tryz.prog.cellsOf 9)) := hf 1 _ rfl
  rw [show Tryz.prog.cellsOf 9 = 1 by kernel_rfl] at g1
  replace g1 : TrW Tryz.prog W m 9 [q2] := g1
  obtain ⟨x1, e1, _, _⟩ := g1.str Tryz.underlying9
  have g2 : TrW Tryz.prog W m 45 (([q0, q1, q2, q3, q4, q5].drop 3).take (Tryz.prog.cellsOf 45)) := hf 2 _ rfl
  rw [show Tryz.prog.cellsOf 45 = 1 by kernel_rfl] at g2
  replace g2 : TrW Tryz.prog W m 45 [q3] := g2
  obtain ⟨x2, l2, e2, r2⟩ := sl_of (R := (ExIs (heapOf W))) (c := T_api_Expr.c) g2 Tryz.underlying45 (show Tryz.prog.cellsOf 47 = 9 by kernel_rfl) (by omega) (of_decide_eq_true (by kernel_rfl)) (fun m hm cs hc => Expr_of m hc)
  have g3 : TrW Tryz.prog W m 36 (([q0, q1, q2, q3, q4, q5].drop 4).take (Tryz.prog.cellsOf 36)) := hf 3 _ rfl
  rw [show Tryz.prog.cellsOf 36 = 1 by kernel_rfl] at g3
  replace g3 : TrW Tryz.prog W m 36 [q4] := g3
  obtain ⟨x3, l3, e3, r3⟩ := sl_of (R := (fun (v : Str) (x : Str) => x = v)) (c := (fun x => [sv x])) g3 Tryz.underlying36 (show Tryz.prog.cellsOf 9 = 1 by kernel_rfl) (by omega) (of_decide_eq_true (by kernel_rfl)) (fun m hm cs hc => by obtain ⟨s, hs, _, _⟩ := hc.str Tryz.underlying9; exact ⟨s, s, hs, rfl⟩)
  have g4 : TrW Tryz.prog W m 52 (([q0, q1, q2, q3, q4, q5].drop 5).take (Tryz.prog.cellsOf 52)) := hf 4 _ rfl
  rw [show Tryz.prog.cellsOf 52 = 1 by kernel_rfl] at g4
  replace g4 : TrW Tryz.prog W m 52 [q5] := g4
  obtain ⟨x4, l4, e4, r4⟩ := sl_of (R := (LiIs (heapOf W))) (c := T_api_Literal.c) g4 Tryz.underlying52 (show Tryz.prog.cellsOf 56 = 5 by kernel_rfl) (by omega) (of_decide_eq_true (by kernel_rfl)) (fun m hm cs hc => Literal_of m hc)
  exact ⟨⟨x1, l2, l3, l4⟩, ⟨x0, x1, x2, x3, x4⟩, (show [q0, q1, q2, q3, q4, q5] = [q0, q1] ++ ([q2] ++ ([q3] ++ ([q4] ++ ([q5])))) from rfl).trans (by rw [e0, e1, e2, e3, e4]; rfl), ⟨rfl, r2, r3, r4⟩⟩
theorem Never_of : ∀ (n : Nat) {cs : List Value}, TrW Tryz.prog W n 58 cs → ∃ (v : NeV) (x : T_api_Never), cs = T_api_Never.c x ∧ NeIs (heapOf W) v x := by
  intro n
  intro cs h
  obtain ⟨hl, m, rfl, hf⟩ := h.struct Tryz.underlying58
  rw [show Tryz.prog.cellsOf 58 = 4 by kernel_rfl] at hl
  match cs, hl with
  | [q0, q1, q2, q3], _ =>
  have g0 : TrW Tryz.prog W m 41 (([q0, q1, q2, q3].drop 0).take (Tryz.prog.cellsOf 41)) := hf 0 _ rfl
  rw [show Tryz.prog.cellsOf 41 = 2 by kernel_rfl] at g0
  replace g0 : TrW Tryz.prog W m 41 [q0, q1] := g0
  obtain ⟨x0, e0⟩ := pos_of g0
  have g1 : TrW Tryz.prog W m 9 (([q0, q1, q2, q3].drop 2).take (Tryz.prog.cellsOf 9)) := hf 1 _ rfl
  rw [show Tryz.prog.cellsOf 9 = 1 by kernel_rfl] at g1
  replace g1 : TrW Tryz.prog W m 9 [q2] := g1
  obtain ⟨x1, e1, _, _⟩ := g1.str Tryz.underlying9
  have g2 : TrW Tryz.prog W m 52 (([q0, q1, q2, q3].drop 3).take (Tryz.prog.cellsOf 52)) := hf 2 _ rfl
  rw [show Tryz.prog.cellsOf 52 = 1 by kernel_rfl] at g2
  replace g2 : TrW Tryz.prog W m 52 [q3] := g2
  obtain ⟨x2, l2, e2, r2⟩ := sl_of (R := (LiIs (heapOf W))) (c := T_api_Literal.c) g2 Tryz.underlying52 (show Tryz.prog.cellsOf 56 = 5 by kernel_rfl) (by omega) (of_decide_eq_true (by kernel_rfl)) (fun m hm cs hc => Literal_of m hc)
  exact ⟨⟨x1, l2⟩, ⟨x0, x1, x2⟩, (show [q0, q1, q2, q3] = [q0, q1] ++ ([q2] ++ ([q3])) from rfl).trans (by rw [e0, e1, e2]; rfl), ⟨rfl, r2⟩⟩
theorem Import_of : ∀ (n : Nat) {cs : List Value}, TrW Tryz.prog W n 77 cs → ∃ (v : Str) (x : T_api_Import), cs = T_api_Import.c x ∧ ImIs v x := by
  intro n
  intro cs h
  obtain ⟨hl, m, rfl, hf⟩ := h.struct Tryz.underlying77
  rw [show Tryz.prog.cellsOf 77 = 3 by kernel_rfl] at hl
  match cs, hl with
  | [q0, q1, q2], _ =>
  have g0 : TrW Tryz.prog W m 41 (([q0, q1, q2].drop 0).take (Tryz.prog.cellsOf 41)) := hf 0 _ rfl
  rw [show Tryz.prog.cellsOf 41 = 2 by kernel_rfl] at g0
  replace g0 : TrW Tryz.prog W m 41 [q0, q1] := g0
  obtain ⟨x0, e0⟩ := pos_of g0
  have g1 : TrW Tryz.prog W m 9 (([q0, q1, q2].drop 2).take (Tryz.prog.cellsOf 9)) := hf 1 _ rfl
  rw [show Tryz.prog.cellsOf 9 = 1 by kernel_rfl] at g1
  replace g1 : TrW Tryz.prog W m 9 [q2] := g1
  obtain ⟨x1, e1, _, _⟩ := g1.str Tryz.underlying9
  exact ⟨x1, ⟨x0, x1⟩, (show [q0, q1, q2] = [q0, q1] ++ ([q2]) from rfl).trans (by rw [e0, e1]; rfl), rfl⟩
theorem Module_of : ∀ (n : Nat) {cs : List Value}, TrW Tryz.prog W n 28 cs → ∃ (v : MoV) (x : T_api_Module), cs = T_api_Module.c x ∧ MoIs (heapOf W) v x := by
  intro n
  intro cs h
  obtain ⟨hl, m, rfl, hf⟩ := h.struct Tryz.underlying28
  rw [show Tryz.prog.cellsOf 28 = 6 by kernel_rfl] at hl
  match cs, hl with
  | [q0, q1, q2, q3, q4, q5], _ =>
  have g0 : TrW Tryz.prog W m 9 (([q0, q1, q2, q3, q4, q5].drop 0).take (Tryz.prog.cellsOf 9)) := hf 0 _ rfl
  rw [show Tryz.prog.cellsOf 9 = 1 by kernel_rfl] at g0
  replace g0 : TrW Tryz.prog W m 9 [q0] := g0
  obtain ⟨x0, e0, _, _⟩ := g0.str Tryz.underlying9
  have g1 : TrW Tryz.prog W m 22 (([q0, q1, q2, q3, q4, q5].drop 1).take (Tryz.prog.cellsOf 22)) := hf 1 _ rfl
  rw [show Tryz.prog.cellsOf 22 = 1 by kernel_rfl] at g1
  replace g1 : TrW Tryz.prog W m 22 [q1] := g1
  obtain ⟨x1, l1, e1, r1⟩ := sl_of (R := (ImIs)) (c := T_api_Import.c) g1 Tryz.underlying22 (show Tryz.prog.cellsOf 77 = 3 by kernel_rfl) (by omega) (of_decide_eq_true (by kernel_rfl)) (fun m hm cs hc => Import_of m hc)
  have g2 : TrW Tryz.prog W m 23 (([q0, q1, q2, q3, q4, q5].drop 2).take (Tryz.prog.cellsOf 23)) := hf 2 _ rfl
  rw [show Tryz.prog.cellsOf 23 = 1 by kernel_rfl] at g2
  replace g2 : TrW Tryz.prog W m 23 [q2] := g2
  obtain ⟨x2, l2, e2, r2⟩ := sl_of (R := (TdIs (heapOf W))) (c := T_api_TypeDef.c) g2 Tryz.underlying23 (show Tryz.prog.cellsOf 64 = 6 by kernel_rfl) (by omega) (of_decide_eq_true (by kernel_rfl)) (fun m hm cs hc => TypeDef_of m hc)
  have g3 : TrW Tryz.prog W m 24 (([q0, q1, q2, q3, q4, q5].drop 3).take (Tryz.prog.cellsOf 24)) := hf 3 _ rfl
  rw [show Tryz.prog.cellsOf 24 = 1 by kernel_rfl] at g3
  replace g3 : TrW Tryz.prog W m 24 [q3] := g3
  obtain ⟨x3, l3, e3, r3⟩ := sl_of (R := (RdIs (heapOf W))) (c := T_api_RelDef.c) g3 Tryz.underlying24 (show Tryz.prog.cellsOf 70 = 6 by kernel_rfl) (by omega) (of_decide_eq_true (by kernel_rfl)) (fun m hm cs hc => RelDef_of m hc)
  have g4 : TrW Tryz.prog W m 25 (([q0, q1, q2, q3, q4, q5].drop 4).take (Tryz.prog.cellsOf 25)) := hf 4 _ rfl
  rw [show Tryz.prog.cellsOf 25 = 1 by kernel_rfl] at g4
  replace g4 : TrW Tryz.prog W m 25 [q4] := g4
  obtain ⟨x4, l4, e4, r4⟩ := sl_of (R := (RuIs (heapOf W))) (c := T_api_Rule.c) g4 Tryz.underlying25 (show Tryz.prog.cellsOf 54 = 6 by kernel_rfl) (by omega) (of_decide_eq_true (by kernel_rfl)) (fun m hm cs hc => Rule_of m hc)
  have g5 : TrW Tryz.prog W m 26 (([q0, q1, q2, q3, q4, q5].drop 5).take (Tryz.prog.cellsOf 26)) := hf 5 _ rfl
  rw [show Tryz.prog.cellsOf 26 = 1 by kernel_rfl] at g5
  replace g5 : TrW Tryz.prog W m 26 [q5] := g5
  obtain ⟨x5, l5, e5, r5⟩ := sl_of (R := (NeIs (heapOf W))) (c := T_api_Never.c) g5 Tryz.underlying26 (show Tryz.prog.cellsOf 58 = 4 by kernel_rfl) (by omega) (of_decide_eq_true (by kernel_rfl)) (fun m hm cs hc => Never_of m hc)
  exact ⟨⟨x0, l1, l2, l3, l4, l5⟩, ⟨x0, x1, x2, x3, x4, x5⟩, (show [q0, q1, q2, q3, q4, q5] = [q0] ++ ([q1] ++ ([q2] ++ ([q3] ++ ([q4] ++ ([q5]))))) from rfl).trans (by rw [e0, e1, e2, e3, e4, e5]; rfl), ⟨rfl, r1, r2, r3, r4, r5⟩⟩
theorem argw_mod {H : Type} {enc : TypeId × Value → H} {base : Nat} {v : Value} {d : DataW H} {p : List MemPlace} (hv : Value.okWide Tryz.prog W .any base 28 v) (h : DataW.Trod enc Tryz.prog W 0 (fun _ => true) true 28 v d p) (hw : ∀ w ∈ d.weights Tryz.prog 28, w ≤ reachBytes) :
    ∃ (a : MoV) (x : T_api_Module), v = .agg (T_api_Module.c x).toArray ∧ MoIs (heapOf W) a x := by
  obtain ⟨cs, rfl, hl⟩ := WideShapes.okWide_struct Tryz.underlying28 hv
  obtain ⟨n, hn⟩ := TrW.of h hw
  obtain ⟨a, x, h1, h2⟩ := Module_of n hn
  refine ⟨a, x, ?_, h2⟩
  simp only [Value.cells] at h1
  rw [← h1]
end
end Sx
end

noncomputable section
namespace Sx
open Go Go.Proofs
theorem TreeSame_all {C : Ctx} {H : Heap} (hC : CntC C) {v w : MoV} {x y : T_api_Module} (hx : MoIs H v x) (hy : MoIs H w y) : c_law06_TreeSame C x y (fun r _ => r = true) H :=
  TreeSame_ok (fun k => awake_ok hC k) hx hy fun _ => rfl
end Sx
end

