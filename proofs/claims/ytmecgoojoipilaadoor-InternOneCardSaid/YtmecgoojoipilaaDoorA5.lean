/-
  Texts of this family, one behind the other: IntP2, IntP3, ValH, IntK, IntA, LawIOne.
-/
import Derived.Test.YtmecgoojoipilaaDoorA4
noncomputable section
set_option linter.unusedVariables false
set_option linter.unusedSimpArgs false
set_option maxRecDepth 10000
namespace Sx
open Go Go.Proofs
abbrev encI : Int → Value := fun x : Int => (.int .i64 x : Value)
/-- the table tb, in the blocks F, holds vs -/
structure Tb (H : Heap) (F : Nat → Prop) (tb : Nat) (vs : List V) : Prop where
  ex : ∃ (R : Heap) (s : Sl) (m : Nat) (l : List (Str × Int)) (xs : List TV), H tb = some (true, .row [slv s, mv (some m)]) ∧ Own H 4 s (xs.flatMap T_api_Value.c) ∧ R.le H ∧ VsAre R vs xs ∧ MapIs encI H m l ∧ KeyOf l vs ∧
    tb ≠ m ∧ (R tb = none ∧ R m = none) ∧ (∀ p, s.p = some p → p.1 ≠ tb ∧ p.1 ≠ m ∧ R p.1 = none ∧ F p.1) ∧ (F tb ∧ F m) ∧ ∀ c, R c ≠ none → F c
  vals : Vals vs
  dom : ∀ c, F c → H c ≠ none
section
variable {C : Ctx} {H : Heap} {F : Nat → Prop} {tb : Nat} {vs : List V}
theorem Tb.le {H2 : Heap} (h : Tb H F tb vs) (hle : H.le H2) : Tb H2 F tb vs := by
  obtain ⟨⟨R, s, m, l, xs, h1, h2, h3, h4, h5, h6, h7, h8, h9, h10, h11⟩, hv, hd⟩ := h
  refine ⟨⟨R, s, m, l, xs, hle _ _ h1, h2.le hle, h3.trans hle, h4, h5.le hle, h6, h7, h8, h9, h10, h11⟩, hv, fun c hc e => hd c hc (hle.none e)⟩
theorem Tb.keep {F2 : Nat → Prop} {H2 : Heap} (h : Tb H F tb vs) (hk : Keep F2 H H2) (hF : ∀ c, F c → ¬ F2 c) : Tb H2 F tb vs := by
  obtain ⟨⟨R, s, m, l, xs, h1, h2, h3, h4, h5, h6, h7, h8, h9, h10, h11⟩, hv, hd⟩ := h
  have st : ∀ c e, F c → H c = some e → H2 c = some e := fun c e hc he => hk c e (hF c hc) he
  refine ⟨⟨R, s, m, l, xs, st _ _ h10.1 h1, ?_, fun c e hc => st c e (h11 c (by rw [hc]; simp)) (h3 c e hc), h4, ?_, h6, h7, h8, h9, h10, h11⟩, hv, fun c hc e => ?_⟩
  · obtain ⟨q1, q2, q3, q4 | ⟨b, sp, q4, q5, q6⟩⟩ := h2
    · exact ⟨q1, q2, q3, .inl q4⟩
    · exact ⟨q1, q2, q3, .inr ⟨b, sp, q4, st _ _ (h9 _ q4).2.2.2 q5, q6⟩⟩
  · obtain ⟨⟨es, ck, q1, q2⟩, q3⟩ := h5
    exact ⟨⟨es, ck, st _ _ h10.2 q1, q2⟩, q3⟩
  · cases hh : H c with
    | none => exact hd c hc hh
    | some x => rw [st c x hc hh] at e; cases e
theorem new_ok {K : Option (Nat × Nat) → Heap → Prop} (k : ∀ tb H2, H.le H2 → H tb = none → Tb H2 (fun c => H c = none ∧ H2 c ≠ none) tb [] → K (some (tb, 0)) H2) : c_intern_New C K H := by
  apply ad_intern_New
  unfold sh_intern_New
  intro b1 n1 b3 n3
  have l1 := Heap.le_put n1 (g := .obj (.map #[] 0)) (m := true)
  have l3 := Heap.le_put n3 (g := .row (T_intern_Table.c ⟨Sl.nil, some b1⟩)) (m := true)
  have ne : b3 ≠ b1 := fun e => by rw [e, Heap.put_same] at n3; cases n3
  have n3' : H b3 = none := l1.none n3
  refine k b3 _ (l1.trans l3) n3' ⟨⟨fun _ => none, Sl.nil, b1, [], [], Heap.put_same .., Own.nil _ 4, (fun c e h => by cases h), trivial, MapIs.new.le l3, KeyOf.nil, ne, ⟨rfl, rfl⟩, (fun p hp => by cases hp), ⟨⟨n3', ?_⟩, ⟨n1, ?_⟩⟩, fun c h => absurd rfl h⟩, Vals.nil, fun c h => h.2⟩
  · rw [Heap.put_same]; simp
  · rw [Heap.put_ne _ _ _ (Ne.symm ne), Heap.put_same]; simp
theorem Tb.all (h : Tb H F tb vs) : ∃ s : Sl, rd H (tb, 0) = some (slv s) ∧ VRow H s vs ∧ s.len = vs.length ∧ s.len ≤ s.cap ∧ s.x = none ∧ ∃ xs : List TV, rdsl H s (xs.flatMap T_api_Value.c) ∧ VsAre H vs xs := by
  obtain ⟨⟨R, s, m, l, xs, h1, h2, h3, h4, h5, h6, h7, h8, h9, h10, h11⟩, hv, hd⟩ := h
  have hl := h4.len
  have h20 := h2.1
  rw [flat4] at h20
  refine ⟨s, by simp [rd, h1, GO.cells?], ⟨xs, h2.rdsl, by omega, h4.le h3⟩, by omega, h2.2.2.1, h2.2.1, xs, h2.rdsl, h4.le h3⟩
theorem Len_ok {K : Int → Heap → Prop} (h : Tb H F tb vs) (k : K (vs.length : Int) H) : c_intern_Table_Len C (some (tb, 0)) K H := by
  obtain ⟨s, h1, _, h3, _⟩ := h.all
  apply ad_intern_Table_Len
  unfold sh_intern_Table_Len
  refine ift_neg rfl ⟨_, rfl, s, h1, ?_⟩
  dsimp only
  rw [h3]; exact k
theorem Find_ok (hF : FmtC C) {v : V} {x : TV} {K : Int → Bool → Heap → Prop} (h : Tb H F tb vs) (hv : VIs H v x) (hB : VB v) (hs : vsize v ≤ 1000000)
    (k0 : mayV v = false → ∀ H2, H.le H2 → K 0 false H2) (k1 : mayV v = true → ∀ H2, H.le H2 → K (((posV v vs).getD 0 : Nat) : Int) (posV v vs).isSome H2) : c_intern_Table_Find C (some (tb, 0)) x K H := by
  apply ad_intern_Table_Find
  unfold sh_intern_Table_Find
  intro b1 n1
  have l1 := Heap.le_put n1 (g := .row (T_api_Value.c x)) (m := true)
  have hb : (H.put b1 (.row (T_api_Value.c x))) b1 = some (true, .row (T_api_Value.c x)) := Heap.put_same ..
  have hv1 := hv.le l1
  have ht := h.le l1
  generalize H.put b1 (.row (T_api_Value.c x)) = H1 at *
  refine ⟨fun b E => E = H1 ∧ b = !mayV v, ?_, ?_⟩
  · refine ift_neg rfl (bxV hb (value_Check_ok hv1 hB ⟨rfl, ?_⟩))
    rw [bne, mayV_dec]
  rintro _ E ⟨rfl, rfl⟩
  refine ift.of (fun hm => k0 (by simpa using hm) _ l1) (fun hm => ?_)
  have hm : mayV v = true := by simpa using hm
  obtain ⟨⟨R, s, m, l, xs, h1, h2, h3, h4, h5, h6, _⟩, _, _⟩ := ht
  refine ⟨E, Heap.le.refl _, ⟨_, rfl, some m, by simp [rd, h1, GO.cells?], bxV hb (Show_ok hF hv1 hB (fun h => show_may hB h hs) fun H2 h2' => ⟨h2', ?_⟩)⟩⟩
  rw [if_pos hm]
  have hk := h6 v hm
  refine (h5.le h2').lk (fun n hn => ⟨h2', ?_⟩) (fun hn => ⟨h2', ?_⟩)
  · rw [hk] at hn
    obtain ⟨j, hj, rfl⟩ := Option.map_eq_some_iff.1 hn
    have := k1 hm H2 (l1.trans h2')
    rw [hj] at this; exact this
  · rw [hk] at hn
    have := k1 hm H2 (l1.trans h2')
    rw [Option.map_eq_none_iff.1 hn] at this; exact this
theorem Put_ok (hF : FmtC C) {A : Heap} {v : V} {x : TV} {K : Int → Int → Heap → Prop} (h : Tb H F tb vs) (hA : A.le H) (hAF : ∀ c, F c → A c = none) (hv : VIs A v x) (hB : VB v) (hs : vsize v ≤ 1000000) (hn : vs.length ≤ 1000000)
    (k0 : mayV v = false → ∀ H2, H.le H2 → K 0 (checkV v) H2) (k1 : mayV v = true → ∀ H2 F2, Tb H2 F2 tb (putV vs v).1 → Keep F H H2 → (∀ c, F2 c → F c ∨ H c = none) → K ((putV vs v).2 : Nat) 0 H2) : c_intern_Table_Put C (some (tb, 0)) x K H := by
  apply ad_intern_Table_Put
  unfold sh_intern_Table_Put
  intro b1 n1
  have l1 := Heap.le_put n1 (g := .row (T_api_Value.c x)) (m := true)
  have hb : (H.put b1 (.row (T_api_Value.c x))) b1 = some (true, .row (T_api_Value.c x)) := Heap.put_same ..
  have ht := h.le l1
  have hFb : ¬ F b1 := fun hf => h.dom b1 hf n1
  -- what is looked at and kept: A and the box
  let A1 : Heap := A.put b1 (.row (T_api_Value.c x))
  have hA1 : A1.le (H.put b1 (.row (T_api_Value.c x))) := fun c e hc => by
    by_cases hcb : c = b1
    · subst hcb
      have : A1 c = some (true, .row (T_api_Value.c x)) := Heap.put_same ..
      rw [this] at hc; rw [Heap.put_same]; exact hc
    · have : A1 c = A c := Heap.put_ne _ _ _ hcb
      rw [this] at hc
      rw [Heap.put_ne _ _ _ hcb]; exact hA _ _ hc
  have hAA1 : A.le A1 := Heap.le_put (hA.none n1)
  have hA1F : ∀ c, F c → A1 c = none := fun c hc => by
    have : c ≠ b1 := fun e => hFb (e ▸ hc)
    show (A.put b1 _) c = none
    rw [Heap.put_ne _ _ _ this]; exact hAF c hc
  have hb1 : A1 b1 = some (true, .row (T_api_Value.c x)) := Heap.put_same ..
  generalize H.put b1 (.row (T_api_Value.c x)) = H1 at *
  have hv1 := hv.le (hA.trans l1)
  refine ift_neg rfl (bxV hb (value_Check_ok hv1 hB ?_))
  rw [bne, mayV_dec]
  refine ift.of (fun hm => k0 (by simpa using hm) _ l1) (fun hm => ?_)
  have hm : mayV v = true := by simpa using hm
  refine bxV hb (Show_ok hF hv1 hB (fun h => show_may hB h hs) fun H2 l2 => ?_)
  rw [if_pos hm]
  have ht2 := ht.le l2
  have k1 := k1 hm
  obtain ⟨⟨R, s, m, l, xs, h1, h2, h3, h4, h5, h6, h7, h8, h9, h10, h11⟩, hvals, hdom⟩ := ht2
  have hl := h4.len
  have hfx := flat4 xs
  have hsl : s.len = vs.length := by have := h2.1; omega
  have rd0 : rd H2 (tb, 0) = some (slv s) := by simp [rd, h1, GO.cells?]
  have rd1 : rd H2 (tb, 1) = some (mv (some m)) := by simp [rd, h1, GO.cells?]
  refine ⟨_, rfl, some m, rd1, ?_⟩
  have hk := h6 v hm
  have lH2 : H.le H2 := l1.trans l2
  refine h5.lk (fun n hn' => ?_) (fun hn' => ?_)
  · rw [hk] at hn'
    obtain ⟨j, hj, rfl⟩ := Option.map_eq_some_iff.1 hn'
    have hput : putV vs v = (vs, j) := by unfold putV; rw [hj]
    refine ⟨fun r E => r = (j : Int) ∧ E = H2, ift_neg rfl ⟨rfl, rfl⟩, ?_⟩
    rintro _ _ ⟨rfl, rfl⟩
    rw [hput] at k1
    exact k1 _ F (h.le lH2) (Keep.of_le lH2) fun c hc => .inl hc
  · rw [hk] at hn'
    have hj := Option.map_eq_none_iff.1 hn'
    have hput : putV vs v = (vs ++ [v], vs.length) := by unfold putV; rw [hj]
    rw [hput] at k1
    refine ⟨fun r E => r = (vs.length : Int) ∧ ∃ F2, Tb E F2 tb (vs ++ [v]) ∧ Keep F H E ∧ ∀ c, F2 c → F c ∨ H c = none, ?_, ?_⟩
    · refine ift_pos rfl ⟨_, rfl, s, rd0, _, rfl, some m, rd1, m, l, rfl, h5, fun g l2' q1 q2 q3 => ?_⟩
      rw [hsl] at q2 ⊢
      have hkey := h6.add hm hj q2
      -- H3
      have s3 : ∀ c e, c ≠ m → H2 c = some e → (H2.put m g) c = some e := fun c e hc he => by rw [Heap.put_ne _ _ _ hc]; exact he
      have t3 : (H2.put m g) tb = some (true, .row [slv s, mv (some m)]) := s3 _ _ h7 h1
      have a3 : A1.le (H2.put m g) := fun c e hc => s3 c e (fun e' => by rw [e', hA1F m h10.2] at hc; cases hc) (l2 _ _ (hA1 _ _ hc))
      have m3 : MapIs encI (H2.put m g) m l2' := q1
      have hmn : (H2.put m g) m ≠ none := by rw [Heap.put_same]; simp
      have hdom3 : ∀ c, H2 c ≠ none → (H2.put m g) c ≠ none := fun c hc => by
        by_cases hcm : c = m
        · rw [hcm]; exact hmn
        · rw [Heap.put_ne _ _ _ hcm]; exact hc
      have hnone3 : ∀ c, (H2.put m g) c = none → H2 c = none := fun c hc => by
        cases hh : H2 c with
        | none => rfl
        | some y => exact absurd hc (hdom3 c (by rw [hh]; simp))
      generalize H2.put m g = H3 at *
      have off3 : ∀ c e, (∀ p, s.p = some p → p.1 ≠ c) → H3 c = some e → (H3.off s) c = some e := fun c e hc he => Heap.off_some he hc
      have sb1 : ∀ p, s.p = some p → p.1 ≠ b1 := fun p hp e => hFb (e ▸ (h9 p hp).2.2.2)
      refine ⟨H3.off s, Heap.off_le s H3, ⟨_, rfl, s, by simp [rd, off3 _ _ (fun p hp => (h9 p hp).1) t3, GO.cells?], bxV (off3 _ _ sb1 (a3 _ _ hb1)) ?_⟩⟩
      intro b43 n43
      have l43 := Heap.le_put n43 (g := .row (T_api_Value.c x ++ [])) (m := true)
      have row43 : VRow ((H3.put b43 (.row (T_api_Value.c x ++ [])))) (Sl.of (some (b43, 0)) 1 1) [v] := by
        refine ⟨[x], .inr ⟨rfl, _, rfl, rds_row (Heap.put_same ..) fun j u hj => ?_⟩, rfl, (hv.le hAA1).le (a3.trans l43), trivial⟩
        simpa using hj
      generalize hH4 : H3.put b43 (.row (T_api_Value.c x ++ [])) = H4 at *
      refine ⟨(Heap.off_le s H3).trans l43, iown_ok row43 (Heap.le.refl _) (by simp only [vsizes]; omega) fun t2 H5 hM => ⟨(Heap.off_le s H3).trans (l43.trans hM.le), ?_⟩⟩
      have l35 := l43.trans hM.le
      obtain ⟨ys, y1, y2, y3⟩ := hM.row
      have hyl := y3.len
      match ys, y1, y2, y3, hyl with
      | [y], y1, y2, y3, _ =>
        have o5 : Own H5 4 s (xs.flatMap T_api_Value.c) := by
          obtain ⟨p1, p2, p3, p4 | ⟨b, sp, p4, p5, p6⟩⟩ := h2
          · exact ⟨p1, p2, p3, .inl p4⟩
          · exact ⟨p1, p2, p3, .inr ⟨b, sp, p4, l35 _ _ (s3 _ _ (h9 _ p4).2.1 p5), p6⟩⟩
        have o5' := o5
        refine apS_ownF (zc := T_api_Value.c T_api_Value.zero) o5.off (rdsl_le (Heap.new_le _ _) y1) (by rw [y2]; simp [T_api_Value.c, T_api_Value.zero]) (fun u hu => ?_) (by rw [y2]; simp; omega) (by rw [y2]; simp; omega) fun r H6 ho hr => ?_
        · simp only [List.flatMap_cons, List.flatMap_nil, List.append_nil, T_api_Value.c, List.mem_cons, List.not_mem_nil, or_false] at hu
          rcases hu with rfl | rfl | rfl | rfl <;> rfl
        have st6 : ∀ c e, (∀ p, s.p = some p → p.1 ≠ c) → H5 c = some e → H6 c = some e := fun c e hc he => ho.le _ _ (Heap.off_some he hc)
        have t6 : H6 tb = some (true, .row [slv s, mv (some m)]) := st6 _ _ (fun p hp => (h9 p hp).1) (l35 _ _ t3)
        have l36 : (∀ p, s.p = some p → H3 p.1 ≠ none) := fun p hp => by
          obtain ⟨g', hg'⟩ := h2.mine hp
          exact hdom3 _ (by rw [hg']; simp)
        have offH5 : ∀ c e, (∀ p, s.p = some p → p.1 ≠ c) → H5 c = some e → (H5.off s) c = some e := fun c e hc he => Heap.off_some he hc
        refine ⟨fun c e hc => ?_, _, rfl, _, t6, by show 0 + 0 < 2; omega, ?_⟩
        · have hcs : ∀ p, s.p = some p → p.1 ≠ c := fun p hp e' => by
            have := Heap.off_fresh s H3 p hp
            rw [e', hc] at this; cases this
          exact st6 _ _ hcs (l35 _ _ (Heap.off_le s H3 _ _ hc))
        have hset : ([slv s, mv (some m)] : List Value).set (0 + 0) (slv r) = [slv r, mv (some m)] := rfl
        show _ = _ ∧ ∃ F2, Tb (H6.put tb (.row (([slv s, mv (some m)] : List Value).set (0 + 0) (slv r)))) F2 tb (vs ++ [v]) ∧ _
        rw [hset]
        let R2 : Heap := fun c => if (R c).isSome then R c else Heap.new H4 H5 c
        have hR2 : ∀ c e, R2 c = some e → (R c = some e) ∨ (H4 c = none ∧ H5 c = some e) := fun c e hc => by
          show _ ∨ _
          have hc : (if (R c).isSome then R c else Heap.new H4 H5 c) = some e := hc
          split at hc
          · exact .inl hc
          · exact .inr (Heap.new_inv hc)
        have h43 : ∀ c, H4 c = none → H3 c = none := fun c hc => l43.none hc
        have R2off : R2.le (H5.off s) := fun c e hc => by
          rcases hR2 c e hc with hc | ⟨n4, hc⟩
          · refine offH5 _ _ (fun p hp e' => ?_) (l35 _ _ (s3 _ _ (fun e' => by rw [e', h8.2] at hc; cases hc) (h3 _ _ hc)))
            have := (h9 p hp).2.2.1
            rw [e', hc] at this; cases this
          · exact offH5 _ _ (fun p hp e' => l36 p hp (by rw [e']; exact h43 _ n4)) hc
        have h4tb : (H4 tb).isSome = true := by rw [l43 _ _ t3]; rfl
        have h4m : (H4 m).isSome = true := by
          obtain ⟨⟨es, ck, w1, w2⟩, w3⟩ := m3
          rw [l43 _ _ w1]; rfl
        have R2tb : R2 tb = none := by
          show (if (R tb).isSome then R tb else Heap.new H4 H5 tb) = none
          rw [h8.1]; simp only [Option.isSome_none, Bool.false_eq_true, if_false]
          unfold Heap.new; rw [if_pos h4tb]
        have R2m : R2 m = none := by
          show (if (R m).isSome then R m else Heap.new H4 H5 m) = none
          rw [h8.2]; simp only [Option.isSome_none, Bool.false_eq_true, if_false]
          unfold Heap.new; rw [if_pos h4m]
        have R2le : R2.le (H6.put tb (.row [slv r, mv (some m)])) := fun c e hc => by
          have : c ≠ tb := fun e' => by rw [e', R2tb] at hc; cases hc
          rw [Heap.put_ne _ _ _ this]; exact ho.le _ _ (R2off _ _ hc)
        have rR : R.le R2 := fun c e hc => by
          show (if (R c).isSome then R c else Heap.new H4 H5 c) = _
          rw [hc]; rfl
        have nR : (Heap.new H4 H5).le R2 := fun c e hc => by
          show (if (R c).isSome then R c else Heap.new H4 H5 c) = _
          rw [if_neg]; exact hc
          intro hs
          cases hRc : R c with
          | none => rw [hRc] at hs; cases hs
          | some z =>
            have z2 := l43 _ _ (s3 _ _ (fun e' => by rw [e', h8.2] at hRc; cases hRc) (h3 _ _ hRc))
            rw [(Heap.new_inv hc).1] at z2; cases z2
        have hrtb : ∀ p, r.p = some p → p.1 ≠ tb := fun p hp e' => by
          have := ho.fresh p hp
          rw [e', offH5 _ _ (fun p hp => (h9 p hp).1) (l35 _ _ t3)] at this; cases this
        have hrm : ∀ p, r.p = some p → p.1 ≠ m := fun p hp e' => by
          obtain ⟨⟨es, ck, w1, w2⟩, w3⟩ := m3
          have := ho.fresh p hp
          rw [e', offH5 _ _ (fun p hp => (h9 p hp).2.1) (l35 _ _ w1)] at this; cases this
        have own7 : Own (H6.put tb (.row [slv r, mv (some m)])) 4 r ((xs ++ [y]).flatMap T_api_Value.c) := by
          rw [List.flatMap_append]
          obtain ⟨p1, p2, p3, p4 | ⟨b, sp, p4, p5, p6⟩⟩ := ho.own
          · exact ⟨p1, p2, p3, .inl p4⟩
          · exact ⟨p1, p2, p3, .inr ⟨b, sp, p4, by rw [Heap.put_ne _ _ _ (hrtb _ p4)]; exact p5, p6⟩⟩
        have hHn : ∀ c, H5 c = none → H c = none := fun c hc => by
          cases hh : H c with
          | none => rfl
          | some z =>
            have := l35.none hc
            have := hnone3 _ this
            rw [lH2 _ _ hh] at this; cases this
        have h7tb : (H6.put tb (.row [slv r, mv (some m)])) tb ≠ none := by rw [Heap.put_same]; simp
        have map7 : MapIs encI (H6.put tb (.row [slv r, mv (some m)])) m l2' := by
          obtain ⟨⟨es, ck, w1, w2⟩, w3⟩ := m3
          exact ⟨⟨es, ck, by rw [Heap.put_ne _ _ _ (Ne.symm h7)]; exact st6 _ _ (fun p hp => (h9 p hp).2.1) (l35 _ _ w1), w2⟩, w3⟩
        have h7m : (H6.put tb (.row [slv r, mv (some m)])) m ≠ none := by
          obtain ⟨g', hg'⟩ := map7.mine
          rw [hg']; simp
        refine ⟨rfl, fun c => (H6.put tb (.row [slv r, mv (some m)])) c ≠ none ∧ (F c ∨ H c = none), ⟨⟨R2, r, m, l2', xs ++ [y], Heap.put_same .., own7, R2le, ?_, map7, hkey, h7, ⟨R2tb, R2m⟩, fun p hp => ⟨hrtb p hp, hrm p hp, ?_, ?_, ?_⟩, ⟨⟨h7tb, .inl h10.1⟩, h7m, .inl h10.2⟩, fun c hc => ?_⟩, ?_, fun c hc => hc.1⟩, fun c e hf hc => ?_, fun c hc => hc.2⟩
        · refine VsAre.of (by simp; omega) fun i w z hw hz => ?_
          by_cases hi : i < vs.length
          · rw [List.getElem?_append_left hi] at hw
            rw [List.getElem?_append_left (by omega)] at hz
            exact (h4.get i w z hw hz).le rR
          · rw [List.getElem?_append_right (by omega)] at hw hz
            have hlt := (List.getElem?_eq_some_iff.1 hw).1
            simp only [List.length_singleton] at hlt
            have e1 : i - vs.length = 0 := by omega
            have e2 : i - xs.length = 0 := by omega
            rw [e1] at hw; rw [e2] at hz
            simp only [List.getElem?_cons_zero, Option.some.injEq] at hw hz
            subst hw; subst hz
            exact y3.1.le nR
        · exact R2off.none (ho.fresh p hp)
        · obtain ⟨g', hg'⟩ := own7.mine hp
          rw [hg']; simp
        · have hfr := ho.fresh p hp
          by_cases hsp : ∃ q, s.p = some q ∧ q.1 = p.1
          · obtain ⟨q, q1, q2⟩ := hsp
            exact .inl (q2 ▸ (h9 q q1).2.2.2)
          · refine .inr (hHn _ ?_)
            cases hh : H5 p.1 with
            | none => rfl
            | some z => rw [offH5 _ _ (fun q hq e' => hsp ⟨q, hq, e'⟩) hh] at hfr; cases hfr
        · cases hR : R2 c with
          | none => exact absurd hR hc
          | some z =>
            refine ⟨by rw [R2le _ _ hR]; simp, ?_⟩
            rcases hR2 c z hR with hR | ⟨n4, _⟩
            · exact .inl (h11 c (by rw [hR]; simp))
            · refine .inr ?_
              have := hnone3 _ (h43 _ n4)
              exact lH2.none this
        · have := hvals.put hm hB
          rw [hput] at this; exact this
        · have c1 : c ≠ m := fun e' => hf (e' ▸ h10.2)
          have c2 : c ≠ tb := fun e' => hf (e' ▸ h10.1)
          rw [Heap.put_ne _ _ _ c2]
          exact st6 _ _ (fun p hp e' => hf (e' ▸ (h9 p hp).2.2.2)) (l35 _ _ (s3 _ _ c1 (lH2 _ _ hc)))
      | [], _, _, _, hyl => simp at hyl
      | _ :: _ :: _, _, _, _, hyl => simp at hyl
    · rintro _ E ⟨rfl, F2, e1, e2, e3⟩
      exact k1 E F2 e1 e2 e3
end
end Sx
end

noncomputable section
set_option linter.unusedVariables false
set_option linter.unusedSimpArgs false
set_option maxRecDepth 10000
namespace Sx
open Go Go.Proofs
theorem rdsl_slv {H : Heap} {s t : Sl} {cs : List Value} (e : slv s = slv t) (h : rdsl H s cs) : rdsl H t cs := by
  simp only [slv, Value.slice.injEq] at e
  obtain ⟨e1, e2, e3⟩ := e
  rcases h with h | ⟨hx, p, hp, hr⟩
  · exact .inl h
  · unfold Sl.ad at e1
    rw [hp, hx] at e1
    cases ht : t.p with
    | none => rw [ht] at e1; cases e1
    | some q =>
      rw [ht] at e1
      simp only [Option.map_some, Option.some.injEq, Addr.mk.injEq] at e1
      obtain ⟨q1, q2, q3⟩ := e1
      have : q = p := by obtain ⟨a, b⟩ := q; obtain ⟨c, d⟩ := p; simp only at q1 q2; rw [q1, q2]
      exact .inr ⟨q3.symm, q, ht, by rw [this]; exact hr⟩
theorem Made.one {H H2 : Heap} {v : V} {t : Sl} (h : Made H H2 [v] t) : t.len = 1 ∧ ∃ y : TV, rdsl H2 t (T_api_Value.c y) ∧ VIs (Heap.new H H2) v y ∧ ∃ k, Sp (fun c => H c = none) H2 k y.L := by
  have hl := h.row.len
  obtain ⟨ys, y1, y2, y3⟩ := h.row
  obtain ⟨k, hk⟩ := h.sp
  refine ⟨by simpa using hl, ?_⟩
  have hyl := y3.len
  match ys, y1, y2, y3, hyl with
  | [y], y1, y2, y3, _ =>
    cases k with
    | zero => have : t.len = 0 := hk; simp at hl; omega
    | succ k =>
      rcases hk with h0 | ⟨b, xs, sp, q1, q2, q3, q4, q5, q6⟩
      · simp at hl; omega
      · simp at hl
        match xs, q4, q5, q6 with
        | [], _, q5, _ => simp at q5; omega
        | x0 :: xs, q4, q5, q6 =>
          have r0 : rdsl H2 t (T_api_Value.c x0) := .inr ⟨q3, _, q2, rds_row q4 fun j u hj => by
            rw [Nat.zero_add, List.flatMap_cons, List.append_assoc, List.getElem?_append_left (List.getElem?_eq_some_iff.1 hj).1]; exact hj⟩
          have r1 : rdsl H2 t (T_api_Value.c y) := by simpa using rdsl_le (Heap.new_le _ _) y1
          have same : T_api_Value.c y = T_api_Value.c x0 := by
            rcases r1 with r1 | ⟨_, p, hp, r1⟩
            · cases r1
            · rcases r0 with r0 | ⟨_, p', hp', r0⟩
              · cases r0
              · rw [hp] at hp'; injection hp' with hp'; subst hp'
                apply List.ext_getElem?
                intro j
                by_cases hj : j < 4
                · have a1 := rds_get r1 j _ (List.getElem?_eq_getElem (by rw [TV.c_len]; exact hj))
                  have a2 := rds_get r0 j _ (List.getElem?_eq_getElem (by rw [TV.c_len]; exact hj))
                  rw [List.getElem?_eq_getElem (by rw [TV.c_len]; exact hj), List.getElem?_eq_getElem (by rw [TV.c_len]; exact hj)]
                  rw [← a1, ← a2]
                · rw [List.getElem?_eq_none (by rw [TV.c_len]; omega), List.getElem?_eq_none (by rw [TV.c_len]; omega)]
          simp only [T_api_Value.c, List.cons.injEq, Value.int.injEq, true_and, and_true] at same
          obtain ⟨s1, s2, s3, s4⟩ := same
          have hy := VIs_iff.1 y3.1
          obtain ⟨zs, z1, z2, z3⟩ := hy.2.2.2
          refine ⟨x0, r0, VIs_iff.2 ⟨by rw [← s1]; exact hy.1, by rw [← s2]; exact hy.2.1, by rw [← sv_inj s3]; exact hy.2.2.1, zs, rdsl_slv s4 z1, ?_, z3⟩, k, q6 _ (List.mem_cons_self ..)⟩
          simp only [slv, Value.slice.injEq] at s4
          omega
  | [], _, _, _, hyl => simp at hyl
  | _ :: _ :: _, _, _, _, hyl => simp at hyl
theorem Od.stepR {H B B2 B4 : Heap} {l : List V} {s r t : Sl} {ys : List TV} {x : TV} (h : Od H B l s ys) (hi : ys.length < l.length) (hle : B.le B2) (hx : VIs (Heap.new B B2) l[ys.length] x) (hs : ∃ k, Sp (fun c => B c = none) B2 k x.L)
    (h4 : OwnF (B2.off s) B4 4 r (ys.flatMap T_api_Value.c ++ T_api_Value.c x)) : Od H B4 l r (ys ++ [x]) := by
  have hoff : (B.off s).le (B2.off s) := fun c e hc => by
    refine Heap.off_some (hle _ _ (Heap.off_le _ _ _ _ hc)) fun p hp e' => ?_
    have := Heap.off_fresh s B p hp
    rw [e', hc] at this; cases this
  have h34 : (B2.off s).le (B4.off r) := Heap.le_off h4.le h4.fresh
  have hch : ∀ c e, B c = none → B2 c = some e → H c = none ∧ (B4.off r) c = some e := fun c e hn he => by
    refine ⟨h.own.le.none hn, h34 _ _ (Heap.off_some he fun p hp e' => ?_)⟩
    obtain ⟨g', hg'⟩ := h.own.own.mine hp
    rw [e', hn] at hg'; cases hg'
  have hnn : (Heap.new H (B.off s)).le (Heap.new H (B4.off r)) := fun c e hc => by
    obtain ⟨a1, a2⟩ := Heap.new_inv hc
    exact Heap.new_some (h34 _ _ (hoff _ _ a2)) a1
  refine ⟨?_, by rw [List.length_append]; exact hi, fun j v y hv hy => ?_⟩
  · have e : (ys ++ [x]).flatMap T_api_Value.c = ys.flatMap T_api_Value.c ++ T_api_Value.c x := by rw [List.flatMap_append, List.flatMap_singleton]
    rw [e]
    exact h4.down (Heap.le_off (h.own.le.trans hle) h.own.fresh)
  · by_cases hj : j < ys.length
    · rw [List.getElem?_append_left hj] at hy
      obtain ⟨d1, k, d2⟩ := h.done j v y hv hy
      exact ⟨d1.le hnn, k, d2.to fun c e h he => ⟨h, h34 _ _ (hoff _ _ he)⟩⟩
    · have hjl := (List.getElem?_eq_some_iff.1 hy).1
      rw [List.length_append, List.length_singleton] at hjl
      have hje : j = ys.length := by omega
      subst hje
      rw [List.getElem?_append_right (Nat.le_refl _), Nat.sub_self] at hy
      simp only [List.getElem?_cons_zero, Option.some.injEq] at hy
      rw [List.getElem?_eq_getElem hi] at hv
      have hv := Option.some.inj hv
      subst hy; subst hv
      refine ⟨hx.le fun c e hc => ?_, ?_⟩
      · obtain ⟨a1, a2⟩ := Heap.new_inv hc
        obtain ⟨a3, a4⟩ := hch c e a1 a2
        exact Heap.new_some a4 a3
      · obtain ⟨k, hk⟩ := hs
        exact ⟨k, hk.to fun c e h he => hch c e h he⟩
abbrev V0 : V := .mk 0 0 [] []
def atV (vs : List V) (n : Int) : V := vs.getD n.toNat V0
section
variable {C : Ctx} {H : Heap} {F : Nat → Prop} {tb : Nat} {vs : List V}
theorem tRow_ok {A : Heap} {t : Sl} {ns : List Int} {K : Sl → Int → Heap → Prop} (h : Tb H F tb vs) (hA : A.le H) (ht : rdsl A t (ns.map encI)) (hl : t.len = ns.length) (hn : ns.length ≤ 1000000) (hvn : vs.length ≤ 1000000) (hvs : ∀ v ∈ vs, vsize v ≤ 1000000)
    (k1 : (∀ n ∈ ns, 0 ≤ n ∧ n < vs.length) → ∀ r H2, Made H H2 (ns.map (atV vs)) r → K r 0 H2) (k2 : (¬ ∀ n ∈ ns, 0 ≤ n ∧ n < vs.length) → ∀ H2, H.le H2 → K Sl.nil 5 H2) : c_intern_Table_Row C (some (tb, 0)) t K H := by
  apply ad_intern_Table_Row
  unfold sh_intern_Table_Row
  refine ift_neg rfl ?_
  rw [hl]
  refine ⟨fun x D => ∃ (s : Sl) (ys : List TV), x = (s, (ys.length : Int)) ∧ Od H D (ns.map (atV vs)) s ys ∧ ∀ n ∈ ns.take ys.length, 0 ≤ n ∧ n < vs.length, fun x _ => ns.length - x.2.toNat, ⟨Sl.nil, [], rfl, Od.nil, fun n hn => by simp at hn⟩, ?_⟩
  rintro _ D ⟨s, ys, rfl, ho, hall⟩
  have hole := ho.le
  rw [List.length_map] at hole
  refine ift.of (fun hlt => ?_) (fun hlt => ?_)
  · have hlt : ys.length < ns.length := by have := of_decide_eq_true hlt; dsimp only at this; omega
    refine ix_ldI (rdsl_le (hA.trans ho.own.le) ht) rfl (by omega) (x := ns[ys.length]) (by rw [List.getElem?_map, List.getElem?_eq_getElem hlt]; rfl) ?_
    have hT := h.le ho.own.le
    obtain ⟨sa, a1, a2, a3, a4, a5, xs, a6, a7⟩ := hT.all
    generalize hnn : ns[ys.length] = n
    have hmem : n ∈ ns := by rw [← hnn]; exact List.getElem_mem hlt
    refine ⟨fun b E => E = D ∧ (b = false → 0 ≤ n ∧ n < vs.length) ∧ (b = true → ¬ (0 ≤ n ∧ n < vs.length)), ?_, ?_⟩
    · refine ift.of (fun h0 => ⟨rfl, (fun h => by cases h), fun _ h => ?_⟩) (fun h0 => ⟨_, rfl, sa, a1, rfl, fun h1 => ?_, fun h1 => ?_⟩)
      · have := of_decide_eq_true h0; omega
      · have h0 := of_decide_eq_false h0; have h1 := of_decide_eq_false h1; omega
      · have h1 := of_decide_eq_true h1; omega
    rintro b E ⟨rfl, hb1, hb2⟩
    refine ift.of (fun hb => k2 (fun hall' => hb2 hb (hall' n hmem)) _ ho.own.le) (fun hb => ?_)
    obtain ⟨n0, n1⟩ := hb1 hb
    have w1 : w .i64 (n + 1) = n + 1 := w_i64 (by omega) (by omega)
    rw [w1]
    refine ⟨_, rfl, sa, a1, n0, by omega, by omega, by omega, _, rfl, ?_⟩
    have hnl : n.toNat < vs.length := by omega
    have hxl := a7.len
    have hsl1 := rdsl_slice a6 (lo := n) (hi := n + 1) (mx := (sa.cap : Int)) (z := 4) n0 (by omega) (by omega) (by rw [flat4]; omega)
    have e1 : (n + 1 - n).toNat * 4 = 4 := by omega
    rw [e1] at hsl1
    have hxn : n.toNat < xs.length := by omega
    have hcut : ((xs.flatMap T_api_Value.c).drop (n.toNat * 4)).take 4 = T_api_Value.c xs[n.toNat] := by
      have e2 : xs = xs.take n.toNat ++ xs[n.toNat] :: xs.drop (n.toNat + 1) := by rw [← List.drop_eq_getElem_cons hxn, List.take_append_drop]
      have e3 : ((xs.take n.toNat).flatMap T_api_Value.c).length = n.toNat * 4 := by rw [flat4, List.length_take]; omega
      have e4 : xs.flatMap T_api_Value.c = (xs.take n.toNat).flatMap T_api_Value.c ++ (T_api_Value.c xs[n.toNat] ++ (xs.drop (n.toNat + 1)).flatMap T_api_Value.c) := by
        rw [← List.flatMap_cons, ← List.flatMap_append, ← e2]
      rw [e4, ← e3, List.drop_left, List.take_append_of_le_length (by rw [TV.c_len]; exact Nat.le_refl _), List.take_of_length_le (by rw [TV.c_len]; exact Nat.le_refl _)]
    rw [hcut] at hsl1
    have hvv : VRow E ⟨if (sa.cap : Int) = n then sa.p else sa.p.map (fun p => (p.1, p.2 + n.toNat * 4)), (n + 1 - n).toNat, ((sa.cap : Int) - n).toNat, if (sa.cap : Int) = n ∨ n.toNat * 4 = 0 then sa.x else none⟩ [vs[n.toNat]] :=
      ⟨[xs[n.toNat]], by simpa using hsl1, by show (n + 1 - n).toNat = 1; omega, a7.get n.toNat _ _ (List.getElem?_eq_getElem hnl) (List.getElem?_eq_getElem hxn), trivial⟩
    have hvz := hvs _ (List.getElem_mem hnl)
    refine iown_ok hvv (Heap.le.refl _) (by simp only [vsizes]; omega) fun t2 B2 hM => ?_
    obtain ⟨m1, y, m2, m3, m4⟩ := hM.one
    have hat : (ns.map (atV vs))[ys.length]? = some vs[n.toNat] := by
      rw [List.getElem?_map, List.getElem?_eq_getElem hlt, hnn]
      simp only [Option.map_some, atV, List.getD_eq_getElem?_getD, List.getElem?_eq_getElem hnl, Option.getD_some]
    have hlt2 : ys.length < (ns.map (atV vs)).length := by rw [List.length_map]; exact hlt
    have hat2 : (ns.map (atV vs))[ys.length] = vs[n.toNat] := by
      rw [List.getElem?_eq_getElem hlt2] at hat
      exact Option.some.inj hat
    have hsl : s.len = ys.length := by have := ho.own.own.1; rw [flat4] at this; omega
    refine apS_ownF (zc := T_api_Value.c T_api_Value.zero) (ho.own.own.le hM.le).off m2 (by rw [m1]; rfl) (fun u hu => ?_) (by rw [m1]; dsimp only; omega) (by rw [m1]; dsimp only; omega) fun r B4 h4 hr => ?_
    · simp only [T_api_Value.c, List.mem_cons, List.not_mem_nil, or_false] at hu
      rcases hu with rfl | rfl | rfl | rfl <;> rfl
    rw [w_i64 (by dsimp only; omega) (by dsimp only; omega)]
    refine ⟨⟨r, ys ++ [y], by simp, ho.stepR (t := t2) hlt2 hM.le (by rw [hat2]; exact m3) m4 h4, fun m hm => ?_⟩, by first | omega | (dsimp only; omega)⟩
    rw [List.length_append, List.length_singleton, List.take_add_one, List.getElem?_eq_getElem hlt, hnn, Option.toList_some, List.mem_append, List.mem_singleton] at hm
    rcases hm with hm | rfl
    · exact hall m hm
    · exact ⟨n0, n1⟩
  · have hye : ys.length = ns.length := by have := of_decide_eq_false hlt; dsimp only at this; omega
    rw [hye, List.take_length] at hall
    exact k1 hall _ _ (ho.fin (by rw [List.length_map]; exact hye) (by rw [List.length_map]; exact hn))
theorem tAt_ok {n : Int} {K : TV → Int → Heap → Prop} (h : Tb H F tb vs) (hvn : vs.length ≤ 1000000) (hvs : ∀ v ∈ vs, vsize v ≤ 1000000)
    (k1 : 0 ≤ n ∧ n < vs.length → ∀ y H2, H.le H2 → VIs (Heap.new H H2) (atV vs n) y → (∃ k, Sp (fun c => H c = none) H2 k y.L) → K y 0 H2) (k2 : ¬ (0 ≤ n ∧ n < vs.length) → ∀ H2, H.le H2 → K ⟨0, 0, [], Sl.nil⟩ 5 H2) : c_intern_Table_At C (some (tb, 0)) n K H := by
  apply ad_intern_Table_At
  unfold sh_intern_Table_At
  intro b1 n1 b3 n3
  have l1 := Heap.le_put n1 (g := .row (T_api_Value.c T_api_Value.zero)) (m := true)
  have l3 := Heap.le_put n3 (g := .row [.int .i64 n]) (m := true)
  have hb : ((H.put b1 (.row (T_api_Value.c T_api_Value.zero))).put b3 (.row [.int .i64 n])) b1 = some (true, .row (T_api_Value.c T_api_Value.zero)) := l3 _ _ (Heap.put_same ..)
  have hr : rdsl ((H.put b1 (.row (T_api_Value.c T_api_Value.zero))).put b3 (.row [.int .i64 n])) (Sl.of (some (b3, 0)) 1 1) ([n].map encI) := .inr ⟨rfl, _, rfl, rds_row (Heap.put_same ..) fun j u hj => by simpa using hj⟩
  have l := l1.trans l3
  generalize (H.put b1 (.row (T_api_Value.c T_api_Value.zero))).put b3 (.row [.int .i64 n]) = H4 at *
  have stw : ∀ {D : Heap} {x y : TV} {K : Heap → Prop}, D b1 = some (true, .row (T_api_Value.c x)) → K (D.put b1 (.row (T_api_Value.c y))) → stT (b1, 0) (T_api_Value.c y) K D := fun {D x y K} hb k => by
    refine ⟨_, hb, by simp [T_api_Value.c], ?_⟩
    have e : splice (T_api_Value.c x) (b1, 0).2 (T_api_Value.c y) = T_api_Value.c y := rfl
    rw [e]; exact k
  refine tRow_ok (h.le l) (Heap.le.refl _) hr rfl (by simp) hvn hvs (fun hall r H7 hM => ?_) (fun hall H7 h7 => ?_)
  · have hn := hall n (List.mem_singleton.2 rfl)
    obtain ⟨m1, y, m2, m3, k, m4⟩ := hM.one
    refine ift_neg rfl ?_
    refine ixa_of m2 (by omega) (by rw [m1]; exact Int.zero_lt_one) (by simp [T_api_Value.c]) fun p hp hrd => ⟨y, ?_, ?_⟩
    · show rds H7 (p.1, p.2 + 0 * 4) _
      rw [Nat.zero_mul, Nat.add_zero]; exact hrd
    · have h7b := hM.le _ _ hb
      refine stw h7b (bxV (Heap.put_same ..) ?_)
      have hbn : H4 b1 ≠ none := by rw [hb]; simp
      have up : ∀ c e, H4 c = none → H7 c = some e → H c = none ∧ (H7.put b1 (.row (T_api_Value.c y))) c = some e := fun c e hc he => by
        have : c ≠ b1 := fun e' => hbn (e' ▸ hc)
        exact ⟨l.none hc, by rw [Heap.put_ne _ _ _ this]; exact he⟩
      refine k1 hn y _ (fun c e hc => ?_) (m3.le fun c e hc => ?_) ⟨k, m4.to fun c e hc he => up c e hc he⟩
      · have : c ≠ b1 := fun e' => by rw [e', n1] at hc; cases hc
        rw [Heap.put_ne _ _ _ this]; exact hM.le _ _ (l _ _ hc)
      · obtain ⟨q1, q2⟩ := Heap.new_inv hc
        obtain ⟨q3, q4⟩ := up c e q1 q2
        exact Heap.new_some q4 q3
  · refine ift_pos rfl (stw (h7 _ _ hb) (bxV (Heap.put_same ..) (k2 (fun hn => hall fun m hm => by rw [List.mem_singleton] at hm; rw [hm]; exact hn) _ fun c e hc => ?_)))
    have : c ≠ b1 := fun e' => by rw [e', n1] at hc; cases hc
    rw [Heap.put_ne _ _ _ this]; exact h7 _ _ (l _ _ hc)
end
end Sx
end

noncomputable section
set_option linter.unusedVariables false
set_option linter.unusedSimpArgs false
namespace Sx
open Go Go.Proofs
theorem vsizes_take {l : List V} {i : Nat} (h : i < l.length) : vsizes (l.take (i + 1)) = vsizes (l.take i) + vsize l[i] := by
  have e : ∀ a b : List V, vsizes (a ++ b) = vsizes a + vsizes b := by
    intro a
    induction a with
    | nil => intro b; simp [vsizes]
    | cons v a ih => intro b; simp only [List.cons_append, vsizes, ih]; omega
  rw [List.take_add_one, List.getElem?_eq_getElem h, Option.toList_some, e]; simp [vsizes]
section
variable {C : Ctx} {H : Heap}
theorem div50 {n : Nat} (h : n ≤ 140737488355328) : w .i64 (1 + w .i64 (Int.tdiv (n : Int) 50)) = ((1 + n / 50 : Nat) : Int) := by
  have e : Int.tdiv (n : Int) 50 = ((n / 50 : Nat) : Int) := by
    rw [Int.tdiv_eq_ediv_of_nonneg (by omega)]; omega
  rw [e, w_i64 (x := ((n / 50 : Nat) : Int)) (by omega) (by omega), w_i64 (by omega) (by omega)]; omega
theorem weight_ok {v : V} {x : TV} {H : Heap} {m : Nat} {K : Int → Heap → Prop} (hv : VIs H v x) (hB : VB v) (h0 : 1 ≤ m) (hm : m ≤ 1000000) (k : ∀ r : Nat, 1 ≤ r → r ≤ 8796093022208 + m → (r < m → vsize v ≤ r) → K r H) : c_law04_weight C x m K H := by
  refine V.rec_ (P := fun v => ∀ {x H} {m : Nat} {K : Int → Heap → Prop}, VIs H v x → VB v → 1 ≤ m → m ≤ 1000000 → (∀ r : Nat, 1 ≤ r → r ≤ 8796093022208 + m → (r < m → vsize v ≤ r) → K r H) → c_law04_weight C x m K H) (fun v ih => ?_) v hv hB h0 hm k
  clear hv hB h0 hm k m
  intro x H m K hv hB h0 hm k
  apply c_law04_weight.gh
  apply ad_law04_weight
  unfold sh_law04_weight
  intro b1 n1
  have hr := hv.row
  have hl := hr.len
  have hbl := hB.l
  have hbs := hB.s
  have hsz : vsize v = vsizes v.l + 1 := by obtain ⟨k, n, s, l⟩ := v; rfl
  have hb1 : (H.put b1 (.row (T_api_Value.c x))) b1 = some (true, .row (T_api_Value.c x)) := Heap.put_same ..
  have hle1 := Heap.le_put n1 (g := .row (T_api_Value.c x)) (m := true)
  generalize H.put b1 (.row (T_api_Value.c x)) = H1 at *
  refine bxS hb1 ?_
  rw [hv.txt, div50 hbs]
  have hd : v.s.length / 50 ≤ 2814749767107 := by omega
  refine ⟨fun y A => A = H1 ∧ ∃ i n : Nat, y = ((n : Int), (i : Int)) ∧ i ≤ v.l.length ∧ 1 ≤ n ∧ n ≤ 8796093022208 + m ∧ (n < m → 1 + vsizes (v.l.take i) ≤ n), fun y _ => v.l.length - y.2.toNat,
    ⟨rfl, 0, _, rfl, Nat.zero_le _, by omega, by omega, fun _ => by simp [vsizes]⟩, ?_⟩
  rintro _ A ⟨rfl, i, n, rfl, hi, hn1, hn2, hn3⟩
  refine bxL hb1 ?_
  rw [hl]
  refine ift.of (fun h => ?_) (fun h => ?_)
  · simp only [Bool.and_eq_true, decide_eq_true_eq] at h
    have hlt : i < v.l.length := by omega
    have hnm : n < m := by omega
    have hmem := List.getElem_mem hlt
    refine bxL hb1 ?_
    refine hr.ld hle1 rfl hlt fun y hy => ?_
    rw [w_i64 (x := (m : Int) - n) (by omega) (by omega), show (m : Int) - n = ((m - n : Nat) : Int) by omega]
    refine ih _ hmem (hy.le hle1) (hB.ls.mem hmem) (by omega) (by omega) fun r r1 r2 r3 => ?_
    rw [w_i64 (by omega) (by omega), w_i64 (by omega) (by omega)]
    refine ⟨⟨rfl, i + 1, n + r, by simp, by omega, by omega, by omega, fun hh => ?_⟩, by first | omega | (dsimp only; omega)⟩
    rw [vsizes_take hlt]
    have := r3 (by omega)
    have := hn3 hnm
    omega
  · refine ⟨H, Gh.le hle1, k n hn1 hn2 fun hh => ?_⟩
    have hie : i = v.l.length := by
      have hnm := hh
      simp only [Bool.and_eq_false_iff, decide_eq_false_iff_not] at h
      omega
    have := hn3 hh
    rw [hie, List.take_length] at this
    omega

end
end Sx
end

noncomputable section
set_option linter.unusedVariables false
set_option linter.unusedSimpArgs false
namespace Sx
open Go Go.Proofs
theorem find_first {α : Type} {p : α → Bool} {l : List α} {i : Nat} (h : i < l.length) (h1 : ∀ v ∈ l.take i, p v = false) (h2 : p l[i] = true) : l.find? p = some l[i] := by
  obtain ⟨x, hx⟩ : ∃ x, x = l[i] := ⟨_, rfl⟩
  rw [← hx] at h2 ⊢
  have e : l = l.take i ++ x :: l.drop (i + 1) := by rw [hx, ← List.drop_eq_getElem_cons h, List.take_append_drop]
  rw [e, List.find?_append, List.find?_eq_none.2 (fun v hv => by simp [h1 v hv]), Option.none_or, List.find?_cons_of_pos h2]
theorem posV_keep {vs : List V} {v w : V} {n : Nat} (h : posV w vs = some n) : posV w (putV vs v).1 = some n := by
  unfold putV
  split
  · exact h
  · rename_i hn
    rw [posV_snoc hn]
    rw [if_neg]
    · exact h
    · intro e
      rw [← sameV_iff.1 e] at h
      rw [h] at hn; cases hn
theorem posV_put (vs : List V) (v : V) : posV v (putV vs v).1 = some (putV vs v).2 := by
  unfold putV
  split
  · rename_i n hn; exact hn
  · rename_i hn
    rw [posV_snoc hn, if_pos (sameV_iff.2 rfl)]
theorem posV_lt {v : V} {vs : List V} {n : Nat} (h : posV v vs = some n) : n < vs.length := (List.getElem?_eq_some_iff.1 (posV_some h)).1
/-- a value's number -/
def numOf (vs : List V) (v : V) : Int := (((posV v vs).getD 0 : Nat) : Int)
/-- all are there -/
def Ins (vs l : List V) : Prop := ∀ v ∈ l, ∃ n, posV v vs = some n
theorem numOf_keep {vs : List V} {v w : V} (h : ∃ n, posV w vs = some n) : numOf (putV vs v).1 w = numOf vs w := by
  obtain ⟨n, h⟩ := h
  unfold numOf; rw [h, posV_keep h]
theorem numOf_put (vs : List V) (v : V) : numOf (putV vs v).1 v = ((putV vs v).2 : Nat) := by unfold numOf; rw [posV_put]; rfl
theorem Ins.put {vs l : List V} (h : Ins vs l) (v : V) : Ins (putV vs v).1 (l ++ [v]) := fun w hw => by
  rcases List.mem_append.1 hw with hw | hw
  · obtain ⟨n, hn⟩ := h w hw
    exact ⟨n, posV_keep hn⟩
  · rw [List.mem_singleton] at hw; rw [hw]; exact ⟨_, posV_put _ _⟩
theorem Ins.nums {vs l : List V} (h : Ins vs l) (v : V) : (l ++ [v]).map (numOf (putV vs v).1) = l.map (numOf vs) ++ [((putV vs v).2 : Int)] := by
  rw [List.map_append, List.map_singleton, numOf_put]
  congr 1
  exact List.map_congr_left fun w hw => numOf_keep (h w hw)
theorem numOf_at {vs : List V} {v : V} (h : ∃ n, posV v vs = some n) : 0 ≤ numOf vs v ∧ numOf vs v < vs.length ∧ atV vs (numOf vs v) = v := by
  obtain ⟨n, h⟩ := h
  have h1 := posV_lt h
  have h2 := posV_some h
  have e : numOf vs v = (n : Int) := by unfold numOf; rw [h]; rfl
  rw [e]
  refine ⟨by omega, by omega, ?_⟩
  simp [atV, h2]
theorem numOf_inj {vs : List V} {v w : V} (h : ∃ n, posV v vs = some n) (h' : ∃ n, posV w vs = some n) : decide (numOf vs v = numOf vs w) = sameV v w := by
  obtain ⟨_, _, e1⟩ := numOf_at h
  obtain ⟨_, _, e2⟩ := numOf_at h'
  by_cases e : v = w
  · subst e; simp [sameV_iff.2]
  · have : sameV v w = false := by
      cases hs : sameV v w with
      | false => rfl
      | true => exact absurd (sameV_iff.1 hs) e
    rw [this, decide_eq_false]
    intro e3
    rw [e3] at e1
    exact e (e1.symm.trans e2)
/-- rows put -/
def putsV (vs l : List V) : List V × List Nat := l.foldl (fun a v => ((putV a.1 v).1, a.2 ++ [(putV a.1 v).2])) (vs, [])
theorem putsV_snoc (vs l : List V) (v : V) : putsV vs (l ++ [v]) = ((putV (putsV vs l).1 v).1, (putsV vs l).2 ++ [(putV (putsV vs l).1 v).2]) := by
  unfold putsV; rw [List.foldl_append]; rfl
theorem putV_mem {vs : List V} {v w : V} (h : w ∈ (putV vs v).1) : w ∈ vs ∨ w = v := by
  unfold putV at h
  split at h
  · exact .inl h
  · simpa using h
theorem putsV_len (vs : List V) : ∀ (l : List V), (putsV vs l).1.length ≤ vs.length + l.length ∧ vs.length ≤ (putsV vs l).1.length ∧ (putsV vs l).2.length = l.length := by
  intro l
  have : ∀ n, ∀ l : List V, l.length = n → (putsV vs l).1.length ≤ vs.length + l.length ∧ vs.length ≤ (putsV vs l).1.length ∧ (putsV vs l).2.length = l.length := by
    intro n
    induction n with
    | zero => intro l hl; have := List.length_eq_zero_iff.1 hl; subst this; exact ⟨Nat.le_refl _, Nat.le_refl _, rfl⟩
    | succ n ih =>
      intro l hl
      have hne : l ≠ [] := fun e => by rw [e] at hl; cases hl
      have e := List.dropLast_concat_getLast hne
      have h1 := ih l.dropLast (by rw [List.length_dropLast]; omega)
      have h2 := putV_len (putsV vs l.dropLast).1 (l.getLast hne)
      rw [← e, putsV_snoc]
      simp only [List.length_append, List.length_singleton]
      omega
  exact this _ l rfl
theorem putsV_mem {vs : List V} {w : V} : ∀ (n : Nat) (l : List V), l.length = n → w ∈ (putsV vs l).1 → w ∈ vs ∨ w ∈ l := by
  intro n
  induction n with
  | zero => intro l hl h; have := List.length_eq_zero_iff.1 hl; subst this; exact .inl h
  | succ n ih =>
    intro l hl h
    have hne : l ≠ [] := fun e => by rw [e] at hl; cases hl
    have e := List.dropLast_concat_getLast hne
    rw [← e, putsV_snoc] at h
    rcases putV_mem h with h | h
    · exact (ih _ (by rw [List.length_dropLast]; omega) h).imp id (fun h => List.dropLast_subset l h)
    · rw [h]; exact .inr (List.getLast_mem hne)

/-- a slice's block -/
def Bl (s : Sl) : Nat → Prop := fun c => ∃ p, s.p = some p ∧ p.1 = c
theorem OwnF.grow {H H2 : Heap} {z : Nat} {s r : Sl} {cs : List Value} (h : OwnF (H.off s) H2 z r cs) : Keep (Bl s) H H2 ∧ ∀ c, Bl r c → Bl s c ∨ H c = none := by
  refine ⟨fun c e hn hc => h.le _ _ (Heap.off_some hc fun p hp e' => hn ⟨p, hp, e'⟩), ?_⟩
  rintro _ ⟨p, hp, rfl⟩
  have := h.fresh p hp
  unfold Heap.off at this
  split at this
  · rename_i hh
    obtain ⟨q, hq, e⟩ := Option.map_eq_some_iff.1 hh
    exact .inl ⟨q, hq, e⟩
  · exact .inr this
theorem Own.keep {F : Nat → Prop} {H H2 : Heap} {z : Nat} {s : Sl} {cs : List Value} (h : Own H z s cs) (hk : Keep F H H2) (hF : ∀ c, Bl s c → ¬ F c) : Own H2 z s cs := by
  obtain ⟨q1, q2, q3, q4 | ⟨b, sp, q4, q5, q6⟩⟩ := h
  · exact ⟨q1, q2, q3, .inl q4⟩
  · exact ⟨q1, q2, q3, .inr ⟨b, sp, q4, hk _ _ (hF _ ⟨_, q4, rfl⟩) q5, q6⟩⟩
theorem Own.bl {H : Heap} {z : Nat} {s : Sl} {cs : List Value} (h : Own H z s cs) {c : Nat} (hc : Bl s c) : H c ≠ none := by
  obtain ⟨p, hp, rfl⟩ := hc
  obtain ⟨g, hg⟩ := h.mine hp
  rw [hg]; simp
theorem Keep.some {F : Nat → Prop} {H H2 : Heap} (h : Keep F H H2) {c : Nat} (hF : ¬ F c) (hc : H c ≠ none) : H2 c ≠ none := by
  cases hh : H c with
  | none => exact absurd hh hc
  | some e => rw [h c e hF hh]; simp
section
variable {C : Ctx} {H : Heap} {F : Nat → Prop} {tb : Nat} {vs : List V}
theorem nwV {x : TV} {b : Nat} {K : Heap → Prop} (k : K (H.put b (.row (T_api_Value.c x)))) : stT (b, 0) (T_api_Value.c x) K (H.put b (.row (T_api_Value.c T_api_Value.zero))) := by
  refine ⟨_, Heap.put_same .., by simp [T_api_Value.c], ?_⟩
  rw [Heap.put_put]
  have e : splice (T_api_Value.c T_api_Value.zero) (b, 0).2 (T_api_Value.c x) = T_api_Value.c x := rfl
  rw [e]; exact k
theorem PutRow_ok (hF : FmtC C) {A : Heap} {t : Sl} {l : List V} {K : Sl → Int → Heap → Prop} (h : Tb H F tb vs) (hA : A.le H) (hAF : ∀ c, F c → A c = none) (hv : VRow A t l) (hB : VBs l) (hs : vsizes l ≤ 1000000) (hn : vs.length + l.length ≤ 1000000)
    (k0 : (¬ ∀ v ∈ l, mayV v = true) → ∀ H2, H.le H2 → K Sl.nil (((l.find? fun v => !mayV v).map checkV).getD 0) H2)
    (k1 : (∀ v ∈ l, mayV v = true) → ∀ t2 H2 F2, Tb H2 F2 tb (putsV vs l).1 → Keep F H H2 → (∀ c, F2 c → F c ∨ H c = none) → Own H2 1 t2 ((putsV vs l).2.map fun n : Nat => encI n) → (∀ c, Bl t2 c → (F c ∨ H c = none) ∧ ¬ F2 c) → K t2 0 H2) : c_intern_Table_PutRow C (some (tb, 0)) t K H := by
  apply ad_intern_Table_PutRow
  unfold sh_intern_Table_PutRow
  refine ift_neg rfl ?_
  rw [hv.len]
  have hll := vsizes_len l
  refine ⟨fun x D => H.le D ∧ ∃ i : Nat, x = (i : Int) ∧ i ≤ l.length ∧ ∀ v ∈ l.take i, mayV v = true, fun x _ => l.length - x.toNat, ⟨Heap.le.refl _, 0, rfl, Nat.zero_le _, fun v hv => by simp at hv⟩, ?_⟩
  rintro _ D ⟨hD, i, rfl, hi, hall⟩
  refine ift.of (fun hlt => ?_) (fun hlt => ?_)
  · have hlt : i < l.length := by have := of_decide_eq_true hlt; omega
    refine hv.ld (hA.trans hD) rfl hlt fun x hx => ?_
    intro b nb
    refine nwV (bxV (Heap.put_same ..) ?_)
    have lb := Heap.le_put nb (g := .row (T_api_Value.c x)) (m := true)
    refine value_Check_ok (hx.le ((hA.trans hD).trans lb)) (hB.mem (List.getElem_mem hlt)) ?_
    rw [bne, mayV_dec]
    refine ift.of (fun hm => ?_) (fun hm => ?_)
    · have hm : mayV l[i] = false := by simpa using hm
      have hf : l.find? (fun v => !mayV v) = some l[i] := by
        exact find_first hlt (fun v hv => by simp [hall v hv]) (by simp [hm])
      have := k0 (fun h => by rw [h _ (List.getElem_mem hlt)] at hm; cases hm) _ (hD.trans lb)
      rw [hf] at this; exact this
    · have hm : mayV l[i] = true := by simpa using hm
      rw [w_i64 (by omega) (by omega)]
      refine ⟨⟨hD.trans lb, i + 1, by omega, by omega, fun v hv => ?_⟩, by first | omega | (dsimp only; omega)⟩
      rw [List.take_add_one, List.getElem?_eq_getElem hlt, Option.toList_some, List.mem_append, List.mem_singleton] at hv
      rcases hv with hv | rfl
      · exact hall v hv
      · exact hm
  have hie : i = l.length := by have := of_decide_eq_false hlt; omega
  subst hie
  rw [List.take_length] at hall
  have k1 := k1 hall
  refine ⟨fun x D => ∃ (i : Nat) (s : Sl) (F2 : Nat → Prop), x = (s, (i : Int)) ∧ i ≤ l.length ∧ Tb D F2 tb (putsV vs (l.take i)).1 ∧ Keep F H D ∧ (∀ c, F2 c → F c ∨ H c = none) ∧ Own D 1 s ((putsV vs (l.take i)).2.map fun n : Nat => encI n) ∧ ∀ c, Bl s c → (F c ∨ H c = none) ∧ ¬ F2 c, fun x _ => l.length - x.2.toNat,
    ⟨0, Sl.nil, F, rfl, Nat.zero_le _, h.le hD, Keep.of_le hD, (fun c hc => .inl hc), Own.nil _ 1, fun c ⟨p, hp, _⟩ => by cases hp⟩, ?_⟩
  clear hD hlt hi
  rintro _ D ⟨i, s, F2, rfl, hi, hT, hK, hF2, hO, hS⟩
  refine ift.of (fun hlt => ?_) (fun hlt => ?_)
  · have hlt : i < l.length := by have := of_decide_eq_true hlt; omega
    have hAD : A.le D := hK.le hA hAF
    have hAF2 : ∀ c, F2 c → A c = none := fun c hc => (hF2 c hc).elim (hAF c) hA.none
    refine hv.ld hAD rfl hlt fun x hx => ?_
    intro b nb
    refine nwV (bxV (Heap.put_same ..) ?_)
    have lb := Heap.le_put nb (g := .row (T_api_Value.c x)) (m := true)
    generalize D.put b (.row (T_api_Value.c x)) = D1 at *
    have hsz := vsize_mem (List.getElem_mem hlt)
    have hpl := putsV_len vs (l.take i)
    rw [List.length_take] at hpl
    refine Put_ok hF (hT.le lb) (hAD.trans lb) hAF2 hx (hB.mem (List.getElem_mem hlt)) (by omega) (by omega) (fun hm => by rw [hall _ (List.getElem_mem hlt)] at hm; cases hm) fun _ D2 F3 hT3 hK3 hF3 => ?_
    have e1 : putsV vs (l.take (i + 1)) = ((putV (putsV vs (l.take i)).1 l[i]).1, (putsV vs (l.take i)).2 ++ [(putV (putsV vs (l.take i)).1 l[i]).2]) := by
      rw [List.take_add_one, List.getElem?_eq_getElem hlt, Option.toList_some, putsV_snoc]
    have hK2 : Keep F H D2 := (hK.trans (Keep.of_le (F := fun _ => False) lb) fun c hc => hc.elim).trans hK3 hF2
    have hO2 : Own D2 1 s ((putsV vs (l.take i)).2.map fun n : Nat => encI n) := (hO.le lb).keep hK3 fun c hc => (hS c hc).2
    have hsl : s.len = i := by have := hO.1; simp at this; omega
    refine apd_ownF (zc := [.int .i64 0]) hO2.off rfl (by dsimp only; omega) (by dsimp only; omega) fun r D3 hr hrl => ?_
    obtain ⟨g1, g2⟩ := hr.grow
    have hbs : ∀ c, Bl s c → ¬ F3 c := fun c hc h3 => (hF3 c h3).elim (hS c hc).2 fun h1 => hO.bl hc (lb.none h1)
    rw [w_i64 (by dsimp only; omega) (by dsimp only; omega)]
    refine ⟨⟨i + 1, r, F3, by simp, by omega, ?_, hK2.trans g1 fun c hc => (hS c hc).1, fun c hc => (hF3 c hc).elim (hF2 c) fun h1 => ?_, ?_, fun c hc => ⟨(g2 c hc).elim (fun h => (hS c h).1) fun h2 => ?_, fun h3 => (g2 c hc).elim (fun h => hbs c h h3) fun h2 => hT3.dom c h3 h2⟩⟩, by first | omega | (dsimp only; omega)⟩
    · rw [e1]; exact hT3.keep g1 fun c hc hb => hbs c hb hc
    · by_cases hf : F c
      · exact .inl hf
      · refine .inr ?_
        cases hh : H c with
        | none => rfl
        | some e => have := hK c e hf hh; rw [lb.none h1] at this; cases this
    · rw [e1, List.map_append, List.map_singleton]; exact hr.own
    · by_cases hf : F c
      · exact .inl hf
      · refine .inr ?_
        cases hh : H c with
        | none => rfl
        | some e => have := hK2 c e hf hh; rw [h2] at this; cases this
  · have hie : i = l.length := by have := of_decide_eq_false hlt; omega
    subst hie
    rw [List.take_length] at hT hO
    exact k1 s D F2 hT hK hF2 hO hS
end
end Sx
end

noncomputable section
set_option linter.unusedVariables false
set_option linter.unusedSimpArgs false
namespace Sx
open Go Go.Proofs
section
variable {C : Ctx} {H : Heap}
theorem ints_ok {a b : List Int} {s t : Sl} {K : Bool → Heap → Prop} (hs : rdsl H s (a.map encI)) (hsl : s.len = a.length) (ht : rdsl H t (b.map encI)) (htl : t.len = b.length) (hn : a.length ≤ 1000000) (k : K (decide (a = b)) H) : c_ref04_Ints C s t K H := by
  apply ad_ref04_Ints
  unfold sh_ref04_Ints
  rw [hsl, htl]
  refine ift.of (fun h => ?_) (fun h => ?_)
  · have : a ≠ b := fun e => by subst e; simp at h
    rw [decide_eq_false this] at k; exact k
  have hl : a.length = b.length := Int.ofNat.inj (show (a.length : Int) = b.length by simpa using h)
  refine ⟨fun x D => D = H ∧ ∃ i : Nat, x = (i : Int) ∧ i ≤ a.length ∧ a.take i = b.take i, fun x _ => a.length - x.toNat, ⟨rfl, 0, rfl, Nat.zero_le _, rfl⟩, ?_⟩
  rintro _ D ⟨rfl, i, rfl, hi, he⟩
  refine ift.of (fun h => ?_) (fun h => ?_)
  · have hlt : i < a.length := by have := of_decide_eq_true h; omega
    have hlt2 : i < b.length := by omega
    refine ix_ldI hs rfl (by omega) (x := a[i]) (by rw [List.getElem?_map, List.getElem?_eq_getElem hlt]; rfl) ?_
    refine ix_ldI ht rfl (by omega) (x := b[i]) (by rw [List.getElem?_map, List.getElem?_eq_getElem hlt2]; rfl) ?_
    refine ift.of (fun h => ?_) (fun h => ?_)
    · have : a ≠ b := fun e => by subst e; simp at h
      rw [decide_eq_false this] at k; exact k
    rw [w_i64 (by omega) (by omega)]
    refine ⟨⟨rfl, i + 1, by omega, by omega, ?_⟩, by first | omega | (dsimp only; omega)⟩
    rw [List.take_add_one, List.take_add_one, he, List.getElem?_eq_getElem hlt, List.getElem?_eq_getElem hlt2]
    have : a[i] = b[i] := by simpa using h
    rw [this]
  · have hie : i = a.length := by have := of_decide_eq_false h; omega
    have : a = b := by
      rw [hie, List.take_length, hl, List.take_length] at he; exact he
    rw [decide_eq_true this] at k; exact k
theorem stV {b : Nat} {x y : TV} {K : Heap → Prop} (hb : H b = some (true, .row (T_api_Value.c x))) (k : K (H.put b (.row (T_api_Value.c y)))) : stT (b, 0) (T_api_Value.c y) K H := by
  refine ⟨_, hb, by simp [T_api_Value.c], ?_⟩
  have e : splice (T_api_Value.c x) (b, 0).2 (T_api_Value.c y) = T_api_Value.c y := rfl
  rw [e]; exact k
def eF : V := .mk 2 5 [] []
def eA : V := .mk 4 0 [97] []
def eY : V := .mk 1 1 [] []
theorem e_may : mayV eF = true ∧ mayV eA = true ∧ mayV eY = true := by decide +kernel
theorem e_vb : VB eF ∧ VB eA ∧ VB eY := by
  refine ⟨?_, ?_, ?_⟩ <;> simp [eF, eA, eY, VB, VBs]
theorem e_same : sameV eF eA = false ∧ sameV eF eY = false ∧ sameV eA eY = false ∧ sameV eA eF = false ∧ sameV eY eF = false ∧ sameV eY eA = false := by decide +kernel
theorem e_put : putV [] eF = ([eF], 0) ∧ putV [eF] eA = ([eF, eA], 1) ∧ putV [eF, eA] eF = ([eF, eA], 0) ∧ putsV [eF, eA] [eA, eY, eF] = ([eF, eA, eY], [1, 2, 0]) := by
  have s0 : ∀ v, sameV v v = true := fun v => sameV_iff.2 rfl
  obtain ⟨s1, s2, s3, s4, s5, s6⟩ := e_same
  refine ⟨?_, ?_, ?_, ?_⟩ <;> simp [putV, posV, putsV, s0, s1, s2, s3, s4, s5, s6]
theorem awake_ok (hF : FmtC C) {K : Bool → Heap → Prop} (k : ∀ H2, H.le H2 → K true H2) : c_law04_awake C K H := by
  obtain ⟨mF, mA, mY⟩ := e_may
  obtain ⟨bF, bA, bY⟩ := e_vb
  obtain ⟨p1, p2, p3, p4⟩ := e_put
  apply ad_law04_awake
  unfold sh_law04_awake
  intro b1 n1 b3 n3 b5 n5
  have ne13 : b1 ≠ b3 := fun e => by rw [e, Heap.put_same] at n3; cases n3
  have ne15 : b1 ≠ b5 := fun e => by rw [← e, Heap.put_ne _ _ _ ne13, Heap.put_same] at n5; cases n5
  have ne35 : b3 ≠ b5 := fun e => by rw [e, Heap.put_same] at n5; cases n5
  have m3 : H b3 = none := by rw [Heap.put_ne _ _ _ (Ne.symm ne13)] at n3; exact n3
  have m5 : H b5 = none := by rw [Heap.put_ne _ _ _ (Ne.symm ne35), Heap.put_ne _ _ _ (Ne.symm ne15)] at n5; exact n5
  refine stV (x := T_api_Value.zero) (by rw [Heap.put_ne _ _ _ ne15, Heap.put_ne _ _ _ ne13, Heap.put_same]) ?_
  refine stV (x := T_api_Value.zero) (by rw [Heap.put_ne _ _ _ (Ne.symm ne13), Heap.put_ne _ _ _ ne35, Heap.put_same]) ?_
  refine stV (x := T_api_Value.zero) (by rw [Heap.put_ne _ _ _ (Ne.symm ne35), Heap.put_ne _ _ _ (Ne.symm ne15), Heap.put_same]) ?_
  generalize hH9 : ((((((H.put b1 (.row (T_api_Value.c T_api_Value.zero))).put b3 (.row (T_api_Value.c T_api_Value.zero))).put b5 (.row (T_api_Value.c T_api_Value.zero))).put b1 (.row (T_api_Value.c ⟨2, 5, [], Sl.nil⟩))).put b3 (.row (T_api_Value.c ⟨4, 0, [97], Sl.nil⟩))).put b5 (.row (T_api_Value.c ⟨1, 1, [], Sl.nil⟩))) = H9
  have l9 : H.le H9 := fun z e hz => by
    have z1 : z ≠ b1 := fun e' => by rw [e', n1] at hz; cases hz
    have z3 : z ≠ b3 := fun e' => by rw [e', m3] at hz; cases hz
    have z5 : z ≠ b5 := fun e' => by rw [e', m5] at hz; cases hz
    rw [← hH9, Heap.put_ne _ _ _ z5, Heap.put_ne _ _ _ z3, Heap.put_ne _ _ _ z1, Heap.put_ne _ _ _ z5, Heap.put_ne _ _ _ z3, Heap.put_ne _ _ _ z1]; exact hz
  have h1 : H9 b1 = some (true, .row (T_api_Value.c ⟨2, 5, [], Sl.nil⟩)) := by rw [← hH9, Heap.put_ne _ _ _ ne15, Heap.put_ne _ _ _ ne13, Heap.put_same]
  have h3 : H9 b3 = some (true, .row (T_api_Value.c ⟨4, 0, [97], Sl.nil⟩)) := by rw [← hH9, Heap.put_ne _ _ _ ne35, Heap.put_same]
  have h5 : H9 b5 = some (true, .row (T_api_Value.c ⟨1, 1, [], Sl.nil⟩)) := by rw [← hH9, Heap.put_same]
  clear hH9 n1 n3 n5 m3 m5
  have iF : ∀ D : Heap, VIs D eF ⟨2, 5, [], Sl.nil⟩ := fun D => ⟨rfl, rfl, rfl, [], .inl rfl, rfl, trivial⟩
  have iA : ∀ D : Heap, VIs D eA ⟨4, 0, [97], Sl.nil⟩ := fun D => ⟨rfl, rfl, rfl, [], .inl rfl, rfl, trivial⟩
  have iY : ∀ D : Heap, VIs D eY ⟨1, 1, [], Sl.nil⟩ := fun D => ⟨rfl, rfl, rfl, [], .inl rfl, rfl, trivial⟩
  have zF : vsize eF ≤ 1000000 := by simp [eF, vsize, vsizes]
  have zA : vsize eA ≤ 1000000 := by simp [eA, vsize, vsizes]
  have zY : vsize eY ≤ 1000000 := by simp [eY, vsize, vsizes]
  refine new_ok fun tb H11 l11 ntb hT => ?_
  have f0 : ∀ c, (fun c => H9 c = none ∧ H11 c ≠ none) c → H9 c = none := fun c hc => hc.1
  generalize (fun c => H9 c = none ∧ H11 c ≠ none) = F0 at hT f0
  refine bxV (l11 _ _ h1) (Put_ok hF hT l11 f0 (iF _) bF zF (by simp) (fun h => by rw [mF] at h; cases h) fun _ H16 F1 hT1 hK1 hF1 => ?_)
  rw [p1] at hT1 ⊢
  have l16 : H9.le H16 := hK1.le l11 f0
  have f1 : ∀ c, F1 c → H9 c = none := fun c hc => (hF1 c hc).elim (f0 c) l11.none
  refine bxV (l16 _ _ h3) (Put_ok hF hT1 l16 f1 (iA _) bA zA (by simp) (fun h => by rw [mA] at h; cases h) fun _ H21 F2 hT2 hK2 hF2 => ?_)
  rw [p2] at hT2 ⊢
  have l21 : H9.le H21 := hK2.le l16 f1
  have f2 : ∀ c, F2 c → H9 c = none := fun c hc => (hF2 c hc).elim (f1 c) l16.none
  refine bxV (l21 _ _ h1) (Put_ok hF hT2 l21 f2 (iF _) bF zF (by simp) (fun h => by rw [mF] at h; cases h) fun _ H26 F3 hT3 hK3 hF3 => ?_)
  rw [p3] at hT3 ⊢
  have l26 : H9.le H26 := hK3.le l21 f2
  have f3 : ∀ c, F3 c → H9 c = none := fun c hc => (hF3 c hc).elim (f2 c) l21.none
  refine bxV (l26 _ _ h3) (bxV (l26 _ _ h5) (bxV (l26 _ _ h1) ?_))
  intro b33 n33
  have l33 := Heap.le_put n33 (g := .row (T_api_Value.c ⟨4, 0, [97], Sl.nil⟩ ++ T_api_Value.c ⟨1, 1, [], Sl.nil⟩ ++ T_api_Value.c ⟨2, 5, [], Sl.nil⟩ ++ [])) (m := true)
  have hT4 := hT3.le l33
  have lA := l26.puts b33 (.row (T_api_Value.c ⟨4, 0, [97], Sl.nil⟩ ++ T_api_Value.c ⟨1, 1, [], Sl.nil⟩ ++ T_api_Value.c ⟨2, 5, [], Sl.nil⟩ ++ [])) true
  have fA : ∀ c, F3 c → (H9.put b33 (.row (T_api_Value.c ⟨4, 0, [97], Sl.nil⟩ ++ T_api_Value.c ⟨1, 1, [], Sl.nil⟩ ++ T_api_Value.c ⟨2, 5, [], Sl.nil⟩ ++ []))) c = none := fun c hc => by
    have : c ≠ b33 := fun e => by rw [e] at hc; exact hT3.dom _ hc n33
    rw [Heap.put_ne _ _ _ this]; exact f3 c hc
  have row : VRow (H9.put b33 (.row (T_api_Value.c ⟨4, 0, [97], Sl.nil⟩ ++ T_api_Value.c ⟨1, 1, [], Sl.nil⟩ ++ T_api_Value.c ⟨2, 5, [], Sl.nil⟩ ++ []))) (Sl.of (some (b33, 0)) 3 3) [eA, eY, eF] :=
    ⟨[⟨4, 0, [97], Sl.nil⟩, ⟨1, 1, [], Sl.nil⟩, ⟨2, 5, [], Sl.nil⟩], .inr ⟨rfl, _, rfl, rds_row (Heap.put_same ..) fun j v hj => by rw [Nat.zero_add]; exact hj⟩, rfl, iA _, iY _, iF _, trivial⟩
  refine PutRow_ok hF hT4 lA fA row ⟨bA, bY, bF, trivial⟩ (by simp [vsizes, vsize, eA, eY, eF]) (by simp) (fun h => absurd (fun v hv => ?_) h) fun _ t2 H37 F4 hT5 hK5 hF5 hO hB5 => ?_
  · simp only [List.mem_cons, List.not_mem_nil, or_false] at hv
    rcases hv with rfl | rfl | rfl <;> assumption
  rw [p4] at hT5 hO
  have n33' : H9 b33 = none := l26.none n33
  have l37 : H9.le H37 := (Heap.le_put n33').trans (hK5.le lA fA)
  have hvs : ∀ v ∈ [eF, eA, eY], vsize v ≤ 1000000 := fun v hv => by
    simp only [List.mem_cons, List.not_mem_nil, or_false] at hv
    rcases hv with rfl | rfl | rfl <;> assumption
  refine tAt_ok hT5 (by simp) hvs (fun _ y H40 l40 iy _ => ?_) (fun h => absurd (by decide) h)
  have iy : VIs H40 eY y := iy.le (Heap.new_le _ _)
  intro b41 n41
  refine nwV ?_
  have l42 := Heap.le_put n41 (g := .row (T_api_Value.c y)) (m := true)
  have h41 : (H40.put b41 (.row (T_api_Value.c y))) b41 = some (true, .row (T_api_Value.c y)) := Heap.put_same ..
  generalize H40.put b41 (.row (T_api_Value.c y)) = H42 at *
  refine tAt_ok (hT5.le (l40.trans l42)) (by simp) hvs (fun h => absurd h (by decide)) (fun _ H46 l46 => ?_)
  intro b47 n47
  refine nwV ?_
  have l48 := Heap.le_put n47 (g := .row (T_api_Value.c ⟨0, 0, [], Sl.nil⟩)) (m := true)
  generalize H46.put b47 (.row (T_api_Value.c ⟨0, 0, [], Sl.nil⟩)) = H48 at *
  have l4 : H37.le H48 := ((l40.trans l42).trans l46).trans l48
  refine ⟨fun b D => b = true ∧ H48.le D, ?_, ?_⟩
  · refine ift_pos rfl ?_
    intro b62 n62
    have l62 := Heap.le_put n62 (g := .row [.int .i64 1, .int .i64 2, .int .i64 0]) (m := true)
    refine ints_ok (a := [1, 2, 0]) (b := [1, 2, 0]) (rdsl_le (l4.trans l62) hO.rdsl) (by have := hO.1; simpa using this.symm) (.inr ⟨rfl, _, rfl, rds_row (Heap.put_same ..) fun j v hj => by rw [Nat.zero_add]; exact hj⟩) rfl (by simp) ⟨by decide, l62⟩
  rintro _ D ⟨rfl, lD⟩
  refine ⟨fun b E => b = true ∧ D.le E, ?_, ?_⟩
  · refine ift_pos rfl (bxV (lD _ _ (l48 _ _ (l46 _ _ h41))) (bxV (lD _ _ (l4 _ _ (l37 _ _ h5))) (Same_ok (iy.le (((l42.trans l46).trans l48).trans lD)) (iY _) bY ⟨sameV_iff.2 rfl, Heap.le.refl _⟩)))
  rintro _ E ⟨rfl, lE⟩
  refine ⟨fun b G => b = true ∧ E.le G, ?_, ?_⟩
  · exact ift_pos rfl (Len_ok (hT5.le ((l4.trans lD).trans lE)) ⟨rfl, Heap.le.refl _⟩)
  rintro _ G ⟨rfl, lG⟩
  exact k _ ((((l9.trans l37).trans l4).trans lD).trans (lE.trans lG))
end
end Sx
end

noncomputable section
set_option linter.unusedVariables false
set_option linter.unusedSimpArgs false
namespace Sx
open Go Go.Proofs
theorem snoc_ind {α : Type} {P : List α → Prop} (h0 : P []) (h1 : ∀ l a, P l → P (l ++ [a])) : ∀ l, P l := by
  have : ∀ n, ∀ l : List α, l.length = n → P l := by
    intro n
    induction n with
    | zero => intro l hl; have := List.length_eq_zero_iff.1 hl; subst this; exact h0
    | succ n ih =>
      intro l hl
      have hne : l ≠ [] := fun e => by rw [e] at hl; cases hl
      rw [← List.dropLast_concat_getLast hne]
      exact h1 _ _ (ih _ (by rw [List.length_dropLast]; omega))
  exact fun l => this _ l rfl
theorem putsV_nums : ∀ p : List V, Ins (putsV [] p).1 p ∧ (putsV [] p).2.map (fun n : Nat => (n : Int)) = p.map (numOf (putsV [] p).1) := by
  refine snoc_ind ⟨fun v hv => by simp at hv, rfl⟩ fun p v ⟨h1, h2⟩ => ?_
  rw [putsV_snoc]
  exact ⟨h1.put v, by rw [List.map_append, h2, Ins.nums h1 v]; rfl⟩
theorem filter_take_succ {α : Type} (f : α → Bool) {l : List α} {i : Nat} (h : i < l.length) : (l.take (i + 1)).filter f = (l.take i).filter f ++ if f l[i] then [l[i]] else [] := by
  rw [List.take_add_one, List.getElem?_eq_getElem h, Option.toList_some, List.filter_append]
  congr 1
  by_cases hf : f l[i] = true <;> simp [hf]
/-- all that was put, with numbers and values told beside -/
def OneI (D E : Heap) (tb : Nat) (p : List V) (s1 s2 : Sl) : Prop := ∃ (F : Nat → Prop) (xs : List TV), Tb E F tb (putsV [] p).1 ∧ D.le E ∧ (∀ c, F c → D c = none) ∧ Own E 1 s1 ((putsV [] p).2.map fun n : Nat => encI n) ∧ Own E 4 s2 (xs.flatMap T_api_Value.c) ∧ VsAre D p xs ∧
  (∀ c, Bl s1 c → D c = none ∧ ¬ F c) ∧ ∀ c, Bl s2 c → D c = none ∧ ¬ F c ∧ ¬ Bl s1 c
theorem OneI.le {D E E2 : Heap} {tb : Nat} {p : List V} {s1 s2 : Sl} (h : OneI D E tb p s1 s2) (hle : E.le E2) : OneI D E2 tb p s1 s2 := by
  obtain ⟨F, xs, h1, h2, h3, h4, h5, h6, h7, h8⟩ := h
  exact ⟨F, xs, h1.le hle, h2.trans hle, h3, h4.le hle, h5.le hle, h6, h7, h8⟩
theorem VsAre.snoc {H : Heap} {v : V} {x : TV} (hx : VIs H v x) : ∀ {l : List V} {xs : List TV}, VsAre H l xs → VsAre H (l ++ [v]) (xs ++ [x])
  | [], [], _ => ⟨hx, trivial⟩
  | w :: l, y :: xs, ⟨h1, h2⟩ => ⟨h1, VsAre.snoc hx h2⟩
section
variable {C : Ctx} {H : Heap}
theorem InternOne_ok (hF : FmtC C) {l : List V} {s : Sl} {K : Bool → Heap → Prop} (hv : VRow H s l) (hB : VBs l) (hl : l.length ≤ 140737488355328) (k : ∀ H2, K true H2) : c_law04_InternOne C s K H := by
  apply ad_law04_InternOne
  unfold sh_law04_InternOne
  rw [hv.len]
  refine ⟨fun y A => A = H ∧ ∃ i n : Nat, y = ((n : Int), (i : Int)) ∧ i ≤ l.length ∧ n ≤ 8796093024000 ∧ (n < 600 → vsizes (l.take i) ≤ n), fun y _ => l.length - y.2.toNat,
    ⟨rfl, 0, 0, rfl, Nat.zero_le _, by omega, fun _ => by simp [vsizes]⟩, ?_⟩
  rintro _ A ⟨rfl, i, n, rfl, hi, hn2, hn3⟩
  refine ift.of (fun h => ?_) (fun h => ?_)
  · simp only [Bool.and_eq_true, decide_eq_true_eq] at h
    have hlt : i < l.length := by omega
    have hnm : n < 600 := by omega
    have hmem := List.getElem_mem hlt
    refine hv.ld (Heap.le.refl _) rfl hlt fun y hy => ?_
    refine weight_ok (m := 600) hy (hB.mem hmem) (by omega) (by omega) fun r r1 r2 r3 => ?_
    rw [w_i64 (by omega) (by omega), w_i64 (by omega) (by omega)]
    refine ⟨⟨rfl, i + 1, n + r, by simp, by omega, by omega, fun hh => ?_⟩, by first | omega | (dsimp only; omega)⟩
    rw [vsizes_take hlt]
    have := r3 (by omega)
    have := hn3 hnm
    omega
  refine ⟨fun b D => A.le D ∧ (b = false → vsizes l ≤ 600), ?_, ?_⟩
  · refine ift.of (fun _ => ⟨Heap.le.refl _, fun h => by cases h⟩) (fun h6 => awake_ok hF fun H2 h2 => ⟨h2, fun _ => ?_⟩)
    have h6 := of_decide_eq_false h6
    dsimp only at h6
    have hie : i = l.length := by
      simp only [Bool.and_eq_false_iff, decide_eq_false_iff_not] at h
      omega
    have := hn3 (by omega)
    rw [hie, List.take_length] at this
    omega
  rintro b D ⟨hD, h600⟩
  refine ift.of (fun _ => awake_ok hF fun H2 _ => k H2) (fun hb => ?_)
  have hs := h600 hb
  clear h h600 hi hn2 hn3
  have hll := vsizes_len l
  have hvD := hv.le hD
  refine new_ok fun tb H26 l26 ntb hT => ?_
  refine ⟨fun x E => ∃ i : Nat, x.2.2 = (i : Int) ∧ i ≤ l.length ∧ OneI D E tb ((l.take i).filter mayV) x.1 x.2.1, fun x _ => l.length - x.2.2.toNat,
    ⟨0, rfl, Nat.zero_le _, _, [], hT, l26, (fun c hc => hc.1), Own.nil _ 1, Own.nil _ 4, trivial, (fun c ⟨p, hp, _⟩ => by cases hp), fun c ⟨p, hp, _⟩ => by cases hp⟩, ?_⟩
  rintro ⟨s1, s2, _⟩ E ⟨i, rfl, hi, hO⟩
  refine ift.of (fun h => ?_) (fun h => ?_)
  · have hlt : i < l.length := by have := of_decide_eq_true h; dsimp only at this; omega
    have hmem := List.getElem_mem hlt
    have hsz := vsize_mem hmem
    have hBi := hB.mem hmem
    have hft := filter_take_succ mayV hlt
    refine ⟨fun x E2 => OneI D E2 tb ((l.take (i + 1)).filter mayV) x.1 x.2, ?_, ?_⟩
    · rw [hft]
      have hO' := hO
      obtain ⟨F, xs, h1, h2, h3, h4, h5, h6, h7, h8⟩ := hO
      have hpl := putsV_len [] ((l.take i).filter mayV)
      have hfl := List.length_filter_le mayV (l.take i)
      rw [List.length_take] at hfl
      simp only [List.length_nil, Nat.zero_add] at hpl
      refine Len_ok h1 ?_
      refine hvD.ld h2 rfl hlt fun x hx => ?_
      refine Put_ok hF h1 h2 h3 hx hBi (by omega) (by omega) (fun hm H46 l46 => ?_) (fun hm H46 F2 hT2 hK2 hF2 => ?_)
      · refine hvD.ld (h2.trans l46) rfl hlt fun y hy => value_Check_ok (hy.le (h2.trans l46)) hBi ?_
        refine ift_neg (by simp) (ift_pos ?_ ?_)
        · rw [bne, mayV_dec, hm]; rfl
        · have := hO'.le l46
          simp only [hm, Bool.false_eq_true, if_false, List.append_nil]
          exact this
      have h2' := hK2.le h2 h3
      refine hvD.ld h2' rfl hlt fun y hy => value_Check_ok (hy.le h2') hBi ?_
      have hck : checkV l[i] = 0 := by have := mayV_dec l[i]; rw [hm] at this; simpa using this
      rw [hck]
      refine ift_neg rfl (ift_neg rfl ?_)
      have hpc : ((putV (putsV [] ((l.take i).filter mayV)).1 l[i]).2 < (putsV [] ((l.take i).filter mayV)).1.length ∧ (putV (putsV [] ((l.take i).filter mayV)).1 l[i]).1.length = (putsV [] ((l.take i).filter mayV)).1.length) ∨
          ((putV (putsV [] ((l.take i).filter mayV)).1 l[i]).2 = (putsV [] ((l.take i).filter mayV)).1.length ∧ (putV (putsV [] ((l.take i).filter mayV)).1 l[i]).1.length = (putsV [] ((l.take i).filter mayV)).1.length + 1) := by
        unfold putV
        split
        · rename_i n hn
          exact .inl ⟨posV_lt hn, rfl⟩
        · exact .inr ⟨rfl, by simp⟩
      have hvl : (putsV [] ((l.take i).filter mayV)).1.length ≤ 600 := by omega
      rw [hm, if_pos rfl]
      have e1 : putsV [] ((l.take i).filter mayV ++ [l[i]]) = ((putV (putsV [] ((l.take i).filter mayV)).1 l[i]).1, (putsV [] ((l.take i).filter mayV)).2 ++ [(putV (putsV [] ((l.take i).filter mayV)).1 l[i]).2]) := putsV_snoc ..
      have hsl1 : s1.len = (putsV [] ((l.take i).filter mayV)).2.length := by have := h4.1; simp at this; omega
      have hxl := h6.len
      have hsl2 : s2.len = xs.length := by have := h5.1; dsimp only at this; rw [flat4] at this; omega
      have hsn : VsAre D ((l.take i).filter mayV ++ [l[i]]) (xs ++ [y]) := VsAre.snoc hy h6
      generalize (l.take i).filter mayV = p at *
      refine ⟨fun b G => b = false ∧ G = H46, ?_, ?_⟩
      · refine ift_neg ?_ ⟨fun b G => b = false ∧ G = H46, ?_, ?_⟩
        · simp only [Bool.or_eq_false_iff, decide_eq_false_iff_not]
          omega
        · refine ift.of (fun h => Len_ok hT2 ⟨?_, rfl⟩) (fun h => ⟨rfl, rfl⟩)
          simp only [beq_iff_eq] at h
          rw [w_i64 (by omega) (by omega)]
          rcases hpc with ⟨q1, q2⟩ | ⟨q1, q2⟩
          · omega
          · rw [q2]; simp
        · rintro _ _ ⟨rfl, rfl⟩; exact ⟨rfl, rfl⟩
      rintro _ H46 ⟨rfl, rfl⟩
      refine ⟨fun b G => b = false ∧ G = H46, ?_, ?_⟩
      · refine ift_neg rfl ⟨fun b G => b = false ∧ G = H46, ?_, ?_⟩
        · refine ift.of (fun h => Len_ok hT2 ⟨?_, rfl⟩) (fun h => ⟨rfl, rfl⟩)
          have h := of_decide_eq_true h
          rcases hpc with ⟨q1, q2⟩ | ⟨q1, q2⟩
          · rw [q2]; simp
          · omega
        · rintro _ _ ⟨rfl, rfl⟩; exact ⟨rfl, rfl⟩
      rintro _ H46 ⟨rfl, rfl⟩
      refine ift_neg rfl ?_
      have o1 : Own H46 1 s1 ((putsV [] p).2.map fun n : Nat => encI n) := h4.keep hK2 fun c hc => (h7 c hc).2
      have o2 : Own H46 4 s2 (xs.flatMap T_api_Value.c) := h5.keep hK2 fun c hc => (h8 c hc).2.1
      have n1 : ∀ c, Bl s1 c → ¬ F2 c := fun c hc hf => (hF2 c hf).elim (h7 c hc).2 fun hn => h4.bl hc hn
      have n2 : ∀ c, Bl s2 c → ¬ F2 c := fun c hc hf => (hF2 c hf).elim (h8 c hc).2.1 fun hn => h5.bl hc hn
      refine apd_ownF (zc := [.int .i64 0]) o1.off rfl (by dsimp only; omega) (by dsimp only; omega) fun r D3 hr hrl => ?_
      obtain ⟨g1, g2⟩ := hr.grow
      have h23 : D.le D3 := g1.le h2' fun c hc => (h7 c hc).1
      refine hvD.ld h23 rfl hlt fun z hz => ?_
      have o3 : Own D3 4 s2 (xs.flatMap T_api_Value.c) := o2.keep g1 fun c hc => (h8 c hc).2.2
      refine apd_ownF (zc := T_api_Value.c T_api_Value.zero) o3.off (by simp [T_api_Value.c, T_api_Value.zero]) (by dsimp only; omega) (by dsimp only; omega) fun r2 D4 hr2 hrl2 => ?_
      obtain ⟨g3, g4⟩ := hr2.grow
      have hT3 := hT2.keep g1 fun c hc hb => n1 c hb hc
      have n3 : ∀ c, Bl r c → D c = none ∧ ¬ F2 c := fun c hc => by
        rcases g2 c hc with h | h
        · exact ⟨(h7 c h).1, n1 c h⟩
        · exact ⟨h2'.none h, fun hf => hT2.dom c hf h⟩
      have n4 : ∀ c, Bl s2 c → ¬ Bl r c := fun c hc hr => by
        rcases g2 c hr with h | h
        · exact (h8 c hc).2.2 h
        · exact o2.bl hc h
      refine ⟨F2, xs ++ [z], ?_, g3.le h23 fun c hc => (h8 c hc).1, fun c hc => (hF2 c hc).elim (h3 c) h2.none, ?_, ?_, VsAre.snoc hz h6, n3, fun c hc => ?_⟩
      · rw [e1]; exact hT3.keep g3 fun c hc hb => n2 c hb hc
      · rw [e1, List.map_append, List.map_singleton]; exact hr.own.keep g3 fun c hc hb => n4 c hb hc
      · have := hr2.own
        rw [List.append_nil] at this
        rw [List.flatMap_append, List.flatMap_singleton]; exact this
      · rcases g4 c hc with h | h
        · exact ⟨(h8 c h).1, n2 c h, n4 c h⟩
        · exact ⟨h23.none h, fun hf => hT3.dom c hf h, fun hb => hr.own.bl hb h⟩
    · rintro ⟨r1, r2⟩ E2 hO2
      rw [w_i64 (by dsimp only; omega) (by dsimp only; omega)]
      exact ⟨⟨i + 1, by simp, by omega, hO2⟩, by first | omega | (dsimp only; omega)⟩
  -- what was told
  have hie : i = l.length := by have := of_decide_eq_false h; dsimp only at this; omega
  subst hie
  rw [List.take_length] at hO
  obtain ⟨F, xs, h1, h2, h3, h4, h5, h6, h7, h8⟩ := hO
  have hpm : ∀ v ∈ l.filter mayV, v ∈ l ∧ mayV v = true := fun v hv => List.mem_filter.1 hv
  have hpl : (l.filter mayV).length ≤ l.length := List.length_filter_le ..
  obtain ⟨hI, hN⟩ := putsV_nums (l.filter mayV)
  have hNe : ((putsV [] (l.filter mayV)).2.map fun n : Nat => encI n) = ((l.filter mayV).map (numOf (putsV [] (l.filter mayV)).1)).map encI := by rw [← hN, List.map_map]; rfl
  have hvl : (putsV [] (l.filter mayV)).1.length ≤ (l.filter mayV).length := by have := (putsV_len [] (l.filter mayV)).1; simpa using this
  have hvm : ∀ v ∈ (putsV [] (l.filter mayV)).1, vsize v ≤ 1000000 := fun v hv => by
    rcases putsV_mem _ _ rfl hv with h | h
    · simp at h
    · have := vsize_mem (hpm v h).1; omega
  rw [hNe] at h4
  generalize (putsV [] (l.filter mayV)).1 = vs at *
  have hpB : VBs (l.filter mayV) := VBs.of fun v hv => hB.mem (hpm v hv).1
  have hpz : ∀ v ∈ l.filter mayV, vsize v ≤ 1000000 := fun v hv => by have := vsize_mem (hpm v hv).1; omega
  have hpmay : ∀ v ∈ l.filter mayV, mayV v = true := fun v hv => (hpm v hv).2
  generalize l.filter mayV = p at *
  have hxl := h6.len
  have hrow : VRow E s2 p := ⟨xs, h5.rdsl, by have := h5.1; dsimp only at this; rw [flat4] at this; omega, h6.le h2⟩
  have hsl1 : s1.len = p.length := by have := h4.1; simp at this; omega
  have hat : ∀ i (hi : i < p.length), ((p.map (numOf vs)).map encI)[i]? = some (encI (numOf vs p[i])) := fun i hi => by rw [List.getElem?_map, List.getElem?_map, List.getElem?_eq_getElem hi]; rfl
  dsimp only
  rw [hsl1]
  refine ⟨fun x G => E.le G ∧ ∃ i : Nat, x = (i : Int) ∧ i ≤ p.length, fun x _ => p.length - x.toNat, ⟨Heap.le.refl _, 0, rfl, Nat.zero_le _⟩, ?_⟩
  rintro _ G ⟨hG, i, rfl, hi⟩
  refine ift.of (fun h => ?_) (fun h => ?_)
  · have hlt : i < p.length := by have := of_decide_eq_true h; omega
    have hmem := List.getElem_mem hlt
    have hBi := hpB.mem hmem
    obtain ⟨q1, q2, q3⟩ := numOf_at (hI _ hmem)
    refine ix_ldI (rdsl_le hG h4.rdsl) rfl (by omega) (hat i hlt) ?_
    refine tAt_ok (h1.le hG) (by omega) hvm (fun _ y H108 l108 iy _ => ?_) (fun h => absurd ⟨q1, q2⟩ h)
    rw [q3] at iy
    have iy : VIs H108 p[i] y := iy.le (Heap.new_le _ _)
    intro b109 n109
    refine nwV ?_
    have l111 := Heap.le_put n109 (g := .row (T_api_Value.c y)) (m := true)
    have hb : (H108.put b109 (.row (T_api_Value.c y))) b109 = some (true, .row (T_api_Value.c y)) := Heap.put_same ..
    generalize H108.put b109 (.row (T_api_Value.c y)) = H111 at *
    have lE := (hG.trans l108).trans l111
    refine hrow.ld lE rfl hlt fun z hz => ?_
    refine Find_ok hF (h1.le lE) (hz.le lE) hBi (hpz _ hmem) (fun hm => by rw [hpmay _ hmem] at hm; cases hm) (fun _ H121 l121 => ?_)
    have hnum : (((posV p[i] vs).getD 0 : Nat) : Int) = numOf vs p[i] := rfl
    have his : (posV p[i] vs).isSome = true := by obtain ⟨n, hn⟩ := hI _ hmem; rw [hn]; rfl
    rw [hnum, his]
    have lE2 := lE.trans l121
    refine ⟨fun b J => b = false ∧ J = H121, ?_, ?_⟩
    · refine ⟨H121, Heap.le.refl _, ift_neg rfl (bxV (l121 _ _ hb) (hrow.ld lE2 rfl hlt fun u hu => Same_ok (iy.le (l111.trans l121)) (hu.le lE2) hBi ⟨Heap.le.refl _, ?_⟩))⟩
      rw [sameV_iff.2 rfl]
      refine ift_neg rfl (ift_neg rfl (ix_ldI (rdsl_le lE2 h4.rdsl) rfl (by omega) (hat i hlt) ⟨by simp, rfl⟩))
    rintro _ H121 ⟨rfl, rfl⟩
    refine ift_neg rfl ?_
    refine ⟨fun x J => J = H121 ∧ ∃ j : Nat, x = (j : Int) ∧ j ≤ i, fun x _ => i - x.toNat, ⟨rfl, 0, rfl, Nat.zero_le _⟩, ?_⟩
    rintro _ H121 ⟨rfl, j, rfl, hj⟩
    refine ift.of (fun h => ?_) (fun h => ?_)
    · have hji : j < i := by have := of_decide_eq_true h; omega
      have hjl : j < p.length := by omega
      refine ⟨H121, Heap.le.refl _, ix_ldI (rdsl_le lE2 h4.rdsl) rfl (by omega) (hat i hlt) (ix_ldI (rdsl_le lE2 h4.rdsl) rfl (by omega) (hat j hjl) (hrow.ld lE2 rfl hlt fun u hu => hrow.ld lE2 rfl hjl fun t ht => Same_ok (hu.le lE2) (ht.le lE2) hBi ⟨Heap.le.refl _, ?_⟩))⟩
      have hin := numOf_inj (hI _ hmem) (hI _ (List.getElem_mem hjl))
      have hbe : ((numOf vs p[i] : Int) == numOf vs p[j]) = sameV p[i] p[j] := by rw [← hin]; rfl
      rw [hbe]
      refine ift_neg (by simp) ?_
      rw [w_i64 (by omega) (by omega)]
      exact ⟨⟨rfl, j + 1, by omega, by omega⟩, by first | omega | (dsimp only; omega)⟩
    · rw [w_i64 (by omega) (by omega)]
      exact ⟨⟨lE2, i + 1, by omega, by omega⟩, by first | omega | (dsimp only; omega)⟩
  have e2 : (p.map (numOf vs)).map (atV vs) = p := by
    rw [List.map_map]
    conv => rhs; rw [← List.map_id p]
    exact List.map_congr_left fun v hv => (numOf_at (hI v hv)).2.2
  refine tRow_ok (h1.le hG) (Heap.le.refl _) (rdsl_le hG h4.rdsl) (by rw [List.length_map]; exact hsl1) (by rw [List.length_map]; omega) (by omega) hvm (fun _ r H191 hM => ?_) (fun hn => absurd (fun n hn => ?_) hn)
  · rw [e2] at hM
    refine ⟨fun b J => b = true, ift_pos rfl (SameRow_ok hM.row2 (hrow.le (hG.trans hM.le)) (by omega) hpB (sameVs_iff.2 rfl)), ?_⟩
    rintro _ J rfl; exact k J
  · obtain ⟨v, hv, rfl⟩ := List.mem_map.1 hn
    obtain ⟨q1, q2, _⟩ := numOf_at (hI v hv)
    exact ⟨q1, q2⟩
end
end Sx
end

