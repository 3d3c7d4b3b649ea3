/-
  Records in memory; the two readers.
-/
import Derived.Test.YthmnlmegehaccaaDoorCsvB
import Derived.Test.YthmnlmegehaccaaDoorCsvQ
set_option linter.unusedVariables false
set_option linter.unusedSimpArgs false
set_option maxRecDepth 10000
namespace Sx
open Go Go.Proofs

/-- two slices of different blocks -/
def Dj (s t : Sl) : Prop := ∀ p q, s.p = some p → t.p = some q → p.1 ≠ q.1
theorem Dj.symm {s t : Sl} (h : Dj s t) : Dj t s := fun p q hp hq e => h q p hq hp e.symm
theorem Dj.nil (s : Sl) : Dj s Sl.nil := fun p q hp hq => by cases hq

/-- what is kept but for the domain of D -/
def Kept (D A B : Heap) : Prop := ∀ x e, D x = none → A x = some e → B x = some e
theorem Kept.refl (D A : Heap) : Kept D A A := fun _ _ _ h => h
theorem Kept.trans {D A B E : Heap} (h : Kept D A B) (h2 : Kept D B E) : Kept D A E := fun x e hd hx => h2 x e hd (h x e hd hx)
theorem Kept.le {D A B : Heap} (h : A.le B) : Kept D A B := fun x e _ hx => h x e hx
theorem Kept.put {D A : Heap} {b : Nat} {g : GO} {m : Bool} (h : ∃ e, D b = some e) : Kept D A (A.put b g m) := fun x e hd hx => by
  have : x ≠ b := fun e' => by subst e'; obtain ⟨v, hv⟩ := h; rw [hv] at hd; cases hd
  rw [Heap.put_ne _ _ _ this]; exact hx
theorem Own.kept {D A B : Heap} {z : Nat} {s : Sl} {cs : List Value} (h : Own A z s cs) (hk : Kept D A B) (hf : Fresh D s) : Own B z s cs := by
  obtain ⟨hl, hx, hc, h0 | ⟨b, sp, hp, hb, h1⟩⟩ := h
  · exact ⟨hl, hx, hc, .inl h0⟩
  · exact ⟨hl, hx, hc, .inr ⟨b, sp, hp, hk _ _ (hf _ hp) hb, h1⟩⟩
theorem Own.dj {A B : Heap} {z : Nat} {s t : Sl} {cs : List Value} (h : Own A z s cs) (hle : (A.off t).le B) (hd : Dj s t) : Own B z s cs := by
  obtain ⟨hl, hx, hc, h0 | ⟨b, sp, hp, hb, h1⟩⟩ := h
  · exact ⟨hl, hx, hc, .inl h0⟩
  · exact ⟨hl, hx, hc, .inr ⟨b, sp, hp, hle _ _ (Heap.off_some hb fun q hq e => hd _ _ hp hq e.symm), h1⟩⟩

/-- records, and one under way, all new over D -/
structure Outs (D H : Heap) (so : Sl) (l : List (List Str)) (sr : Sl) (cur : List Str) : Prop where
  out : ∃ ss : List Sl, Own H 1 so (ss.map slv) ∧ ss.length = l.length ∧ ∀ (i : Nat) (t : Sl) (r : List Str), ss[i]? = some t → l[i]? = some r → Own H 1 t (r.map sv) ∧ Fresh D t ∧ Dj t so ∧ Dj t sr
  fo : Fresh D so
  cur : Own H 1 sr (cur.map sv)
  fr : Fresh D sr
  dj : Dj so sr

theorem Outs.nil (D H : Heap) : Outs D H Sl.nil [] Sl.nil [] :=
  ⟨⟨[], Own.nil _ _, rfl, fun i t r h => by simp at h⟩, Fresh.nil _, Own.nil _ _, Fresh.nil _, Dj.nil _⟩

theorem Outs.kept {D A B : Heap} {so sr : Sl} {l : List (List Str)} {cur : List Str} (h : Outs D A so l sr cur) (hk : Kept D A B) : Outs D B so l sr cur := by
  obtain ⟨⟨ss, h1, h2, h3⟩, h4, h5, h6, h7⟩ := h
  exact ⟨⟨ss, h1.kept hk h4, h2, fun i t r a b => by obtain ⟨q1, q2⟩ := h3 i t r a b; exact ⟨q1.kept hk q2.1, q2⟩⟩, h4, h5.kept hk h6, h6, h7⟩

theorem Own.len1 {H : Heap} {s : Sl} {cs : List Value} (h : Own H 1 s cs) : s.len = cs.length := by have := h.1; omega

/-- new blocks differ from what is there -/
theorem dj_fresh {A : Heap} {z : Nat} {s t r : Sl} {cs : List Value} (h : Own A z s cs) (hd : Dj s t) (hf : Fresh (A.off t) r) : Dj s r := fun p q hp hq e => by
  obtain ⟨g, hg⟩ := h.mine hp
  have := hf q hq
  rw [← e, Heap.off_some hg fun q' hq' e' => hd _ _ hp hq' e'.symm] at this
  cases this
theorem fresh_off {D A : Heap} {t r : Sl} (hle : ∀ x e, D x = some e → ∃ e', A x = some e') (hft : Fresh D t) (hf : Fresh (A.off t) r) : Fresh D r := fun q hq => by
  cases hx : D q.1 with
  | none => rfl
  | some e =>
    obtain ⟨e', he⟩ := hle _ _ hx
    have := hf q hq
    rw [Heap.off_some he fun p hp e2 => by have h2 := hft p hp; rw [e2, hx] at h2; cases h2] at this
    cases this

/-- the domain of D is there -/
def Dom (D A : Heap) : Prop := ∀ x e, D x = some e → ∃ e', A x = some e'
theorem Dom.le {D A B : Heap} (h : Dom D A) (hle : A.le B) : Dom D B := fun x e hx => by obtain ⟨e', he⟩ := h x e hx; exact ⟨e', hle _ _ he⟩
theorem Dom.refl (D : Heap) : Dom D D := fun x e h => ⟨e, h⟩
theorem Dom.put {D A : Heap} {b : Nat} {g : GO} {m : Bool} (h : Dom D A) : Dom D (A.put b g m) := fun x e hx => by
  by_cases hxb : x = b
  · subst hxb; exact ⟨_, Heap.put_same ..⟩
  · rw [Heap.put_ne _ _ _ hxb]; exact h x e hx
theorem Dom.off {D A B : Heap} {t : Sl} (h : Dom D A) (hf : Fresh D t) (hle : (A.off t).le B) : Dom D B := fun x e hx => by
  obtain ⟨e', he⟩ := h x e hx
  exact ⟨e', hle _ _ (Heap.off_some he fun p hp e2 => by have h2 := hf p hp; rw [e2, hx] at h2; cases h2)⟩

/-- a field more -/
theorem Outs.field {D A : Heap} {so sr : Sl} {l : List (List Str)} {cur : List Str} (h : Outs D A so l sr cur) (hdom : Dom D A) {f : Str} {K : Sl → Heap → Prop} (hl : (cur.length + 1) * 16 ≤ 140737488355328)
    (k : ∀ r B, Outs D B so l r (cur ++ [f]) → (A.off sr).le B → K r B) : apd [sv []] 16 sr [sv f] 1 K A := by
  obtain ⟨⟨ss, h1, h2, h3⟩, h4, h5, h6, h7⟩ := h
  have hsl : sr.len = cur.length := by have := h5.len1; simpa using this
  refine apd_ownF (zc := [sv []]) h5.off rfl (by omega) (by omega) fun r B ho _ => ?_
  have hdj := fun {s : Sl} {cs : List Value} (hs : Own A 1 s cs) (hd : Dj s sr) => dj_fresh hs hd ho.fresh
  refine k r B ⟨⟨ss, h1.dj ho.le h7, h2, fun i t r a b => ?_⟩, h4, by rw [List.map_append]; exact ho.own, fresh_off hdom h6 ho.fresh, hdj h1 h7⟩ ho.le
  obtain ⟨q1, q2, q3, q4⟩ := h3 i t r a b
  exact ⟨q1.dj ho.le q4, q2, q3, hdj q1 q4⟩

/-- a record more -/
theorem Outs.over {D A : Heap} {so sr : Sl} {l : List (List Str)} {cur : List Str} (h : Outs D A so l sr cur) (hdom : Dom D A) {K : Sl → Heap → Prop} (hl : (l.length + 1) * 24 ≤ 140737488355328)
    (k : ∀ r B, Outs D B r (l ++ [cur]) Sl.nil [] → (A.off so).le B → K r B) : apd [slv Sl.nil] 24 so [slv sr] 1 K A := by
  obtain ⟨⟨ss, h1, h2, h3⟩, h4, h5, h6, h7⟩ := h
  have hsl : so.len = l.length := by have := h1.len1; simp at this; omega
  refine apd_ownF (zc := [slv Sl.nil]) h1.off rfl (by omega) (by omega) fun r B ho _ => ?_
  refine k r B ⟨⟨ss ++ [sr], by rw [List.map_append]; exact ho.own, by simp [h2], fun i t r' a b => ?_⟩, fresh_off hdom h4 ho.fresh, Own.nil _ _, Fresh.nil _, Dj.nil _⟩ ho.le
  by_cases hi : i < ss.length
  · rw [List.getElem?_append_left hi] at a
    rw [List.getElem?_append_left (by omega)] at b
    obtain ⟨q1, q2, q3, q4⟩ := h3 i t r' a b
    exact ⟨q1.dj ho.le q3, q2, dj_fresh q1 q3 ho.fresh, Dj.nil _⟩
  · rw [List.getElem?_append_right (by omega)] at a
    rw [List.getElem?_append_right (by omega), ← h2] at b
    have h0 : i - ss.length = 0 := by
      have := (List.getElem?_eq_some_iff.1 a).1
      simp at this; omega
    rw [h0] at a b
    simp at a b
    subst a; subst b
    exact ⟨h5.dj ho.le h7.symm, h6, dj_fresh h5 h7.symm ho.fresh, Dj.nil _⟩

/-- records that a reader hands back -/
structure Recs (H H2 : Heap) (s : Sl) (l : List (List Str)) : Prop where
  le : H.le H2
  outs : Outs H H2 s l Sl.nil []

/-- records that are read -/
def Rows (H : Heap) (s : Sl) (l : List (List Str)) : Prop :=
  ∃ ss : List Sl, rdsl H s (ss.map slv) ∧ s.len = ss.length ∧ ss.length = l.length ∧ ∀ (i : Nat) (t : Sl) (r : List Str), ss[i]? = some t → l[i]? = some r → rdsl H t (r.map sv) ∧ t.len = r.length
theorem Rows.le {A B : Heap} {s : Sl} {l : List (List Str)} (h : Rows A s l) (hle : A.le B) : Rows B s l := by
  obtain ⟨ss, h1, h2, h3, h4⟩ := h
  exact ⟨ss, rdsl_le hle h1, h2, h3, fun i t r a b => ⟨rdsl_le hle (h4 i t r a b).1, (h4 i t r a b).2⟩⟩
theorem Rows.len {H : Heap} {s : Sl} {l : List (List Str)} (h : Rows H s l) : s.len = l.length := by obtain ⟨ss, h1, h2, h3, h4⟩ := h; omega
theorem Recs.rows {H H2 : Heap} {s : Sl} {l : List (List Str)} (h : Recs H H2 s l) : Rows H2 s l := by
  obtain ⟨_, ⟨⟨ss, h1, h2, h3⟩, _⟩⟩ := h
  refine ⟨ss, h1.rdsl, by have := h1.len1; simpa using this, h2, fun i t r a b => ?_⟩
  obtain ⟨q1, _⟩ := h3 i t r a b
  exact ⟨q1.rdsl, by have := q1.len1; simpa using this⟩
theorem Rows.get {H : Heap} {s : Sl} {l : List (List Str)} (h : Rows H s l) {i : Nat} (hi : i < l.length) : ∃ t, (∃ ss : List Sl, rdsl H s (ss.map slv) ∧ ss[i]? = some t) ∧ rdsl H t (l[i].map sv) ∧ t.len = l[i].length := by
  obtain ⟨ss, h1, h2, h3, h4⟩ := h
  have hi2 : i < ss.length := by omega
  exact ⟨ss[i], ⟨ss, h1, List.getElem?_eq_getElem hi2⟩, h4 i _ _ (List.getElem?_eq_getElem hi2) (List.getElem?_eq_getElem hi)⟩

/-- a record read out of records -/
theorem Rows.ld {H : Heap} {s : Sl} {l : List (List Str)} (h : Rows H s l) {i : Nat} {x : Int} {K : Sl → Prop} (hx : x = i) (hi : i < l.length) (k : ∀ t, rdsl H t (l[i].map sv) → t.len = l[i].length → K t) :
    ixa s x fun p => ldL H (p.1, p.2 + x.toNat * 1) K := by
  obtain ⟨t, ⟨ss, h1, h2⟩, h3, h4⟩ := h.get hi
  exact ix_ldL h1 hx (by rw [h.len]; exact hi) (by simp [h2]) (k t h3 h4)

section
variable {C : Ctx} {H : Heap}

theorem Same_ok {s t : Sl} {l m : List (List Str)} {K : Bool → Heap → Prop} (hs : Rows H s l) (ht : Rows H t m) (hl : l.length ≤ 1000000000) (hl2 : ∀ r ∈ l, r.length ≤ 1000000000) (k : K (decide (l = m)) H) : c_ref28_Same C s t K H := by
  apply ad_ref28_Same
  unfold sh_ref28_Same
  have hsl := hs.len
  have htl := ht.len
  rw [hsl, htl]
  by_cases hne : l.length = m.length
  rotate_left
  · refine ift_pos (by simp; omega) ?_
    rw [decide_eq_false (fun e => hne (by rw [e]))] at k; exact k
  refine ift_neg (by simp; omega) ?_
  refine ⟨fun x H' => ∃ i : Nat, x = (i : Int) ∧ i ≤ l.length ∧ H = H' ∧ l.take i = m.take i, fun x _ => l.length - x.toNat, ⟨0, rfl, Nat.zero_le _, rfl, rfl⟩, ?_⟩
  rintro x _ ⟨i, rfl, hi, rfl, heq⟩
  refine ift.of (fun hc => ?_) (fun hc => ?_)
  rotate_left
  · have hie : i = l.length := by have := of_decide_eq_false hc; omega
    have : l = m := by rw [hie, List.take_length] at heq; rw [heq, hne, List.take_length]
    rw [decide_eq_true this] at k; exact k
  have hlt : i < l.length := by have := of_decide_eq_true hc; omega
  have hlt2 : i < m.length := by omega
  have hli := hl2 _ (List.getElem_mem hlt)
  refine hs.ld rfl hlt fun t1 ht1 hl1 => ?_
  refine ht.ld rfl hlt2 fun t2 ht2 hl2' => ?_
  rw [hl1, hl2']
  have hno : l[i] ≠ m[i] → l ≠ m := fun h e => by subst e; exact h rfl
  by_cases hnl : l[i].length = m[i].length
  rotate_left
  · refine ift_pos (by simp; omega) ?_
    rw [decide_eq_false (hno fun e => hnl (by rw [e]))] at k; exact k
  refine ift_neg (by simp; omega) ?_
  refine ⟨fun x H' => ∃ j : Nat, x = (j : Int) ∧ j ≤ l[i].length ∧ H = H' ∧ l[i].take j = m[i].take j, fun x _ => l[i].length - x.toNat, ⟨0, rfl, Nat.zero_le _, rfl, rfl⟩, ?_⟩
  rintro x _ ⟨j, rfl, hj, rfl, heq2⟩
  refine hs.ld rfl hlt fun t1 ht1 hl1 => ?_
  rw [hl1]
  refine ift.of (fun hc => ?_) (fun hc => ?_)
  · have hjl : j < l[i].length := by have := of_decide_eq_true hc; omega
    refine hs.ld rfl hlt fun t1 ht1 hl1 => ?_
    refine ix_ldS ht1 (j := j) rfl (by omega) (x := l[i][j]) (by simp [hjl]) ?_
    have hjm : j < m[i].length := hnl ▸ hjl
    refine ht.ld rfl hlt2 fun t2 ht2 hl2' => ?_
    refine ix_ldS ht2 (j := j) rfl (by rw [hl2']; exact hjm) (x := m[i][j]) (by simp [hjm]) ?_
    refine ift.of (fun hc2 => ?_) (fun hc2 => ?_)
    · have hd : l[i][j] ≠ m[i][j] := by simpa using hc2
      rw [decide_eq_false (hno fun e => hd (by simp [e]))] at k; exact k
    · have hd : l[i][j] = m[i][j] := by simpa using hc2
      rw [w_i64 (by omega) (by omega)]
      refine ⟨⟨j + 1, by omega, by omega, rfl, ?_⟩, by dsimp only; omega⟩
      rw [List.take_add_one, List.take_add_one, heq2, List.getElem?_eq_getElem hjl, List.getElem?_eq_getElem (by omega), hd]
  · have hje : j = l[i].length := by have := of_decide_eq_false hc; omega
    have hr : l[i] = m[i] := by rw [hje, List.take_length] at heq2; rw [heq2, hnl, List.take_length]
    rw [w_i64 (by omega) (by omega)]
    refine ⟨⟨i + 1, by omega, by omega, rfl, ?_⟩, by dsimp only; omega⟩
    rw [List.take_add_one, List.take_add_one, heq, List.getElem?_eq_getElem hlt, List.getElem?_eq_getElem hlt2, hr]
end
end Sx
