/-
  The laws of layer 28 over the ghost heap.
-/
import Derived.Test.YthmnlmegehaccaaDoorCsvP6
set_option linter.unusedVariables false
set_option linter.unusedSimpArgs false
set_option maxRecDepth 10000
namespace Sx
open Go Go.Proofs

theorem readC_ok (t : Str) : ((readC t).2.2 = 0 → (readC t).2.1 = 0) ∧ ((readC t).2.2 = 0 ∨ (readC t).2.2 = 4) ∧ ((readC t).2.2 ≠ 0 → (readC t).1 = []) := readC_e t _

/-- but for the blocks of these slices -/
def Heap.outs (H : Heap) (ss : List Sl) : Heap := fun x => if ss.any (fun t => t.p.map (fun p => p.1) == some x) then none else H x
theorem Heap.outs_le (H : Heap) (ss : List Sl) : (H.outs ss).le H := fun x e h => by
  unfold Heap.outs at h
  split at h
  · cases h
  · exact h
theorem Heap.outs_some {H : Heap} {ss : List Sl} {x : Nat} {e : Bool × GO} (h : H x = some e) (hn : ∀ t ∈ ss, ∀ p, t.p = some p → p.1 ≠ x) : (H.outs ss) x = some e := by
  unfold Heap.outs
  rw [if_neg]
  · exact h
  · intro hh
    rw [List.any_eq_true] at hh
    obtain ⟨t, ht, h2⟩ := hh
    obtain ⟨y, hp⟩ : ∃ y, t.p = some (x, y) := by simpa using h2
    exact hn t ht _ hp rfl
theorem Heap.outs_none {H : Heap} {ss : List Sl} {t : Sl} (ht : t ∈ ss) {p : Nat × Nat} (hp : t.p = some p) : (H.outs ss) p.1 = none := by
  unfold Heap.outs
  rw [if_pos]
  rw [List.any_eq_true]
  exact ⟨t, ht, by simp [hp]⟩

/-- slices that may be written over -/
def Wri (H : Heap) (t : Sl) : Prop := t.len = 0 ∨ (t.x = none ∧ ∃ b c, t.p = some (b, 0) ∧ H b = some (true, .row c) ∧ t.len ≤ c.length)
theorem Own.wri {H : Heap} {s : Sl} {cs : List Value} (h : Own H 1 s cs) : Wri H s := by
  obtain ⟨hl, hx, hc, ⟨hp, h0⟩ | ⟨b, sp, hp, hb, h1⟩⟩ := h
  · exact .inl (by omega)
  · exact .inr ⟨hx, b, _, hp, hb, by omega⟩
theorem Wri.put {H : Heap} {t : Sl} {b : Nat} {c c2 : List Value} (h : Wri H t) (hb : H b = some (true, .row c)) (hl : c2.length = c.length) : Wri (H.put b (.row c2)) t := by
  rcases h with h | ⟨hx, b', c', hp, hb', hl'⟩
  · exact .inl h
  · by_cases e : b' = b
    · subst e
      rw [hb] at hb'; injection hb' with hb'; injection hb' with _ hb'; injection hb' with hb'; subst hb'
      exact .inr ⟨hx, b', c2, hp, Heap.put_same .., by omega⟩
    · exact .inr ⟨hx, b', c', hp, by rw [Heap.put_ne _ _ _ e]; exact hb', hl'⟩

theorem Outs.rows {D A : Heap} {so sr : Sl} {l : List (List Str)} {cur : List Str} (h : Outs D A so l sr cur) : Rows A so l := by
  obtain ⟨⟨ss, h1, h2, h3⟩, _⟩ := h
  refine ⟨ss, h1.rdsl, by have := h1.len1; simpa using this, h2, fun i t r a b => ?_⟩
  obtain ⟨q1, _⟩ := h3 i t r a b
  exact ⟨q1.rdsl, by have := q1.len1; simpa using this⟩

theorem stepC_at {c : UInt8} {nl : Bool} {s s2 : CS} (h : stepC c nl s = some s2) : s2.out.length ≤ s.out.length + 1 := by
  unfold stepC at h
  repeat' split at h
  all_goals first | (injection h with h; subst h; simp [CS.field, CS.over]) | cases h
theorem run_at : ∀ (t : Str) (s : CS), (runC s t).2.1 ≤ s.out.length + t.length
  | [], s => by
    simp only [runC, finC]
    split
    · simp
    · split <;> simp
  | c :: t, s => by
    simp only [runC]
    cases hs : stepC c (headNl t) s with
    | none => simp
    | some s2 =>
      have := run_at t s2
      have := stepC_at hs
      simp only [List.length_cons]; omega
theorem readC_at (t : Str) : (readC t).2.1 ≤ t.length := by
  have := run_at t ⟨0, false, [], [], []⟩
  simpa [readC] using this

section
variable {C : Ctx} {H : Heap}

theorem spoil_rows {r : Sl} {ss : List Sl} {H1 : Heap} {R : Heap → Prop} (hr : rdsl (H1.outs ss) r (ss.map slv)) (hl : r.len = ss.length) (hw : ∀ t ∈ ss, Wri H1 t) (hm : ss.length ≤ 1000000000 ∧ ∀ t ∈ ss, t.len ≤ 1000000000)
    (k : ∀ H2, (H1.outs ss).le H2 → R H2) :
    lp (α := Int) 0 H1 (fun x21 J22 H23 =>
 ift (decide ((x21 : Int) < (Sl.len r : Int)))
 (lp (α := Int) 0 H23 (fun x25 J26 H27 =>
 ixa r x21 fun p28 =>
 ldL H27 (p28.1, p28.2 + (x21 : Int).toNat * 1) fun x33 =>
 ift (decide ((x25 : Int) < (Sl.len x33 : Int)))
 (ixa r x21 fun p36 =>
 ldL H27 (p36.1, p36.2 + (x21 : Int).toNat * 1) fun x41 =>
 ixa x41 x25 fun p43 =>
 st (p43.1, p43.2 + (x25 : Int).toNat * 1) (sv [115, 112, 111, 105, 108, 116]) (fun H48 =>
 J26 (w .i64 (x25 + 1)) H48) H27)
 (J22 (w .i64 (x21 + 1)) H27)))
 (R H23)) := by
  refine ⟨fun x H' => ∃ i : Nat, x = (i : Int) ∧ i ≤ ss.length ∧ (H1.outs ss).le H' ∧ ∀ t ∈ ss, Wri H' t, fun x _ => ss.length - x.toNat, ⟨0, rfl, Nat.zero_le _, Heap.outs_le _ _, hw⟩, ?_⟩
  rintro x H' ⟨i, rfl, hi, hle, hw'⟩
  refine ift.of (fun h => ?_) (fun h => k H' hle)
  have hlt : i < ss.length := by have := of_decide_eq_true h; omega
  have hmem : ss[i] ∈ ss := List.getElem_mem hlt
  refine ⟨fun x H2 => ∃ j : Nat, x = (j : Int) ∧ j ≤ ss[i].len ∧ (H1.outs ss).le H2 ∧ ∀ t ∈ ss, Wri H2 t, fun x _ => ss[i].len - x.toNat, ⟨0, rfl, Nat.zero_le _, hle, hw'⟩, ?_⟩
  rintro x H2 ⟨j, rfl, hj, hle2, hw2⟩
  have hml := hm.2 _ hmem
  have ldr : ∀ {K : Sl → Prop}, K ss[i] → ixa r (i : Int) fun p => ldL H2 (p.1, p.2 + (i : Int).toNat * 1) K := fun k => ix_ldL (rdsl_le hle2 hr) rfl (by omega) (by simp [hlt]) k
  refine ldr ?_
  refine ift.of (fun h => ?_) (fun h => ?_)
  · have hlt2 : j < ss[i].len := by have := of_decide_eq_true h; omega
    refine ldr ?_
    rcases hw2 _ hmem with h0 | ⟨hx, b, c, hp, hb, hl2⟩
    · omega
    refine ⟨(b, 0), hp, hx, by omega, by omega, c, hb, by simp; omega, ?_⟩
    rw [w_i64 (by omega) (by omega)]
    refine ⟨⟨j + 1, by omega, by omega, fun x e hx' => ?_, fun t ht => (hw2 t ht).put hb (by simp)⟩, by first | omega | (dsimp only; omega)⟩
    have hxb : x ≠ b := fun e' => by
      subst e'
      have := Heap.outs_none (H := H1) hmem hp
      dsimp only at this
      rw [this] at hx'; cases hx'
    rw [Heap.put_ne _ _ _ hxb]; exact hle2 _ _ hx'
  · rw [w_i64 (by omega) (by omega)]
    exact ⟨⟨i + 1, by omega, by omega, hle2, hw2⟩, by first | omega | (dsimp only; omega)⟩

theorem readC_bound {t : Str} (h : t.length ≤ 100000000) : (readC t).1.length ≤ 1000000000 ∧ ∀ r ∈ (readC t).1, r.length ≤ 1000000000 := by
  have h1 := (readC_w t).2
  have h2 := wL_length (readC t).1
  refine ⟨by omega, fun r hr => ?_⟩
  have := wL_mem hr
  have := wR_length r
  omega

theorem CsvReads_ok {t : Str} {K : Bool → Heap → Prop} (k : ∀ H2, K true H2) : c_law28_CsvReads C t K H := by
  apply ad_law28_CsvReads
  unfold sh_law28_CsvReads
  refine ift.of (fun h => awake_ok fun H2 _ => k H2) (fun h => ?_)
  have hl : t.length ≤ 5000 := by have := of_decide_eq_false h; omega
  refine csv_Read_ok (by omega) fun r H1 h1 => ?_
  refine ref28_Read_ok (by omega) fun r2 H2 h2 => ?_
  have hbd := readC_bound (t := t) (by omega)
  generalize hrd : readC t = rd at *
  obtain ⟨l, at_, e⟩ := rd
  dsimp only at *
  refine ⟨fun b H' => b = false ∧ H2 = H', ift_neg (by simp) (Same_ok (h1.rows.le h2.le) h2.rows hbd.1 hbd.2 ⟨by simp, rfl⟩), ?_⟩
  rintro _ _ ⟨rfl, rfl⟩
  refine ift_neg rfl ?_
  obtain ⟨hle1, ⟨⟨ss, q1, q2, q3⟩, q4, _⟩⟩ := h1
  have hss : ∀ t ∈ ss, (∃ r' : List Str, Own H1 1 t (r'.map sv)) ∧ Dj t r ∧ t.len ≤ 1000000000 := fun t ht => by
    obtain ⟨i, hi, rfl⟩ := List.getElem_of_mem ht
    have hl2 : i < l.length := by omega
    obtain ⟨a1, a2, a3, _⟩ := q3 i _ _ (List.getElem?_eq_getElem hi) (List.getElem?_eq_getElem hl2)
    refine ⟨⟨_, a1⟩, a3, ?_⟩
    have := a1.len1
    have := hbd.2 _ (List.getElem_mem hl2)
    simp at *; omega
  have hk : Kept H1 H2 (H2.outs ss) := fun x e hd hx => Heap.outs_some hx fun t ht p hp e' => by
    obtain ⟨_, hown⟩ := (hss t ht).1
    obtain ⟨g, hg⟩ := hown.mine hp
    rw [e', hd] at hg; cases hg
  have hwant : Rows (H2.outs ss) r2 l := by
    exact (h2.outs.kept hk).rows
  have hrd2 : rdsl (H2.outs ss) r (ss.map slv) := by
    have o2 := q1.le h2.le
    obtain ⟨a1, a2, a3, ⟨hp, h0⟩ | ⟨b, sp, hp, hb, h1⟩⟩ := o2
    · left
      have : r.len = 0 := by omega
      rw [this] at a1
      exact List.length_eq_zero_iff.1 (by omega)
    · refine .inr ⟨a2, _, hp, rds_row (c := ss.map slv ++ sp) (m := true) (Heap.outs_some hb fun t ht p hpt e' => (hss t ht).2.1 _ _ hpt hp e') fun j v hj => ?_⟩
      have := (List.getElem?_eq_some_iff.1 hj).1
      rw [Nat.zero_add, List.getElem?_append_left this]; exact hj
  refine spoil_rows hrd2 (by have := q1.len1; simpa using this) (fun t ht => by obtain ⟨_, ho⟩ := (hss t ht).1; exact (ho.le h2.le).wri) ⟨by omega, fun t ht => (hss t ht).2.2⟩ fun H3 hle3 => ?_
  refine csv_Read_ok (by omega) fun r3 H4 h4 => ?_
  rw [hrd] at h4
  dsimp only at h4
  refine Same_ok h4.rows ((hwant.le hle3).le h4.le) hbd.1 hbd.2 ?_
  refine ⟨fun b H' => b = true, ift_pos (by simp) (awake_ok fun H2 _ => rfl), ?_⟩
  rintro _ H5 rfl
  exact k _

theorem CsvWrites_ok {p : Sl} {l : List (List Str)} {K : Bool → Heap → Prop} (hp : Rows H p l) (hb : Bnd l) (k : ∀ H2, K true H2) : c_law28_CsvWrites C p K H := by
  apply ad_law28_CsvWrites
  unfold sh_law28_CsvWrites
  refine large_ok hp hb fun b hl => ?_
  refine ift.of (fun h => awake_ok fun H2 _ => k H2) (fun h => ?_)
  have hw := hl h
  have hll := wL_length l
  refine own_ok hp (by omega) fun r H1 h1 => ?_
  refine csv_Write_ok h1.rows (by omega) ?_
  refine ref28_Write_ok (hp.le h1.le) (by omega) ?_
  refine ⟨fun b H' => b = true, ift_pos (by simp) (Same_ok h1.rows (hp.le h1.le) (by omega) (fun r hr => ?_) (by simp)), ?_⟩
  · have := wL_mem hr; have := wR_length r; omega
  rintro _ H2 rfl
  refine ⟨fun b H' => b = true, ift_pos rfl (awake_ok fun H2 _ => rfl), ?_⟩
  rintro _ H3 rfl
  exact k _

theorem CsvBack_ok {p : Sl} {l : List (List Str)} {s : Str} {K : Bool → Heap → Prop} (hp : Rows H p l) (hb : Bnd l) (k : ∀ H2, K true H2) : c_law28_CsvBack C p s K H := by
  apply ad_law28_CsvBack
  unfold sh_law28_CsvBack
  refine large_ok hp hb fun b hl => ?_
  have hll := wL_length l
  refine ⟨fun v H' => v = true ∨ (v = false ∧ wL l < 3000 ∧ s.length ≤ 5000 ∧ H.le H'), ?_, ?_⟩
  · refine ift.of (fun h => .inl rfl) (fun h => ?_)
    simp only [Bool.or_eq_false_iff, decide_eq_false_iff_not] at h
    exact awake_ok fun H2 hle => .inr ⟨rfl, hl h.1, by omega, hle⟩
  rintro v H1 (rfl | ⟨rfl, hw, hs, hle⟩)
  · exact ift_pos rfl (awake_ok fun H2 _ => k H2)
  refine ift_neg rfl ?_
  have hp1 := hp.le hle
  refine csv_Write_ok hp1 (by omega) ?_
  refine ⟨fun _ H2 => True, ?_, ?_⟩
  · refine ift.of (fun h => ?_) (fun h => trivial)
    have he : anyE l = false := by
      cases hh : anyE l with
      | false => rfl
      | true => unfold wrE at h; rw [hh] at h; simp at h
    have hwr : wrS l = writeS l := by unfold wrS; rw [he]; rfl
    have hwl := writeS_len l
    rw [hwr]
    refine csv_Read_ok (by omega) fun r H2 h2 => ?_
    rw [read_write0 l he] at h2 ⊢
    refine ⟨fun v H' => v = false, ift_neg rfl (Same_ok (hp1.le h2.le) h2.rows (by omega) (fun r hr => by have := wL_mem hr; have := wR_length r; omega) (by simp)), ?_⟩
    rintro _ H3 rfl
    exact ift_neg rfl trivial
  rintro _ H2 _
  refine csv_Read_ok (by omega) fun r H3 h3 => ?_
  refine ift.of (fun h => k _) (fun h => ?_)
  have hbd := readC_bound (t := s) (by omega)
  obtain ⟨hE, hwm⟩ := readC_w s
  generalize (readC s).1 = m at *
  refine csv_Write_ok h3.rows (by omega) ?_
  have hwr : wrS m = writeS m := by unfold wrS; rw [hE]; rfl
  have hwre : wrE m = 0 := by unfold wrE; rw [hE]; rfl
  have hwl := writeS_len m
  rw [hwr, hwre]
  refine csv_Read_ok (by omega) fun r2 H4 h4 => ?_
  rw [read_write0 m hE] at h4 ⊢
  refine ⟨fun v H' => v = true, ift_pos rfl (Same_ok (h3.rows.le h4.le) h4.rows hbd.1 hbd.2 (by simp)), ?_⟩
  rintro _ H5 rfl
  exact k _

theorem CsvRow_ok {p : Sl} {l : List (List Str)} {s : Str} {K : Bool → Heap → Prop} (hp : Rows H p l) (hb : Bnd l) (k : ∀ H2, K true H2) : c_law28_CsvRow C p s K H := by
  apply ad_law28_CsvRow
  unfold sh_law28_CsvRow
  refine large_ok hp hb fun b hl => ?_
  have hll := wL_length l
  refine ⟨fun v H' => v = true ∨ (v = false ∧ wL l < 3000 ∧ s.length ≤ 5000 ∧ H.le H'), ?_, ?_⟩
  · refine ift.of (fun h => .inl rfl) (fun h => ?_)
    simp only [Bool.or_eq_false_iff, decide_eq_false_iff_not] at h
    exact awake_ok fun H2 hle => .inr ⟨rfl, hl h.1, by omega, hle⟩
  rintro v H1 (rfl | ⟨rfl, hw, hs, hle⟩)
  · exact ift_pos rfl (awake_ok fun H2 _ => k H2)
  refine ift_neg rfl ?_
  have hp1 := hp.le hle
  refine csv_Write_ok hp1 (by omega) ?_
  refine ift.of (fun h => ?_) (fun h => ?_)
  · have : wrE l = 1 := by
      unfold wrE at h ⊢
      cases hh : anyE l with
      | false => rw [hh] at h; simp at h
      | true => rfl
    rw [this]; exact k _
  have he : anyE l = false := by
    cases hh : anyE l with
    | false => rfl
    | true => unfold wrE at h; rw [hh] at h; simp at h
  have hwr : wrS l = writeS l := by unfold wrS; rw [he]; rfl
  have hwl := writeS_len l
  rw [hwr]
  refine csv_Read_ok (by omega) fun r1 H2 h2 => ?_
  refine ⟨by unfold catOk; omega, ?_⟩
  refine csv_Read_ok (by simp; omega) fun r2 H3 h3 => ?_
  rw [read_write l he s] at h3 ⊢
  have hok := readC_ok s
  have hat := readC_at s
  have hal := wL_length (readC s).1
  have haw := (readC_w s).2
  have hbd := readC_bound (t := s) (by omega)
  have h2r := h2.rows
  generalize readC s = rd at *
  obtain ⟨a, at_, e⟩ := rd
  dsimp only at *
  by_cases h0 : e = 0
  · subst h0
    have e1 : shift l (a, at_, 0) = (l ++ a, at_, 0) := by simp [shift]
    rw [e1] at h3 ⊢
    refine ift_neg rfl (ift_neg rfl ?_)
    refine own_ok (hp1.le (h2.le.trans h3.le)) (by omega) fun r3 H4 h4 => ?_
    obtain ⟨hle4, ho4⟩ := h4
    have h2o := h2.outs
    obtain ⟨⟨ss, q1, q2, q3⟩, q4, _⟩ := ho4
    obtain ⟨ss2, p1, p2, p3, p4⟩ := h2r.le h3.le
    have hsl : r3.len = l.length := by have := q1.len1; simp at this; omega
    refine apS_ownF (zc := [slv Sl.nil]) q1.off (rdsl_le hle4 p1) (by simp [p2]) (slv_one ss2) (by omega) (by omega) fun r4 H5 h5 _ => ?_
    have hnew : Rows H5 r4 (l ++ a) := by
      refine ⟨ss ++ ss2, by rw [List.map_append]; exact h5.own.rdsl, ?_, by simp; omega, fun i t r x y => ?_⟩
      · have := h5.len; simp at this ⊢; omega
      by_cases hi : i < ss.length
      · rw [List.getElem?_append_left hi] at x
        rw [List.getElem?_append_left (by omega)] at y
        obtain ⟨a1, a2, a3, _⟩ := q3 i t r x y
        have o5 := a1.dj h5.le a3
        exact ⟨o5.rdsl, by have := o5.len1; simpa using this⟩
      · rw [List.getElem?_append_right (by omega)] at x
        rw [List.getElem?_append_right (by omega), ← q2] at y
        obtain ⟨b1, b2⟩ := p4 _ t r x y
        refine ⟨?_, b2⟩
        exact rdsl_le ((Heap.le_off hle4 q4).trans h5.le) b1
    have hold : Rows H5 r2 (l ++ a) := h3.rows.le ((Heap.le_off hle4 q4).trans h5.le)
    refine Same_ok hold hnew (by simp; omega) (fun r hr => ?_) (by simpa using k _)
    rcases List.mem_append.1 hr with hr | hr
    · have := wL_mem hr; have := wR_length r; omega
    · exact hbd.2 r hr
  · have he4 : e = 4 := by omega
    subst he4
    have e1 : shift l (a, at_, 4) = ([], at_ + l.length, 4) := by simp [shift]
    rw [e1] at h3 ⊢
    refine ift_neg rfl (ift_pos rfl ?_)
    have hpl := hp.len
    have hat' : at_ ≤ 1000000000 := by omega
    rw [hpl, w_i64 (by omega) (by omega)]
    have e2 : (((at_ + l.length : Nat) : Int) == (at_ : Int) + (l.length : Int)) = true := by simp
    dsimp only
    rw [e2]; exact k _
end
end Sx
