/-
  strings.Builder: what its methods do.
-/
import Derived.Test.YthmnlmegehaccaaDoorCsvSh
import Derived.Test.YthmnlmegehaccaaDoorSxUse2
set_option linter.unusedVariables false
set_option linter.unusedSimpArgs false
set_option maxRecDepth 10000
namespace Sx
open Go Go.Proofs

section
variable {C : Ctx} {H : Heap}

theorem copyCheck_ok {b : Nat} {p : Option (Nat × Nat)} {s : Sl} {K : Heap → Prop} (hb : H b = some (true, .trow tyB 0 [pv p, slv s])) (hp : p = none ∨ p = some (b, 0)) (k : K (H.put b (.trow tyB 0 [pv (some (b, 0)), slv s]))) : c_strings_Builder_copyCheck C (some (b, 0)) K H := by
  apply ad_strings_Builder_copyCheck
  unfold sh_strings_Builder_copyCheck
  refine ⟨_, rfl, p, by simp [rd, hb, GO.cells?], ?_⟩
  rcases hp with rfl | rfl
  · exact ift_pos rfl ⟨(b, 0), rfl, ⟨true, _, 0, _, hb, by simp⟩, ⟨true, 0, _, hb, rfl, rfl⟩, _, rfl, _, 0, _, hb, Nat.le_refl _, by simp, k⟩
  · refine ift_neg rfl ⟨_, rfl, some (b, 0), by simp [rd, hb, GO.cells?], (b, 0), rfl, rfl, ift_neg rfl ?_⟩
    have : H.put b (.trow tyB 0 [pv (some (b, 0)), slv s]) = H := Heap.put_id hb
    rw [this] at k; exact k

theorem rd_buf {H : Heap} {b : Nat} {p : Option (Nat × Nat)} {s : Sl} {t : TypeId} (hb : H b = some (true, .trow t 0 [pv p, slv s])) : rd H (b, 0 + 1) = some (slv s) := by simp [rd, hb, GO.cells?]

theorem WriteByte_ok {b : Nat} {bs : Str} {c : UInt8} {K : Value → Heap → Prop} (h : IsB tyB tyE H b bs) (hl : bs.length + 1 ≤ 140737488355328) (k : K .nilIface (H.put b (Bd (bs ++ [c])))) : c_strings_Builder_WriteByte C (some (b, 0)) (c.toNat : Int) K H := by
  apply c_strings_Builder_WriteByte.gh
  refine h.open_ fun p s H' ho => ?_
  refine ad_strings_Builder_WriteByte _ _ _ _ _ ?_
  unfold sh_strings_Builder_WriteByte
  refine copyCheck_ok ho.row ho.self ?_
  have ho2 := ho.setP (p2 := some (b, 0)) (.inr rfl)
  refine ⟨_, rfl, s, rd_buf ho2.row, ?_⟩
  refine ho2.apd (by obtain ⟨g, hg⟩ := h.some; exact ⟨_, hg⟩) (ys := [c]) (by simpa using hl) fun r H3 h3 hr => ?_
  exact ⟨_, rfl, _, 0, _, hr, Nat.zero_le _, by simp, _, Gh.hideB h3, k⟩

theorem WriteString_ok {b : Nat} {bs c : Str} {K : Int → Value → Heap → Prop} (h : IsB tyB tyE H b bs) (hl : bs.length + c.length ≤ 140737488355328) (k : K (c.length : Int) .nilIface (H.put b (Bd (bs ++ c)))) : c_strings_Builder_WriteString C (some (b, 0)) c K H := by
  apply c_strings_Builder_WriteString.gh
  refine h.open_ fun p s H' ho => ?_
  refine ad_strings_Builder_WriteString _ _ _ _ _ ?_
  unfold sh_strings_Builder_WriteString
  refine copyCheck_ok ho.row ho.self ?_
  have ho2 := ho.setP (p2 := some (b, 0)) (.inr rfl)
  refine ⟨_, rfl, s, rd_buf ho2.row, ?_⟩
  refine ho2.apd (by obtain ⟨g, hg⟩ := h.some; exact ⟨_, hg⟩) (ys := c) hl fun r H3 h3 hr => ?_
  exact ⟨_, rfl, _, 0, _, hr, Nat.zero_le _, by simp, _, Gh.hideB h3, k⟩

theorem String_ok {b : Nat} {bs : Str} {K : Str → Heap → Prop} (h : IsB tyB tyE H b bs) (hl : bs.length ≤ 9223372036854775807) (k : K bs (H.put b (Bd bs))) : c_strings_Builder_String C (some (b, 0)) K H := by
  apply c_strings_Builder_String.gh
  refine h.open_ fun p s H' ho => ?_
  refine ad_strings_Builder_String _ _ _ _ ?_
  unfold sh_strings_Builder_String
  obtain ⟨e1, e2, e3⟩ := ho.slen
  have hrd : rd (H'.hide s) (b, 0 + 1) = some (slv s) := by
    have : (H'.hide s) b = H' b := by
      unfold Heap.hide
      split
      · rename_i q hq; rw [if_neg (fun e => ho.ne q hq e.symm)]
      · rfl
    simp [rd, this, ho.row, GO.cells?]
  refine ⟨H'.hide s, Heap.hide_le _ _, _, rfl, s, hrd, ⟨e3, e2⟩, _, rfl, s, hrd, ?_⟩
  rcases ho.buf with ⟨rfl, rfl⟩ | ⟨g, kk, row, hg, rfl, hgr, hk, hr0, hrl, hcs⟩
  · exact .inl ⟨rfl, Heap.hide_le _ _, _, Gh.hideB ho, k⟩
  · by_cases h0 : bs = []
    · subst h0
      exact .inl ⟨rfl, Heap.hide_le _ _, _, Gh.hideB ho, k⟩
    · refine .inr ⟨g, kk, row, bs, rfl, hgr, rfl, h0, hl, hcs, fun x v hx => ?_, _, Gh.hideB (b := b) (T := tyB) (e := tyE) (bs := bs) (p := p) (s := ⟨some (g, 0), bs.length, row.length, none⟩) ?_, k⟩
      · have hxg : x ≠ g := fun e => by subst e; simp [Heap.hide] at hx
        rw [Heap.put_ne _ _ _ hxg]; exact (Heap.hide_le _ _) _ _ hx
      · refine ⟨ho.self, by rw [Heap.put_ne _ _ _ (Ne.symm hg)]; exact ho.row, .inr ⟨g, max kk bs.length, row, hg, rfl, Heap.put_same .., by omega, hr0, hrl, hcs⟩, ho.gnot, fun x v hx hv => ?_⟩
        have hxg : x ≠ g := fun e => by subst e; have := ho.gnot (x, 0) rfl; dsimp only at this; rw [this] at hv; cases hv
        rw [Heap.put_ne _ _ _ hxg]; exact ho.but x v hx hv

theorem Reset_ok {b : Nat} {bs : Str} {K : Heap → Prop} (h : IsB tyB tyE H b bs) (k : K (H.put b (Bd []))) : c_strings_Builder_Reset C (some (b, 0)) K H := by
  apply c_strings_Builder_Reset.gh
  refine h.open_ fun p s H' ho => ?_
  refine ad_strings_Builder_Reset _ _ _ _ ?_
  unfold sh_strings_Builder_Reset
  refine ⟨_, rfl, _, 0, _, ho.row, Nat.le_refl _, by simp, _, rfl, _, 0, _, Heap.put_same .., Nat.zero_le _, by simp, ?_⟩
  rw [Heap.put_put]
  refine ⟨_, Gh.hideB (b := b) (T := tyB) (e := tyE) (bs := []) (p := none) (s := Sl.nil) ⟨.inl rfl, Heap.put_same .., .inl ⟨rfl, rfl⟩, fun q hq => (by cases hq), fun x v hx hv => ?_⟩, k⟩
  rw [Heap.put_ne _ _ _ hx]; exact ho.but x v hx hv

/-- Grow of a new builder -/
theorem Grow_new {b : Nat} {n : Nat} {K : Heap → Prop} (h : H b = some (true, .trow tyB 0 [pv none, slv Sl.nil])) (hl : n ≤ 140737488355328) (k : K (H.put b (Bd []))) : c_strings_Builder_Grow C (some (b, 0)) (n : Int) K H := by
  apply c_strings_Builder_Grow.gh
  apply ad_strings_Builder_Grow
  unfold sh_strings_Builder_Grow
  refine copyCheck_ok h (.inl rfl) ?_
  refine ift_neg (decide_eq_false (by omega)) ?_
  have hrow : (H.put b (.trow tyB 0 [pv (some (b, 0)), slv Sl.nil])) b = some (true, .trow tyB 0 [pv (some (b, 0)), slv Sl.nil]) := Heap.put_same ..
  refine ⟨_, rfl, Sl.nil, rd_buf hrow, _, rfl, Sl.nil, rd_buf hrow, ?_⟩
  have e0 : w .i64 (((Sl.nil.cap : Nat) : Int) - ((Sl.nil.len : Nat) : Int)) = 0 := w_i64 (x := 0) (by omega) (by omega)
  dsimp only
  rw [e0]
  refine ift.of (fun hn => ?_) (fun hn => ?_)
  · apply c_strings_Builder_grow.gh
    apply ad_strings_Builder_grow
    unfold sh_strings_Builder_grow
    refine ⟨_, Heap.le.refl _, _, rfl, Sl.nil, rd_buf hrow, _, rfl, Sl.nil, rd_buf hrow, ?_⟩
    have hn0 : 0 < n := by have := of_decide_eq_true hn; omega
    have e1 : w .i64 (w .i64 (2 * ((Sl.nil.cap : Nat) : Int)) + (n : Int)) = (n : Int) := by
      have : w .i64 (2 * ((Sl.nil.cap : Nat) : Int)) = 0 := w_i64 (x := 0) (by omega) (by omega)
      rw [this, Int.zero_add]; exact w_i64 (by omega) (by omega)
    dsimp only
    rw [e1]
    refine ⟨by omega, by omega, fun g row hg hrl => ?_⟩
    rw [Int.toNat_natCast] at hrl ⊢
    have hgb : g ≠ b := fun e => by subst e; rw [hrow] at hg; cases hg
    refine ⟨Heap.le_put hg, by omega, by show (0 : Int) ≤ 0; omega, by show (0 : Int) ≤ (row.length : Int); omega, by show (row.length : Int) ≤ (row.length : Int); omega, _, rfl, ?_⟩
    have hrow2 : ((H.put b (.trow tyB 0 [pv (some (b, 0)), slv Sl.nil])).put g (.trow 5 0 row)) b = some (true, .trow tyB 0 [pv (some (b, 0)), slv Sl.nil]) := by rw [Heap.put_ne _ _ _ (Ne.symm hgb)]; exact hrow
    refine ⟨_, rfl, Sl.nil, rd_buf hrow2, [], .inl rfl, by simp [Sl.nil], by simp, .inl ⟨rfl, ?_⟩⟩
    refine ⟨_, rfl, _, 0, _, hrow2, Nat.zero_le _, by simp, _, Gh.refl _, ?_⟩
    refine ⟨_, Gh.hideB (b := b) (T := tyB) (e := tyE) (bs := []) (p := some (b, 0)) (s := ⟨some (g, 0), 0, row.length, none⟩) ⟨.inr rfl, ?_, .inr ⟨g, 0, row, hgb, rfl, ?_, Nat.zero_le _, by omega, Nat.zero_le _, fun j c hj => by simp at hj⟩, fun q hq => ?_, fun x v hx hv => ?_⟩, k⟩
    · rw [Heap.put_same]
      have e2 : ¬ ((row.length : Int) = 0) := by omega
      simp [Sl.of, Sl.nil, e2]
    · rw [Heap.put_ne _ _ _ hgb, Heap.put_same]
    · injection hq with hq; subst hq
      have := hg
      rwa [Heap.put_ne _ _ _ hgb] at this
    · have hxg : x ≠ g := fun e => by subst e; rw [Heap.put_ne _ _ _ hx, hv] at hg; cases hg
      rw [Heap.put_ne _ _ _ hx, Heap.put_ne _ _ _ hxg, Heap.put_ne _ _ _ hx]; exact hv
  · refine ⟨_, Gh.hideB (b := b) (T := tyB) (e := tyE) (bs := []) (p := some (b, 0)) (s := Sl.nil) ⟨.inr rfl, hrow, .inl ⟨rfl, rfl⟩, fun q hq => (by cases hq), fun x v hx hv => ?_⟩, k⟩
    rw [Heap.put_ne _ _ _ hx]; exact hv
end
end Sx
