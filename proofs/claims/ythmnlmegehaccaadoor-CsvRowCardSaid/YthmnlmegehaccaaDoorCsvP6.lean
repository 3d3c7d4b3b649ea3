/-
  How large records are; copies; the examples; the laws.
-/
import Derived.Test.YthmnlmegehaccaaDoorCsvP5
set_option linter.unusedVariables false
set_option linter.unusedSimpArgs false
set_option maxRecDepth 10000
namespace Sx
open Go Go.Proofs

def Bnd (l : List (List Str)) : Prop := l.length ≤ 1152921504606846976 ∧ ∀ r ∈ l, r.length ≤ 1152921504606846976 ∧ ∀ f ∈ r, f.length ≤ 1152921504606846976
def nR (r : List Str) : Nat := r.length + (r.map List.length).sum
theorem nR_wR (r : List Str) : wR r = nR r + 1 := by
  unfold wR nR
  induction r with
  | nil => rfl
  | cons f r ih => simp only [List.map_cons, List.sum_cons, List.length_cons]; omega
def nL (l : List (List Str)) : Nat := (l.map nR).sum
theorem wL_nL (l : List (List Str)) : wL l = l.length + nL l := by
  unfold wL nL
  induction l with
  | nil => rfl
  | cons r l ih => simp only [List.map_cons, List.sum_cons, List.length_cons]; rw [ih, nR_wR]; omega

section
variable {C : Ctx} {H : Heap}

theorem large_ok {p : Sl} {l : List (List Str)} {K : Bool → Heap → Prop} (hp : Rows H p l) (hb : Bnd l) (k : ∀ b, (b = false → wL l < 3000) → K b H) : c_law28_large C p K H := by
  apply ad_law28_large
  unfold sh_law28_large
  obtain ⟨hbl, hbr⟩ := hb
  rw [hp.len]
  refine ⟨fun x H' => ∃ i n : Nat, x = ((n : Int), (i : Int)) ∧ i ≤ l.length ∧ n ≤ 1152921504606850000 ∧ H = H' ∧ (n < 3000 → n = l.length + nL (l.take i)), fun x _ => l.length - x.2.toNat, ⟨0, l.length, rfl, Nat.zero_le _, by omega, rfl, fun _ => by simp [nL]⟩, ?_⟩
  rintro _ _ ⟨i, n, rfl, hi, hn, rfl, heq⟩
  refine ift.of (fun h => ?_) (fun h => ?_)
  · simp only [Bool.and_eq_true, decide_eq_true_eq] at h
    have hlt : i < l.length := by omega
    have hn3 : n < 3000 := by omega
    have heq := heq hn3
    have hri := hbr _ (List.getElem_mem hlt)
    have hts : nL (l.take (i + 1)) = nL (l.take i) + nR l[i] := total_succ nR (List.getElem?_eq_getElem hlt)
    have ldr : ∀ {K : Sl → Prop}, (∀ t, rdsl H t (l[i].map sv) → t.len = l[i].length → K t) → ixa p (i : Int) fun p => ldL H (p.1, p.2 + (i : Int).toNat * 1) K := fun k => hp.ld rfl hlt k
    generalize l[i] = r at *
    dsimp only
    refine ldr fun t ht htl => ?_
    rw [htl, w_i64 (by omega) (by omega)]
    have e0 : (n : Int) + (r.length : Int) = ((n + r.length : Nat) : Int) := by omega
    rw [e0]
    refine ⟨fun x H' => ∃ j m : Nat, x = ((m : Int), (j : Int)) ∧ j ≤ r.length ∧ m ≤ 1152921504606850000 ∧ H = H' ∧ (m < 3000 → m = n + r.length + ((r.take j).map List.length).sum), fun x _ => r.length - x.2.toNat, ⟨0, n + r.length, rfl, Nat.zero_le _, by omega, rfl, fun _ => by simp⟩, ?_⟩
    rintro _ _ ⟨j, m, rfl, hj, hm, rfl, heq2⟩
    refine ldr fun t ht htl => ?_
    rw [htl]
    refine ift.of (fun h => ?_) (fun h => ?_)
    · simp only [Bool.and_eq_true, decide_eq_true_eq] at h
      have hlt2 : j < r.length := by omega
      have hm3 : m < 3000 := by omega
      have heq2 := heq2 hm3
      have hfj := hri.2 _ (List.getElem_mem hlt2)
      have hts2 : ((r.take (j + 1)).map List.length).sum = ((r.take j).map List.length).sum + r[j].length := total_succ List.length (List.getElem?_eq_getElem hlt2)
      refine ldr fun t ht htl => ?_
      refine ix_ldS ht (j := j) rfl (by omega) (x := r[j]) (by simp [hlt2]) ?_
      generalize r[j] = f at *
      dsimp only
      rw [w_i64 (x := (m : Int) + (f.length : Int)) (by omega) (by omega), w_i64 (by omega) (by omega)]
      exact ⟨⟨j + 1, m + f.length, by simp, by omega, by omega, rfl, fun _ => by omega⟩, by first | omega | (dsimp only; omega)⟩
    · have hex : m < 3000 → j = r.length := fun hm3 => by
        simp only [Bool.and_eq_false_iff, decide_eq_false_iff_not] at h
        rcases h with h | h <;> omega
      dsimp only
      rw [w_i64 (by omega) (by omega)]
      refine ⟨⟨i + 1, m, by simp, by omega, hm, rfl, fun hm3 => ?_⟩, by first | omega | (dsimp only; omega)⟩
      have := heq2 hm3
      rw [hex hm3, List.take_length] at this
      rw [hts]; unfold nR; omega
  · refine k _ fun hf => ?_
    have h3 : n < 3000 := by have := of_decide_eq_false hf; dsimp only at this; omega
    have hie : i = l.length := by
      simp only [Bool.and_eq_false_iff, decide_eq_false_iff_not] at h
      rcases h with h | h <;> omega
    have := heq h3
    rw [hie, List.take_length] at this
    rw [wL_nL]; omega

theorem Outs.copy {D A B : Heap} {so r : Sl} {l : List (List Str)} {cs : List Str} (h : Outs D A so l Sl.nil []) (hdom : Dom D A) (ho : OwnF A B 1 r (cs.map sv)) : Outs D B so l r cs := by
  obtain ⟨⟨ss, h1, h2, h3⟩, h4, h5, h6, h7⟩ := h
  have hdj : ∀ {s : Sl} {c : List Value}, Own A 1 s c → Dj s r := fun hs p q hp hq e => by
    obtain ⟨g, hg⟩ := hs.mine hp
    have := ho.fresh q hq
    rw [← e, hg] at this; cases this
  refine ⟨⟨ss, h1.le ho.le, h2, fun i t r' a b => ?_⟩, h4, ho.own, fun q hq => ?_, hdj h1⟩
  · obtain ⟨q1, q2, q3, q4⟩ := h3 i t r' a b
    exact ⟨q1.le ho.le, q2, q3, hdj q1⟩
  · cases hx : D q.1 with
    | none => rfl
    | some e =>
      obtain ⟨e', he⟩ := hdom _ _ hx
      have := ho.fresh q hq
      rw [he] at this; cases this

/-- copies of records: behind these that are there -/
theorem own_ok {p : Sl} {l : List (List Str)} {K : Sl → Heap → Prop} (hp : Rows H p l) (hl : wL l ≤ 10000000) (k : ∀ r H2, Recs H H2 r l → K r H2) : c_law28_own C p K H := by
  apply ad_law28_own
  unfold sh_law28_own
  have hpl := hp.len
  have hll := wL_length l
  refine ⟨fun x H' => ∃ i : Nat, x.2 = (i : Int) ∧ i ≤ l.length ∧ Recs H H' x.1 (l.take i), fun x _ => l.length - x.2.toNat, ⟨0, rfl, Nat.zero_le _, Heap.le.refl H, Outs.nil H H⟩, ?_⟩
  rintro ⟨so, x2⟩ H' ⟨i, hx, hi, hle, ho⟩
  dsimp only at hx ho
  subst hx
  dsimp only
  refine ift.of (fun h => ?_) (fun h => ?_)
  · have hlt : i < l.length := by have := of_decide_eq_true h; omega
    have hwr := wL_mem (List.getElem_mem hlt)
    have hrl := wR_length l[i]
    intro b hb
    refine hp.ldAt (hle.trans (Heap.le_put hb)) rfl hlt fun t ht htl => ?_
    have hts : l.take (i + 1) = l.take i ++ [l[i]] := by rw [List.take_add_one, List.getElem?_eq_getElem hlt]; rfl
    generalize l[i] = r at *
    have ht2 := rdsl_le (hle.trans (Heap.le_put hb (g := .row []) (m := true))) ht
    refine apS_ownF (zc := [sv []]) (ownF_empty hb) ht2 (by simp [htl]) (sv_one r) (by simp [Sl.of]; omega) (by simp [Sl.of]; omega) fun r2 H3 h3 _ => ?_
    have hdom : Dom H H' := fun x e hx => ⟨e, hle x e hx⟩
    have ho3 := ho.copy hdom (cs := r) (by simpa using h3)
    have hle3 := hle.trans h3.le
    have hdom3 : Dom H H3 := fun x e hx => ⟨e, hle3 x e hx⟩
    refine ho3.over hdom3 (by simp; omega) fun r4 H4 h4 hB => ?_
    rw [w_i64 (by omega) (by omega)]
    refine ⟨⟨i + 1, rfl, by omega, (Heap.le_off hle3 ho3.fo).trans hB, ?_⟩, by first | omega | (dsimp only; omega)⟩
    rw [hts]; exact h4
  · have hie : i = l.length := by have := of_decide_eq_false h; omega
    subst hie
    rw [List.take_length] at ho
    exact k so H' ⟨hle, ho⟩

/-! literals -/
theorem row_lit {A : Heap} {b n : Nat} {m : Bool} {r : List Str} {vs : List Value} (hv : vs = r.map sv) (hn : n = r.length) : rdsl (A.put b (.row vs) m) (Sl.of (some (b, 0)) n n) (r.map sv) ∧ (Sl.of (some (b, 0)) n n).len = r.length := by
  subst hv; subst hn
  exact ⟨.inr ⟨rfl, _, rfl, rds_put_new⟩, rfl⟩
theorem rows_lit {A : Heap} {b n : Nat} {m : Bool} {ss : List Sl} {l : List (List Str)} {vs : List Value} (hv : vs = ss.map slv) (hn : n = ss.length) (hl : ss.length = l.length) (h : ∀ (i : Nat) (t : Sl) (r : List Str), ss[i]? = some t → l[i]? = some r → rdsl (A.put b (.row vs) m) t (r.map sv) ∧ t.len = r.length) :
    Rows (A.put b (.row vs) m) (Sl.of (some (b, 0)) n n) l := by
  subst hv; subst hn
  exact ⟨ss, .inr ⟨rfl, _, rfl, rds_put_new⟩, rfl, hl, h⟩
theorem rows_lit1 {A : Heap} {b : Nat} {m : Bool} {t : Sl} {r : List Str} (h1 : rdsl (A.put b (.row [slv t]) m) t (r.map sv)) (h2 : t.len = r.length) : Rows (A.put b (.row [slv t]) m) (Sl.of (some (b, 0)) 1 1) [r] :=
  rows_lit (ss := [t]) rfl rfl rfl fun i t' r' a b => by
    cases i with
    | zero => simp at a b; subst a; subst b; exact ⟨h1, h2⟩
    | succ i => simp at a
theorem rows_lit2 {A : Heap} {b : Nat} {m : Bool} {t u : Sl} {r s : List Str} (h1 : rdsl (A.put b (.row [slv t, slv u]) m) t (r.map sv)) (h2 : t.len = r.length) (h3 : rdsl (A.put b (.row [slv t, slv u]) m) u (s.map sv)) (h4 : u.len = s.length) : Rows (A.put b (.row [slv t, slv u]) m) (Sl.of (some (b, 0)) 2 2) [r, s] :=
  rows_lit (ss := [t, u]) rfl rfl rfl fun i t' r' a b => by
    cases i with
    | zero => simp at a b; subst a; subst b; exact ⟨h1, h2⟩
    | succ i =>
      cases i with
      | zero => simp at a b; subst a; subst b; exact ⟨h3, h4⟩
      | succ i => simp at a

theorem ex_read : readC [97, 44, 34, 98, 32, 34, 34, 99, 34, 34, 34, 44, 13, 10, 32, 100] = ([[[97], [98, 32, 34, 99, 34], []], [[32, 100]]], 0, 0) := by decide +kernel
theorem ex_wr : wrS [[[97], [98, 44, 99], [34]], [[]]] = [97, 44, 34, 98, 44, 99, 34, 44, 34, 34, 34, 34, 13, 10, 34, 34, 13, 10] := by decide +kernel
theorem ex_wrE : wrE [[[97], [98, 44, 99], [34]], [[]]] = 0 := by decide +kernel

theorem awake_ok {K : Bool → Heap → Prop} (k : ∀ H2, H.le H2 → K true H2) : c_law28_awake C K H := by
  apply ad_law28_awake
  unfold sh_law28_awake
  refine csv_Read_ok (by decide) fun r1 H1 h1 => ?_
  rw [ex_read] at h1 ⊢
  intro b5 n5 b7 n7 b9 n9
  have q5 := row_lit (A := H1) (b := b5) (m := true) (r := [[97], [98, 44, 99], [34]]) (vs := [sv [97], sv [98, 44, 99], sv [34]]) rfl (n := 3) rfl
  have l7 := Heap.le_put (g := .row [sv []]) (m := true) n7
  have l9 := Heap.le_put (g := .row [slv (Sl.of (some (b5, 0)) 3 3), slv (Sl.of (some (b7, 0)) 1 1)]) (m := true) n9
  have q7 := row_lit (A := H1.put b5 (.row [sv [97], sv [98, 44, 99], sv [34]])) (b := b7) (m := true) (r := [[]]) (vs := [sv []]) rfl (n := 1) rfl
  have l1 := h1.le.trans ((Heap.le_put n5 (g := .row [sv [97], sv [98, 44, 99], sv [34]]) (m := true)).trans (l7.trans l9))
  refine csv_Write_ok (rows_lit2 (rdsl_le (l7.trans l9) q5.1) rfl (rdsl_le l9 q7.1) rfl) (by decide +kernel) ?_
  rw [ex_wr, ex_wrE]
  refine ⟨fun b H2 => b = true ∧ H.le H2, ift_pos rfl ?_, ?_⟩
  · intro b19 n19 b21 n21 b23 n23
    have q19 := row_lit (A := ((H1.put b5 (.row [sv [97], sv [98, 44, 99], sv [34]])).put b7 (.row [sv []])).put b9 (.row [slv (Sl.of (some (b5, 0)) 3 3), slv (Sl.of (some (b7, 0)) 1 1)])) (b := b19) (m := true) (r := [[97], [98, 32, 34, 99, 34], []]) (vs := [sv [97], sv [98, 32, 34, 99, 34], sv []]) rfl (n := 3) rfl
    have l19 := Heap.le_put (g := .row [sv [97], sv [98, 32, 34, 99, 34], sv []]) (m := true) n19
    have l21 := Heap.le_put (g := .row [sv [32, 100]]) (m := true) n21
    have l23 := Heap.le_put (g := .row [slv (Sl.of (some (b19, 0)) 3 3), slv (Sl.of (some (b21, 0)) 1 1)]) (m := true) n23
    have q21 := row_lit (A := (((H1.put b5 (.row [sv [97], sv [98, 44, 99], sv [34]])).put b7 (.row [sv []])).put b9 (.row [slv (Sl.of (some (b5, 0)) 3 3), slv (Sl.of (some (b7, 0)) 1 1)])).put b19 (.row [sv [97], sv [98, 32, 34, 99, 34], sv []])) (b := b21) (m := true) (r := [[32, 100]]) (vs := [sv [32, 100]]) rfl (n := 1) rfl
    have l2 := (Heap.le_put n5 (g := .row [sv [97], sv [98, 44, 99], sv [34]]) (m := true)).trans (l7.trans (l9.trans (l19.trans (l21.trans l23))))
    refine Same_ok (h1.rows.le l2) (rows_lit2 (rdsl_le (l21.trans l23) q19.1) rfl (rdsl_le l23 q21.1) rfl) (by decide) (by decide) ⟨decide_eq_true rfl, ?_⟩
    exact h1.le.trans l2
  · rintro _ H2 ⟨rfl, hle⟩
    have := k H2 hle
    simpa using this
end
end Sx
