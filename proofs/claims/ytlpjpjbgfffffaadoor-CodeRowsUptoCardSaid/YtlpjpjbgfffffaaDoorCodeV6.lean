/-
  The law of rows of values.
-/
import Derived.Test.YtlpjpjbgfffffaaDoorCodeV5
set_option linter.unusedVariables false
set_option linter.unusedSimpArgs false
set_option maxRecDepth 10000
namespace Sx
open Go Go.Proofs

theorem cmpS_pre (p x y : Str) : cmpS (p ++ x) (p ++ y) = cmpS x y := by
  induction p with
  | nil => rfl
  | cons c p ih => simp only [List.cons_append, cmpS, if_neg (u8_irr c)]; exact ih
def catV (l : List V) : Str := l.flatMap encV
theorem catV_take {l : List V} {i : Nat} (h : i < l.length) : catV (l.take (i + 1)) = catV (l.take i) ++ encV l[i] := by
  unfold catV
  rw [List.take_add_one, List.getElem?_eq_getElem h, Option.toList_some, List.flatMap_append]; simp
theorem catV_len : ∀ (l : List V) (m : Nat), (∀ v ∈ l, (encV v).length ≤ m) → (catV l).length ≤ l.length * m
  | [], m, _ => by simp [catV]
  | v :: l, m, h => by
    have h1 := h v (List.mem_cons_self ..)
    have h2 := catV_len l m fun w hw => h w (List.mem_cons_of_mem _ hw)
    unfold catV at h2 ⊢
    rw [List.flatMap_cons, List.length_append, List.length_cons, Nat.succ_mul]; omega
theorem cat_cmp : ∀ (l m : List V), (∀ v ∈ l, VB v ∧ formV v = true ∧ vtot v < 2147483648) → (∀ v ∈ m, VB v ∧ formV v = true ∧ vtot v < 2147483648) → cmpS (catV l) (catV m) = cmpVs l m ∧ (cmpVs l m = -1 ∨ cmpVs l m = 1 ∨ cmpVs l m = 0)
  | [], [], _, _ => ⟨rfl, .inr (.inr rfl)⟩
  | [], w :: m, _, _ => by
    have : catV (w :: m) = encV w ++ catV m := rfl
    rw [this, encV_eq]
    exact ⟨rfl, .inl rfl⟩
  | v :: l, [], _, _ => by
    have : catV (v :: l) = encV v ++ catV l := rfl
    rw [this, encV_eq]
    exact ⟨rfl, .inr (.inl rfl)⟩
  | v :: l, w :: m, h, h2 => by
    obtain ⟨a1, a2, a3⟩ := h v (List.mem_cons_self ..)
    obtain ⟨b1, b2, b3⟩ := h2 w (List.mem_cons_self ..)
    obtain ⟨g1, g2⟩ := cat_cmp l m (fun a ha => h a (List.mem_cons_of_mem _ ha)) (fun a ha => h2 a (List.mem_cons_of_mem _ ha))
    have e1 : catV (v :: l) = encV v ++ catV l := rfl
    have e2 : catV (w :: m) = encV w ++ catV m := rfl
    rw [e1, e2]
    simp only [cmpVs]
    rcases ord_V v w a1 b1 a2 b2 a3 b3 with ⟨c1, c2⟩ | ⟨c1, c2⟩ | ⟨c1, c2⟩
    · rw [c1]; exact ⟨by rw [(c2.app _ _).cmp.1]; rfl, by simp⟩
    · rw [c1]; exact ⟨by rw [(c2.app _ _).cmp.2]; rfl, by simp⟩
    · subst c2
      rw [c1, cmpS_pre, g1]
      simpa using g2

section
variable {C : Ctx} {H : Heap}

theorem CodeRows_ok {l m : List V} {s t : Sl} {H : Heap} {K : Bool → Heap → Prop} (hs : VRow H s l) (ht : VRow H t m) (hB : VBs l) (hB2 : VBs m) (hz : ∀ v ∈ l, vtot v ≤ 14000000) (hz2 : ∀ v ∈ m, vtot v ≤ 14000000) (k : ∀ H2, K true H2) : c_law03_CodeRows C s t K H := by
  apply ad_law03_CodeRows
  unfold sh_law03_CodeRows
  rw [hs.len, ht.len]
  refine ⟨fun b H' => H.le H' ∧ (b = false → l.length ≤ 30 ∧ m.length ≤ 30), ?_, ?_⟩
  · refine ift.of (fun h => ⟨Heap.le.refl _, fun h => by cases h⟩) (fun h => ?_)
    simp only [Bool.or_eq_false_iff, decide_eq_false_iff_not] at h
    exact works_ok fun H2 hle2 => ⟨hle2, fun _ => ⟨by omega, by omega⟩⟩
  rintro b H1 ⟨hle1, hb⟩
  refine ift.of (fun h => works_ok fun H3 _ => k H3) (fun h => ?_)
  obtain ⟨hl, hm⟩ := hb h
  have hs := hs.le hle1
  have ht := ht.le hle1
  have hsz : ∀ v, vtot v ≤ 14000000 → vsize v ≤ 4611686018427387904 := fun v h => by have := vsize_tot v; omega
  have henc : ∀ v, VB v → vtot v ≤ 14000000 → (encV v).length ≤ 14000000 := fun v hv h => by have := encV_len v hv (by omega); omega
  have hcl : ∀ {q : List V} {i : Nat}, VBs q → (∀ v ∈ q, vtot v ≤ 14000000) → q.length ≤ 30 → (catV (q.take i)).length ≤ 420000000 := fun {q i} hq hv hl => by
    have h1 := catV_len (q.take i) 14000000 fun w hw => henc w (hq.mem (List.mem_of_mem_take hw)) (hv w (List.mem_of_mem_take hw))
    have h2 : (q.take i).length ≤ 30 := by rw [List.length_take]; omega
    have h3 := Nat.mul_le_mul_right 14000000 h2
    omega
  refine ⟨fun y H' => ∃ i : Nat, y.2 = (i : Int) ∧ i ≤ l.length ∧ OwnF H1 H' 1 y.1 (bytesV (catV (l.take i))) ∧ ∀ v ∈ l.take i, mayV v = true, fun y _ => l.length - y.2.toNat, ⟨0, rfl, Nat.zero_le _, OwnF.nil H1 1, fun v hv => by simp at hv⟩, ?_⟩
  rintro ⟨a, y2⟩ H2 ⟨i, hy, hi, ho, hmay⟩
  dsimp only at hy ho
  subst hy
  dsimp only
  refine ift.of (fun h => ?_) (fun h => ?_)
  · have hlt : i < l.length := by have := of_decide_eq_true h; omega
    have hmem := List.getElem_mem hlt
    have hzi := hz _ hmem
    have hBi := hB.mem hmem
    have hct := catV_take hlt
    have htk : l.take (i + 1) = l.take i ++ [l[i]] := by rw [List.take_add_one, List.getElem?_eq_getElem hlt]; rfl
    have hll := hcl (i := i) hB hz hl
    refine hs.ld ho.le rfl hlt fun z hz => ?_
    intro b6 n6
    refine ⟨_, Heap.put_same .., by simp [T_api_Value.c], ?_⟩
    rw [Heap.put_put]
    have esp : splice (T_api_Value.c T_api_Value.zero) (b6, 0).2 (T_api_Value.c z) = T_api_Value.c z := rfl
    rw [esp]
    have hle6 := Heap.le_put n6 (g := .row (T_api_Value.c z)) (m := true)
    have hb6 : (H2.put b6 (.row (T_api_Value.c z))) b6 = some (true, .row (T_api_Value.c z)) := Heap.put_same ..
    have hz6 := hz.le (ho.le.trans hle6)
    have ho6 := ho.up hle6
    generalize H2.put b6 (.row (T_api_Value.c z)) = H3 at *
    refine bxV hb6 (wide_ok hz6 hBi fun bw => ?_)
    refine ⟨fun b H' => H3 = H' ∧ (b = false → mayV l[i] = true), ?_, ?_⟩
    · refine ift.of (fun h => ⟨rfl, fun h => by cases h⟩) (fun h => ?_)
      refine bxV hb6 (ref02_Check_ok hz6 hBi (hsz _ hzi) ⟨rfl, fun hh => ?_⟩)
      rw [bne, mayV_dec] at hh
      simpa using hh
    rintro b _ ⟨rfl, hbm⟩
    refine ift.of (fun h => k _) (fun h => ?_)
    have hmv := hbm h
    refine bxV hb6 (code_Value_ok ho6.own.rdsl ho6.lenB hz6 hBi (fun _ => by omega) (by omega) fun r H4 h4 => ?_)
    rw [if_pos hmv, ← hct] at h4
    rw [w_i64 (by omega) (by omega)]
    refine ⟨⟨i + 1, rfl, by omega, h4.down ho6.le, fun v hv => ?_⟩, by first | omega | (dsimp only; omega)⟩
    rw [htk] at hv
    rcases List.mem_append.1 hv with hv | hv
    · exact hmay v hv
    · rw [List.mem_singleton.1 hv]; exact hmv
  have hie : i = l.length := by have := of_decide_eq_false h; omega
  subst hie
  rw [List.take_length] at ho hmay
  have hs2 := hs.le ho.le
  have ht2 := ht.le ho.le
  have hra := ho.own.rdsl
  have hla := ho.lenB
  refine ⟨fun y H' => ∃ i : Nat, y.2 = (i : Int) ∧ i ≤ m.length ∧ OwnF H2 H' 1 y.1 (bytesV (catV (m.take i))) ∧ ∀ v ∈ m.take i, mayV v = true, fun y _ => m.length - y.2.toNat, ⟨0, rfl, Nat.zero_le _, OwnF.nil H2 1, fun v hv => by simp at hv⟩, ?_⟩
  rintro ⟨a2, y2⟩ H5 ⟨i, hy, hi, ho5, hmay5⟩
  dsimp only at hy ho5
  subst hy
  dsimp only
  refine ift.of (fun h => ?_) (fun h => ?_)
  · have hlt : i < m.length := by have := of_decide_eq_true h; omega
    have hmem := List.getElem_mem hlt
    have hzi := hz2 _ hmem
    have hBi := hB2.mem hmem
    have hct := catV_take hlt
    have htk : m.take (i + 1) = m.take i ++ [m[i]] := by rw [List.take_add_one, List.getElem?_eq_getElem hlt]; rfl
    have hll := hcl (i := i) hB2 hz2 hm
    refine ht2.ld ho5.le rfl hlt fun z hz => ?_
    intro b6 n6
    refine ⟨_, Heap.put_same .., by simp [T_api_Value.c], ?_⟩
    rw [Heap.put_put]
    have esp : splice (T_api_Value.c T_api_Value.zero) (b6, 0).2 (T_api_Value.c z) = T_api_Value.c z := rfl
    rw [esp]
    have hle6 := Heap.le_put n6 (g := .row (T_api_Value.c z)) (m := true)
    have hb6 : (H5.put b6 (.row (T_api_Value.c z))) b6 = some (true, .row (T_api_Value.c z)) := Heap.put_same ..
    have hz6 := hz.le (ho5.le.trans hle6)
    have ho6 := ho5.up hle6
    generalize H5.put b6 (.row (T_api_Value.c z)) = H6 at *
    refine bxV hb6 (wide_ok hz6 hBi fun bw => ?_)
    refine ⟨fun b H' => H6 = H' ∧ (b = false → mayV m[i] = true), ?_, ?_⟩
    · refine ift.of (fun h => ⟨rfl, fun h => by cases h⟩) (fun h => ?_)
      refine bxV hb6 (ref02_Check_ok hz6 hBi (hsz _ hzi) ⟨rfl, fun hh => ?_⟩)
      rw [bne, mayV_dec] at hh
      simpa using hh
    rintro b _ ⟨rfl, hbm⟩
    refine ift.of (fun h => k _) (fun h => ?_)
    have hmv := hbm h
    refine bxV hb6 (code_Value_ok ho6.own.rdsl ho6.lenB hz6 hBi (fun _ => by omega) (by omega) fun r H4 h4 => ?_)
    rw [if_pos hmv, ← hct] at h4
    rw [w_i64 (by omega) (by omega)]
    refine ⟨⟨i + 1, rfl, by omega, h4.down ho6.le, fun v hv => ?_⟩, by first | omega | (dsimp only; omega)⟩
    rw [htk] at hv
    rcases List.mem_append.1 hv with hv | hv
    · exact hmay5 v hv
    · rw [List.mem_singleton.1 hv]; exact hmv
  have hie : i = m.length := by have := of_decide_eq_false h; omega
  subst hie
  rw [List.take_length] at ho5 hmay5
  have mk : ∀ {q : List V}, VBs q → (∀ v ∈ q, vtot v ≤ 14000000) → (∀ v ∈ q, mayV v = true) → ∀ v ∈ q, VB v ∧ formV v = true ∧ vtot v < 2147483648 := fun hq hv hmy v hm => ⟨hq.mem hm, mayV_form (hmy v hm), by have := hv v hm; omega⟩
  obtain ⟨g1, g2⟩ := cat_cmp l m (mk hB hz hmay) (mk hB2 hz2 hmay5)
  refine stands_ok (rdsl_le ho5.le hra) hla ho5.own.rdsl ho5.lenB fun r c1 c2 c3 c4 => ?_
  refine ref02_CmpRows_ok (hs2.le ho5.le) (ht2.le ho5.le) (by omega) (by omega) hB hB2 (fun v hv => hsz v (hz v hv)) (fun v hv => hsz v (hz2 v hv)) ?_
  have ml : mayR l = true := List.all_eq_true.2 hmay
  have mm : mayR m = true := List.all_eq_true.2 hmay5
  have e : cmpR l m = cmpVs l m := by unfold cmpR; rw [if_pos ⟨ml, mm⟩]
  rw [e]
  rw [g1] at c1 c2
  have hr : r = cmpVs l m := by omega
  rw [hr]
  have : ((cmpVs l m : Int) == cmpVs l m) = true := by simp
  rw [this]; exact k _
end
end Sx
