/-
  The laws of layer 28: ends of records; the examples.
-/
import Derived.Test.YthmnlmegehaccaaDoorCsvP7
set_option linter.unusedVariables false
set_option linter.unusedSimpArgs false
set_option maxRecDepth 10000
namespace Sx
open Go Go.Proofs

theorem flat_get {α β : Type} (f : α → List β) (z : Nat) (hz : ∀ x, (f x).length = z) : ∀ (l : List α) (i : Nat) (x : α), l[i]? = some x → ∀ (j : Nat) (v : β), (f x)[j]? = some v → (l.flatMap f)[i * z + j]? = some v
  | [], i, x, h, j, v, hv => by simp at h
  | y :: l, 0, x, h, j, v, hv => by
    simp at h; subst h
    rw [List.flatMap_cons, Nat.zero_mul, Nat.zero_add, List.getElem?_append_left (List.getElem?_eq_some_iff.1 hv).1]; exact hv
  | y :: l, i + 1, x, h, j, v, hv => by
    have := flat_get f z hz l i x (by simpa using h) j v hv
    rw [List.flatMap_cons, List.getElem?_append_right (by rw [hz, Nat.add_mul]; omega), hz]
    rw [show (i + 1) * z + j - z = i * z + j by rw [Nat.add_mul]; omega]; exact this

/-- a text of the first records -/
def TI (l : List (List Str)) (i : Nat) (T : Str) : Prop :=
  T.length ≤ 4 * wL (l.take i) ∧ ((∀ s, runC ⟨0, false, [], [], []⟩ (T ++ s) = runC ⟨0, false, l.take i, [], []⟩ s) ∨ (i = l.length ∧ readC T = (l, 0, 0)))
theorem TI.zero (l : List (List Str)) : TI l 0 [] := ⟨by simp, .inl fun s => by simp⟩
theorem TI.fin {l : List (List Str)} {T : Str} (h : TI l l.length T) : readC T = (l, 0, 0) := by
  rcases h.2 with h | h
  · have := h []
    rw [List.append_nil, List.take_length] at this
    exact this
  · exact h.2
theorem TI.go {l : List (List Str)} {i : Nat} {T e : Str} (h : TI l i T) (hi : i < l.length) (hr : l[i] ≠ []) (he : IsEnd e) : TI l (i + 1) (T ++ recT l[i] ++ e) := by
  obtain ⟨h1, h2 | h2⟩ := h
  · refine ⟨?_, .inl fun s => ?_⟩
    · rw [wL_take_succ hi]
      have := recT_len l[i]
      have : e.length ≤ 2 := by rcases he with rfl | rfl <;> simp
      simp only [List.length_append]; omega
    · rw [List.append_assoc, List.append_assoc, h2, run_rec_end hr _ he, List.take_add_one, List.getElem?_eq_getElem hi]; rfl
  · omega
theorem TI.last {l : List (List Str)} {i : Nat} {T : Str} (h : TI l i T) (hi : i < l.length) (hl : i = l.length - 1) (hr : l[i] ≠ []) : TI l (i + 1) (T ++ recT l[i]) := by
  obtain ⟨h1, h2 | h2⟩ := h
  · refine ⟨?_, .inr ⟨by omega, ?_⟩⟩
    · rw [wL_take_succ hi]
      have := recT_len l[i]
      simp only [List.length_append]; omega
    · unfold readC
      rw [h2, run_rec_last hr]
      have : l.take i ++ [l[i]] = l := by
        have h3 : l.take (i + 1) = l.take i ++ [l[i]] := by rw [List.take_add_one, List.getElem?_eq_getElem hi]; rfl
        rw [← h3, List.take_of_length_le (by omega)]
      rw [this]
  · omega

section
variable {C : Ctx} {H : Heap}

theorem Rows.slice1 {s : Sl} {l : List (List Str)} (h : Rows H s l) {i : Nat} (hi : i < l.length) (hm : l.length ≤ 1000000000) (hcap : s.len ≤ s.cap) {K : Sl → Prop} (k : ∀ t, Rows H t [l[i]] → K t) : slL s (i : Int) (w .i64 ((i : Int) + 1)) (s.cap : Int) 1 K := by
  have hsl := h.len
  rw [w_i64 (by omega) (by omega)]
  obtain ⟨ss, h1, h2, h3, h4⟩ := h
  refine ⟨by omega, by omega, by omega, by omega, _, rfl, k _ ?_⟩
  have hi2 : i < ss.length := by omega
  have e : ((i : Int) + 1 - (i : Int)).toNat = 1 := by omega
  have hs := rdsl_slice h1 (lo := (i : Int)) (hi := (i : Int) + 1) (mx := (s.cap : Int)) (z := 1) (by omega) (by omega) (by omega) (by simp; omega)
  rw [e] at hs ⊢
  refine ⟨[ss[i]], ?_, rfl, rfl, fun j t r a b => ?_⟩
  · have e2 : (List.drop ((i : Int).toNat * 1) (ss.map slv)).take (1 * 1) = [ss[i]].map slv := by
      rw [Int.toNat_natCast, Nat.mul_one, Nat.mul_one, List.drop_eq_getElem_cons (by simpa using hi2)]
      simp
    rw [e2] at hs; exact hs
  · cases j with
    | zero => simp at a b; subst a; subst b; exact h4 i _ _ (List.getElem?_eq_getElem hi2) (List.getElem?_eq_getElem hi)
    | succ j => simp at a

theorem writeS_one (r : List Str) : writeS [r] = recT r ++ [13, 10] := by simp [writeS]

theorem CsvEnds_ok {p q : Sl} {l : List (List Str)} {bs : List Bool} {last : Bool} {K : Bool → Heap → Prop} (hp : Rows H p l) (hb : Bnd l) (hcap : p.len ≤ p.cap) (hq : rdsl H q (bs.map .bool)) (hql : q.len = bs.length) (k : ∀ H2, K true H2) : c_law28_CsvEnds C p q last K H := by
  apply ad_law28_CsvEnds
  unfold sh_law28_CsvEnds
  refine large_ok hp hb fun b hl => ?_
  refine ⟨fun v H' => v = true ∨ (v = false ∧ wL l < 3000 ∧ H.le H'), ?_, ?_⟩
  · refine ift.of (fun h => .inl rfl) (fun h => ?_)
    exact awake_ok fun H2 hle => .inr ⟨rfl, hl h, hle⟩
  rintro v H1 (rfl | ⟨rfl, hw, hle⟩)
  · exact ift_pos rfl (awake_ok fun H2 _ => k H2)
  refine ift_neg rfl ?_
  have hp := hp.le hle
  have hq := rdsl_le hle hq
  have hpl := hp.len
  have hll := wL_length l
  rw [hpl]
  refine ⟨fun x H' => ∃ i : Nat, x.2 = (i : Int) ∧ i ≤ l.length ∧ H1 = H' ∧ TI l i x.1, fun x _ => l.length - x.2.toNat, ⟨0, rfl, Nat.zero_le _, rfl, TI.zero l⟩, ?_⟩
  rintro ⟨T, x⟩ _ ⟨i, hx, hi, rfl, hT⟩
  dsimp only at hx hT
  subst hx
  dsimp only
  have hTl := hT.1
  have hwt := wL_take l i
  refine ift.of (fun h => ?_) (fun h => ?_)
  rotate_left
  · have hie : i = l.length := by have := of_decide_eq_false h; omega
    subst hie
    have hr := hT.fin
    refine csv_Read_ok (by omega) fun r1 H2 h2 => ?_
    rw [hr] at h2 ⊢
    refine ⟨fun v H' => v = true, ift_pos (by rfl) ?_, ?_⟩
    · refine Same_ok h2.rows (hp.le h2.le) (by dsimp only; omega) (fun r hr => by dsimp only at hr; have := wL_mem hr; have := wR_length r; omega) (by simp)
    · rintro _ H3 rfl
      exact k _
  have hlt : i < l.length := by have := of_decide_eq_true h; omega
  have hwr := wL_mem (List.getElem_mem hlt)
  have hrl := wR_length l[i]
  have hwt2 := wL_take l (i + 1)
  rw [wL_take_succ hlt] at hwt2
  have ldr : ∀ {K : Sl → Prop}, (∀ t, rdsl H1 t (l[i].map sv) → t.len = l[i].length → K t) → ixa p (i : Int) fun p => ldL H1 (p.1, p.2 + (i : Int).toNat * 1) K := fun k => hp.ld rfl hlt k
  have slr : ∀ {K : Sl → Prop}, (∀ t, Rows H1 t [l[i]] → K t) → slL p (i : Int) (w .i64 ((i : Int) + 1)) (p.cap : Int) 1 K := fun k => hp.slice1 hlt (by omega) hcap k
  have hgo := fun (hr : l[i] ≠ []) (e : Str) (he : IsEnd e) => hT.go hlt hr he
  have hlast := hT.last hlt
  have hrt := recT_len l[i]
  generalize l[i] = r at *
  refine ⟨fun x H' => H1 = H' ∧ TI l (i + 1) x, ?_, ?_⟩
  rotate_left
  · rintro x _ ⟨rfl, hT⟩
    rw [w_i64 (by omega) (by omega)]
    exact ⟨⟨i + 1, by omega, by omega, rfl, hT⟩, by first | omega | (dsimp only; omega)⟩
  refine ⟨fun x H' => ∃ j : Nat, x = (j : Int) ∧ j ≤ r.length ∧ H1 = H', fun x _ => r.length - x.toNat, ⟨0, rfl, Nat.zero_le _, rfl⟩, ?_⟩
  rintro x _ ⟨j, rfl, hj, rfl⟩
  refine ldr fun t ht htl => ?_
  rw [htl]
  refine ift.of (fun h => ?_) (fun h => ?_)
  · have hlt2 : j < r.length := by have := of_decide_eq_true h; omega
    have hrf := wR_mem (List.getElem_mem hlt2)
    have ldf : ∀ {K : Str → Prop}, K r[j] → ixa p (i : Int) fun p => ldL H1 (p.1, p.2 + (i : Int).toNat * 1) fun t => ixa t (j : Int) fun p => ldS H1 (p.1, p.2 + (j : Int).toNat * 1) K := fun k => ldr fun t ht htl => ix_ldS ht (j := j) rfl (by omega) (x := r[j]) (by simp [hlt2]) k
    generalize r[j] = f at *
    refine ⟨fun x H' => ∃ m : Nat, x = (m : Int) ∧ m ≤ f.length ∧ H1 = H', fun x _ => f.length - x.toNat, ⟨0, rfl, Nat.zero_le _, rfl⟩, ?_⟩
    rintro x _ ⟨m, rfl, hm, rfl⟩
    refine ldf ?_
    refine ift.of (fun h => ?_) (fun h => ?_)
    · have hlt3 : m < f.length := by have := of_decide_eq_true h; omega
      refine ldf ?_
      refine ⟨f.getD m 0, by omega, by simpa using getD_some hlt3, ?_⟩
      refine ⟨fun v H' => H1 = H', ?_, ?_⟩
      · refine ift.of (fun _ => rfl) (fun _ => ?_)
        refine ldf ?_
        exact ⟨f.getD m 0, by omega, by simpa using getD_some hlt3, rfl⟩
      · rintro v _ rfl
        refine ift.of (fun _ => k _) (fun _ => ?_)
        rw [w_i64 (by omega) (by omega)]
        exact ⟨⟨m + 1, by omega, by omega, rfl⟩, by first | omega | (dsimp only; omega)⟩
    · rw [w_i64 (by omega) (by omega)]
      exact ⟨⟨j + 1, by omega, by omega, rfl⟩, by first | omega | (dsimp only; omega)⟩
  refine slr fun t ht => ?_
  refine csv_Write_ok ht (by simp [wL]; omega) ?_
  refine ift.of (fun h => ?_) (fun h => ?_)
  · have : wrE [r] = 1 := by
      unfold wrE wrS at *
      cases hh : anyE [r] with
      | true => rfl
      | false => rw [hh] at h; simp [writeS_one] at h; omega
    rw [this]; exact k _
  have hr0 : r ≠ [] := fun e => by subst e; simp [wrE, anyE] at h
  have hE : anyE [r] = false := by simpa [anyE] using hr0
  have hwr1 : wrS [r] = recT r ++ [13, 10] := by unfold wrS; rw [hE]; exact writeS_one r
  rw [hwr1]
  have hlen : ((recT r ++ [13, 10] : Str).length : Int) - 2 = ((recT r).length : Int) := by simp
  rw [hlen, w_i64 (by omega) (by omega)]
  refine ⟨by omega, by omega, by simp; omega, recT r, by simp, ?_⟩
  refine ⟨by unfold catOk; omega, ?_⟩
  rw [w_i64 (by omega) (by omega)]
  refine ift.of (fun h => ?_) (fun h => ?_)
  · refine ⟨rfl, hlast ?_ hr0⟩
    simp only [Bool.and_eq_true, beq_iff_eq] at h
    omega
  refine ⟨fun x H' => H1 = H' ∧ (x = T ++ recT r ∨ x = T ++ recT r ++ [13]), ?_, ?_⟩
  rotate_left
  · rintro x _ ⟨rfl, rfl | rfl⟩
    · exact ⟨by unfold catOk; simp; omega, rfl, hgo hr0 [10] (.inl rfl)⟩
    · refine ⟨by unfold catOk; simp; omega, rfl, ?_⟩
      have := hgo hr0 [13, 10] (.inr rfl)
      simpa using this
  refine ⟨fun v H' => H1 = H', ?_, ?_⟩
  · refine ift.of (fun h => ?_) (fun h => rfl)
    have hlt4 : i < bs.length := by have := of_decide_eq_true h; omega
    refine ixa_of hq (by omega) (by omega) (by intro e; have := congrArg List.length e; rw [List.length_map] at this; dsimp only [List.length_nil] at this; omega) fun p _ hp => ⟨bs[i], ?_, rfl⟩
    have := rds_get hp i (.bool bs[i]) (by simp [hlt4])
    simpa using this
  · rintro v _ rfl
    refine ift.of (fun h => ?_) (fun h => ⟨rfl, .inl rfl⟩)
    exact ⟨by unfold catOk; simp; omega, rfl, .inr rfl⟩

def exL : List T_S_s_string_n_int := [⟨[97, 34, 98], 0⟩, ⟨[97, 34, 98, 34], 0⟩, ⟨[120, 10, 34, 121], 1⟩, ⟨[34, 97, 34, 98], 0⟩, ⟨[97, 13, 98], 0⟩, ⟨[97, 13], 0⟩, ⟨[97, 44, 34, 34, 34], 0⟩, ⟨[97, 10, 98, 10, 34, 34, 32, 44], 2⟩, ⟨[34, 97, 34, 13], 0⟩]
theorem exL_ok : ∀ x ∈ exL, x.s_.length ≤ 10 ∧ (readC x.s_).2.2 = 4 ∧ ((readC x.s_).2.1 : Int) = x.n_ ∧ (readC x.s_).1 = [] := by decide +kernel

theorem CsvNames_ok {K : Bool → Heap → Prop} (k : ∀ H2, K true H2) : c_law28_CsvNames C K H := by
  apply ad_law28_CsvNames
  unfold sh_law28_CsvNames
  intro b1 n1
  refine ⟨fun x H' => ∃ i : Nat, x = (i : Int) ∧ i ≤ 9 ∧ (H.put b1 (.row (exL.flatMap T_S_s_string_n_int.c))).le H', fun x _ => 9 - x.toNat, ⟨0, rfl, by omega, Heap.le.refl _⟩, ?_⟩
  rintro x H5 ⟨i, rfl, hi, hle⟩
  refine ift.of (fun h => ?_) (fun h => ?_)
  · have hlt : i < 9 := by have := of_decide_eq_true h; simp [Sl.of] at this; omega
    have hx : exL[i]? = some exL[i] := List.getElem?_eq_getElem (by simpa [exL] using hlt)
    obtain ⟨e0, e1, e2, e3⟩ := exL_ok _ (List.getElem_mem (show i < exL.length by simpa [exL] using hlt))
    generalize exL[i] = x at *
    refine ⟨(b1, 0), rfl, rfl, by omega, by simp [Sl.of]; omega, x, ?_, ?_⟩
    · refine rds_row (hle _ _ (Heap.put_same ..)) fun j v hj => ?_
      have := flat_get T_S_s_string_n_int.c 2 (fun _ => rfl) exL i x hx j v hj
      simpa using this
    intro b14 n14
    refine ⟨_, Heap.put_same .., by simp [T_S_s_string_n_int.c, T_S_s_string_n_int.zero], ?_⟩
    rw [Heap.put_put]
    have esp : splice (T_S_s_string_n_int.zero).c (b14, 0).2 x.c = x.c := rfl
    rw [esp]
    have r0 : ∀ {B : Heap}, (H5.put b14 (.row x.c)).le B → rd B (b14, 0) = some (sv x.s_) ∧ rd B (b14, 1) = some (.int .i64 x.n_) := fun hB => by
      have := hB _ _ (Heap.put_same ..)
      exact ⟨by rw [rd_row this]; rfl, by rw [rd_row this]; rfl⟩
    refine ⟨x.s_, (r0 (Heap.le.refl _)).1, ?_⟩
    refine csv_Read_ok (by omega) fun r19 H22 h22 => ?_
    have h0 : r19.len = 0 := by have := h22.rows.len; rw [e3] at this; simpa using this
    refine ⟨fun v H' => v = false ∧ H22 = H', ?_, ?_⟩
    · rw [e1]
      refine ift_neg rfl ?_
      refine ⟨x.n_, (r0 h22.le).2, ?_, rfl⟩
      rw [e2]; simp
    · rintro _ _ ⟨rfl, rfl⟩
      refine ift_neg (by rw [h0]; rfl) ?_
      rw [w_i64 (by omega) (by omega)]
      exact ⟨⟨i + 1, by omega, by omega, (hle.trans (Heap.le_put n14)).trans h22.le⟩, by first | omega | (dsimp only; omega)⟩
  refine csv_Read_ok (by decide) fun r32 H35 h35 => ?_
  refine csv_Read_ok (by decide) fun r36 H39 h39 => ?_
  refine csv_Read_ok (by decide) fun r40 H43 h43 => ?_
  rw [show readC [] = ([], 0, 0) by decide +kernel] at h35 ⊢
  rw [show readC [10] = ([[[]]], 0, 0) by decide +kernel] at h39 ⊢
  rw [show readC [34, 13, 10, 34, 44] = ([[[13, 10], []]], 0, 0) by decide +kernel] at h43 ⊢
  intro b44 n44 b46 n46
  have q44 := row_lit (A := H43) (b := b44) (m := true) (r := [[97]]) (vs := [sv [97]]) rfl (n := 1) rfl
  have l46 := Heap.le_put (g := .row [slv (Sl.of (some (b44, 0)) 1 1), slv Sl.nil]) (m := true) n46
  refine csv_Write_ok (rows_lit2 (r := [[97]]) (s := []) (rdsl_le l46 q44.1) rfl (.inl rfl) rfl) (by decide +kernel) ?_
  rw [show wrE [[[97]], []] = 1 by decide +kernel]
  refine csv_Write_ok (l := []) ⟨[], .inl rfl, rfl, rfl, fun j t r a => by simp at a⟩ (by decide +kernel) ?_
  rw [show wrS [] = [] by decide +kernel, show wrE [] = 0 by decide +kernel]
  intro b54 n54 b56 n56
  have q54 := row_lit (A := (H43.put b44 (.row [sv [97]])).put b46 (.row [slv (Sl.of (some (b44, 0)) 1 1), slv Sl.nil])) (b := b54) (m := true) (r := [[97, 34, 98, 34, 99]]) (vs := [sv [97, 34, 98, 34, 99]]) rfl (n := 1) rfl
  have l56 := Heap.le_put (g := .row [slv (Sl.of (some (b54, 0)) 1 1)]) (m := true) n56
  refine csv_Write_ok (rows_lit1 (rdsl_le l56 q54.1) rfl) (by decide +kernel) ?_
  rw [show wrS [[[97, 34, 98, 34, 99]]] = [34, 97, 34, 34, 98, 34, 34, 99, 34, 13, 10] by decide +kernel, show wrE [[[97, 34, 98, 34, 99]]] = 0 by decide +kernel]
  refine ift_neg (by decide) ?_
  have l60 := (Heap.le_put n44 (g := .row [sv [97]]) (m := true)).trans (l46.trans ((Heap.le_put n54 (g := .row [sv [97, 34, 98, 34, 99]]) (m := true)).trans l56))
  have r36' := (h39.rows.le h43.le).le l60
  have r40' := h43.rows.le l60
  have h320 : r32.len = 0 := by have := h35.rows.len; simpa using this
  generalize (((H43.put b44 (.row [sv [97]])).put b46 (.row [slv (Sl.of (some (b44, 0)) 1 1), slv Sl.nil])).put b54 (.row [sv [97, 34, 98, 34, 99]])).put b56 (.row [slv (Sl.of (some (b54, 0)) 1 1)]) = H60 at *
  refine ⟨fun v B => v = true ∧ H60.le B, ?_, ?_⟩
  · refine ift_pos (by rw [h320]; rfl) ?_
    intro b68 n68 b70 n70
    have q := row_lit (A := H60) (b := b68) (m := true) (r := [[]]) (vs := [sv []]) rfl (n := 1) rfl
    have l70 := Heap.le_put (g := .row [slv (Sl.of (some (b68, 0)) 1 1)]) (m := true) n70
    have ll := (Heap.le_put n68 (g := .row [sv []]) (m := true)).trans l70
    exact Same_ok (r36'.le ll) (rows_lit1 (rdsl_le l70 q.1) rfl) (by decide) (by decide) ⟨decide_eq_true rfl, ll⟩
  rintro _ H74 ⟨rfl, l74⟩
  refine ⟨fun v B => v = true, ?_, ?_⟩
  · refine ift_pos rfl ?_
    intro b80 n80 b82 n82
    have q := row_lit (A := H74) (b := b80) (m := true) (r := [[13, 10], []]) (vs := [sv [13, 10], sv []]) rfl (n := 2) rfl
    have l82 := Heap.le_put (g := .row [slv (Sl.of (some (b80, 0)) 2 2)]) (m := true) n82
    have ll := (Heap.le_put n80 (g := .row [sv [13, 10], sv []]) (m := true)).trans l82
    exact Same_ok (r40'.le (l74.trans ll)) (rows_lit1 (rdsl_le l82 q.1) rfl) (by decide) (by decide) (decide_eq_true rfl)
  rintro _ H86 rfl
  refine ⟨fun v B => v = true, ?_, ?_⟩
  · exact ift_pos rfl (awake_ok fun H2 _ => rfl)
  rintro _ H97 rfl
  exact k _
end
end Sx
