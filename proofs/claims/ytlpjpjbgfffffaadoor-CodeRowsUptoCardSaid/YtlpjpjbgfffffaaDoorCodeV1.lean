/-
  The bytes of values; what the document's writers write.
-/
import Derived.Test.YtlpjpjbgfffffaaDoorCodeP6
import Derived.Test.YtlpjpjbgfffffaaDoorValP5
set_option linter.unusedVariables false
set_option linter.unusedSimpArgs false
set_option maxRecDepth 10000
namespace Sx
open Go Go.Proofs

/-! the bytes -/
def Bg (s : Str) : Str := if isMin s then (128 :: (numB 0 (unmin s).length ++ unmin s)).map (· ^^^ 255) else 128 :: (numB 0 (unmin s).length ++ unmin s)
mutual
def encV : V → Str
  | .mk k n s l => UInt8.ofNat k.toNat :: (if k = 1 then [if n = 1 then 1 else 0] else if k = 2 then Nm n else if k = 3 then Bg s else if k = 4 then Tx s else if k = 5 then encVs l else if k = 6 then Tx s ++ encVs l else [])
def encVs : List V → Str
  | [] => [0]
  | v :: l => 1 :: (encV v ++ encVs l)
end
theorem encV_eq (v : V) : encV v = UInt8.ofNat v.k.toNat :: (if v.k = 1 then [if v.n = 1 then 1 else 0] else if v.k = 2 then Nm v.n else if v.k = 3 then Bg v.s else if v.k = 4 then Tx v.s else if v.k = 5 then encVs v.l else if v.k = 6 then Tx v.s ++ encVs v.l else []) := by obtain ⟨k, n, s, l⟩ := v; simp only [encV]; rfl
/-- without the 0 behind -/
def encLs : List V → Str
  | [] => []
  | v :: l => 1 :: (encV v ++ encLs l)
theorem encVs_eq : ∀ l : List V, encVs l = encLs l ++ [0]
  | [] => rfl
  | v :: l => by simp [encVs, encLs, encVs_eq l]
theorem encLs_append : ∀ a b : List V, encLs (a ++ b) = encLs a ++ encLs b
  | [], b => rfl
  | v :: a, b => by simp [encLs, encLs_append a b]
theorem encLs_take {l : List V} {i : Nat} (h : i < l.length) : encLs (l.take (i + 1)) = encLs (l.take i) ++ 1 :: encV l[i] := by
  rw [List.take_add_one, List.getElem?_eq_getElem h, Option.toList_some, encLs_append]; simp [encLs]
/-! how long -/
mutual
def vtot : V → Nat
  | .mk k n s l => vtots l + 2 * s.length + 13
def vtots : List V → Nat
  | [] => 0
  | v :: l => vtot v + vtots l
end
theorem vtot_eq (v : V) : vtot v = vtots v.l + 2 * v.s.length + 13 := by obtain ⟨k, n, s, l⟩ := v; rfl
theorem vtots_append : ∀ a b : List V, vtots (a ++ b) = vtots a + vtots b
  | [], b => by simp [vtots]
  | v :: a, b => by simp only [List.cons_append, vtots, vtots_append a b]; omega
theorem vtots_take (l : List V) (i : Nat) : vtots (l.take i) ≤ vtots l := by
  have := vtots_append (l.take i) (l.drop i)
  rw [List.take_append_drop] at this; omega
theorem vtots_mem : ∀ {l : List V} {v : V}, v ∈ l → vtot v ≤ vtots l
  | w :: l, v, h => by
    simp only [vtots]
    rcases List.mem_cons.1 h with rfl | h
    · omega
    · have := vtots_mem h; omega
theorem Bg_len (s : Str) (h : s.length < 2147483648) : (Bg s).length ≤ s.length + 6 := by
  have hu : (unmin s).length ≤ s.length := by unfold unmin; split <;> simp
  have hk := kl_le4 (n := (unmin s).length) (by omega)
  unfold Bg
  split <;> simp [numB_len] <;> omega
theorem encLs_len : ∀ (l : List V), (∀ v ∈ l, (encV v).length + 1 ≤ vtot v) → (encLs l).length ≤ vtots l
  | [], _ => by simp [encLs]
  | v :: l, h => by
    have h1 := h v (List.mem_cons_self ..)
    have h2 := encLs_len l fun w hw => h w (List.mem_cons_of_mem _ hw)
    simp only [encLs, vtots, List.length_cons, List.length_append]; omega
theorem zc_le (s : Str) : zc s ≤ s.length := List.length_filter_le _ _
theorem Tx_len (s : Str) : (Tx s).length = s.length + zc s + 2 := by simp [Tx, esc_length]
theorem encV_len (v : V) (hB : VB v) (hs : vtot v < 2147483648) : (encV v).length + 1 ≤ vtot v := by
  refine V.rec_ (P := fun v => VB v → vtot v < 2147483648 → (encV v).length + 1 ≤ vtot v) (fun v ih hB hs => ?_) v hB hs
  rw [vtot_eq] at hs ⊢
  have hl := encLs_len v.l fun w hw => ih w hw (hB.ls.mem hw) (by have := vtots_mem hw; omega)
  have hb := hB.n
  have h1 := (Nm_len hb.1 hb.2).2
  have h2 := Bg_len v.s (by omega)
  have h3 := Tx_len v.s
  have h4 := zc_le v.s
  rw [encV_eq]
  have h5 : (encVs v.l).length = (encLs v.l).length + 1 := by rw [encVs_eq]; simp
  simp only [List.length_cons]
  split
  · simp
  split
  · omega
  split
  · omega
  split
  · omega
  split
  · omega
  split
  · rw [List.length_append]; omega
  · simp

theorem sub255 (c : UInt8) : w .u8 (255 - (c.toNat : Int)) = ((c ^^^ 255).toNat : Int) := by
  have := xor255 c
  have h : c.toNat < 256 := c.toBitVec.isLt
  rw [w_u8 (by omega) (by omega), this]; omega

section
variable {C : Ctx} {H : Heap}

theorem with_ok {p q : Sl} {a c : Str} {K : Sl → Heap → Prop} (hp : rdsl H p (bytesV a)) (hpl : p.len = a.length) (hq : rdsl H q (bytesV c)) (hql : q.len = c.length) (hm : a.length + c.length ≤ 140737488355328)
    (k : ∀ r H2, OwnF H H2 1 r (bytesV (a ++ c)) → K r H2) : c_ref03_with C p q K H := by
  apply ad_ref03_with
  unfold sh_ref03_with
  intro b hb
  refine apS_bytes (a := []) (ownF_empty hb) (rdsl_le (Heap.le_put hb) hp) hpl (by simp; omega) fun r H2 h2 _ => ?_
  refine apS_bytes h2 (rdsl_le h2.le hq) hql (by simpa using hm) fun r3 H3 h3 _ => ?_
  exact k r3 H3 (by simpa using h3)

theorem rturned_ok {p : Sl} {a : Str} {K : Sl → Heap → Prop} (hp : rdsl H p (bytesV a)) (hpl : p.len = a.length) (hm : a.length ≤ 140737488355328) (k : ∀ r H2, OwnF H H2 1 r (bytesV (a.map (· ^^^ 255))) → K r H2) : c_ref03_turned C p K H := by
  apply ad_ref03_turned
  unfold sh_ref03_turned
  refine ⟨fun x H' => ∃ i : Nat, x.2 = (i : Int) ∧ i ≤ a.length ∧ OwnF H H' 1 x.1 (bytesV ((a.take i).map (· ^^^ 255))), fun x _ => a.length - x.2.toNat, ⟨0, rfl, Nat.zero_le _, OwnF.nil H 1⟩, ?_⟩
  rintro ⟨x1, x2⟩ H' ⟨i, hx, hi, ho⟩
  dsimp only at hx ho
  subst hx
  dsimp only
  rw [hpl]
  have hl := ho.lenB
  have htl : ((a.take i).map (· ^^^ 255)).length = i := by simp; omega
  refine ift.of (fun h => ?_) (fun h => ?_)
  · have hlt : i < a.length := by have := of_decide_eq_true h; omega
    have htk := take_snoc_map 255 hlt
    have hgd := getD_some hlt
    generalize a.getD i 0 = c at *
    refine ix_ldI (rdsl_le ho.le hp) rfl (by omega) (x := (c.toNat : Int)) (by rw [bytesV_get, hgd]; rfl) ?_
    rw [sub255]
    refine apd_ownF (zc := [.int .u8 0]) ho rfl (by omega) (by omega) fun r H2 h2 _ => ?_
    rw [w_i64 (by omega) (by omega)]
    refine ⟨⟨i + 1, rfl, by omega, ?_⟩, by first | omega | (dsimp only; omega)⟩
    rw [htk, bytesV_append]; exact h2
  · have hie : i = a.length := by have := of_decide_eq_false h; omega
    subst hie
    rw [List.take_length] at ho
    exact k x1 H' ho

theorem pow_uniq {u i j : Nat} (h1 : u < 2 ^ (8 * i)) (h2 : u ≠ 0 → 2 ^ (8 * (i - 1)) ≤ u) (h3 : u = 0 → i = 0) (h4 : u < 2 ^ (8 * j)) (h5 : u ≠ 0 → 2 ^ (8 * (j - 1)) ≤ u) (h6 : u = 0 → j = 0) : i = j := by
  by_cases h0 : u = 0
  · rw [h3 h0, h6 h0]
  · have a := Nat.lt_of_le_of_lt (h2 h0) h4
    have b := Nat.lt_of_le_of_lt (h5 h0) h1
    have a' := (Nat.pow_lt_pow_iff_right (a := 2) (by omega)).1 a
    have b' := (Nat.pow_lt_pow_iff_right (a := 2) (by omega)).1 b
    have hi : i ≠ 0 := fun e => by subst e; simp at h1; omega
    have hj : j ≠ 0 := fun e => by subst e; simp at h4; omega
    omega

theorem digits_ok {u : Nat} {K : Sl → Heap → Prop} (hu : u < 18446744073709551616) (k : ∀ r H2, OwnF H H2 1 r (bytesV (be (kl u) u)) → K r H2) : c_ref03_digits C (u : Int) K H := by
  apply ad_ref03_digits
  unfold sh_ref03_digits
  refine ⟨fun x H' => ∃ i : Nat, x.1 = ((u / 2 ^ (8 * i) : Nat) : Int) ∧ (u ≠ 0 → 2 ^ (8 * (i - 1)) ≤ u) ∧ (u = 0 → i = 0) ∧ i ≤ 8 ∧ OwnF H H' 1 x.2 (bytesV (be i u)), fun x _ => x.1.toNat, ⟨0, by simp, fun h => by simp; omega, fun _ => rfl, by omega, OwnF.nil H 1⟩, ?_⟩
  rintro ⟨x1, x2⟩ H' ⟨i, hx, h1, h2, hi, ho⟩
  dsimp only at hx ho
  subst hx
  dsimp only
  have hl := ho.lenB
  rw [be_len] at hl
  refine ift.of (fun h => ?_) (fun h => ?_)
  · have hpos : 0 < u / 2 ^ (8 * i) := by have := of_decide_eq_true h; omega
    have hge : 2 ^ (8 * i) ≤ u := by
      rcases Nat.lt_or_ge u (2 ^ (8 * i)) with h' | h'
      · rw [Nat.div_eq_of_lt h'] at hpos; omega
      · exact h'
    have hi8 : i < 8 := by
      rcases Nat.lt_or_ge i 8 with h' | h'
      · exact h'
      · have : i = 8 := by omega
        subst this; simp at hge; omega
    have hdl : u / 2 ^ (8 * i) ≤ u := Nat.div_le_self _ _
    have hdd : u / 2 ^ (8 * i) / 256 = u / 2 ^ (8 * (i + 1)) := by
      rw [Nat.div_div_eq_div_mul]
      congr 1
      rw [show 8 * (i + 1) = 8 * i + 8 by omega, Nat.pow_add]
    have hbe : be (i + 1) u = UInt8.ofNat (u / 2 ^ (8 * i)) :: be i u := rfl
    generalize hq : u / 2 ^ (8 * i) = q at *
    have e1 : Int.tmod (q : Int) 256 = ((q % 256 : Nat) : Int) := by rw [Int.tmod_eq_emod_of_nonneg (by omega)]; omega
    have e2 : w .u8 ((q % 256 : Nat) : Int) = ((UInt8.ofNat q).toNat : Int) := by
      rw [w_u8 (by omega) (by omega), UInt8.toNat_ofNat']
    rw [e1, e2]
    intro b nb
    have hlit := lit_bytes (H := H') (b := b) (m := true) (s := [UInt8.ofNat q]) (vs := [.int .u8 ((UInt8.ofNat q).toNat : Int)]) rfl
    have hof : OwnF H (H'.put b (.row [.int .u8 ((UInt8.ofNat q).toNat : Int)])) 1 (Sl.of (some (b, 0)) 1 1) (bytesV [UInt8.ofNat q]) :=
      ⟨ho.le.trans (Heap.le_put nb), ⟨rfl, rfl, Nat.le_refl _, .inr ⟨b, [], rfl, by rw [Heap.put_same]; rfl, by simp [bytesV]⟩⟩, fun p hp => by injection hp with hp; subst hp; exact ho.le.none nb⟩
    refine apS_bytes hof (rdsl_le (Heap.le_put nb) ho.own.rdsl) (by rw [be_len]; exact hl) (by simp [be_len]; omega) fun r H2 h2 _ => ?_
    have e3 : Int.tdiv (q : Int) 256 = ((q / 256 : Nat) : Int) := by rw [Int.tdiv_eq_ediv_of_nonneg (by omega)]; omega
    rw [e3, w_u64 (by omega) (by omega)]
    refine ⟨⟨i + 1, by rw [hdd], fun _ => by simpa using hge, fun h0 => ?_, by omega, by rw [hbe]; exact h2⟩, by first | omega | (dsimp only; omega)⟩
    subst h0
    have := Nat.two_pow_pos (8 * i)
    omega
  · have h0 : u / 2 ^ (8 * i) = 0 := by
      have h' := of_decide_eq_false h
      generalize u / 2 ^ (8 * i) = q at *
      omega
    have hlt : u < 2 ^ (8 * i) := by
      rcases Nat.div_eq_zero_iff.1 h0 with h' | h'
      · have := Nat.two_pow_pos (8 * i); omega
      · exact h'
    have : i = kl u := pow_uniq hlt h1 h2 (kl_lt u) kl_ge fun h => by rw [h]; rfl
    subst this
    exact k x2 H' ho

theorem rNum0_ok {s : Sl} {a : Str} {n : Nat} {K : Sl → Heap → Prop} (hr : rdsl H s (bytesV a)) (hl : s.len = a.length) (hn : n ≤ 9223372036854775807) (hm : a.length + 9 ≤ 140737488355328)
    (k : ∀ r H2, OwnF H H2 1 r (bytesV (a ++ numB 128 n)) → K r H2) : c_ref03_Num C s (n : Int) K H := by
  apply ad_ref03_Num
  unfold sh_ref03_Num
  refine ift_neg (decide_eq_false (by omega)) ?_
  rw [w_u64 (by omega) (by omega)]
  refine digits_ok (by omega) fun r1 H1 h1 => ?_
  have hl1 := h1.lenB
  rw [be_len] at hl1
  have hk := kl_le (u := n) (by omega)
  have e : w .u8 (w .i64 (128 + (r1.len : Int))) = ((UInt8.ofNat (128 + kl n)).toNat : Int) := by
    rw [w_i64 (by omega) (by omega), hl1]; exact w_u8_nat (128 + kl n)
  rw [e]
  intro b nb
  refine with_ok (a := [UInt8.ofNat (128 + kl n)]) (lit_bytes rfl) rfl (rdsl_le (Heap.le_put nb) h1.own.rdsl) (by rw [be_len]; exact hl1) (by simp [be_len]; omega) fun r2 H2 h2 => ?_
  have hle := h1.le.trans ((Heap.le_put nb).trans h2.le)
  have e2 : [UInt8.ofNat (128 + kl n)] ++ be (kl n) n = numB 128 n := rfl
  rw [e2] at h2
  refine with_ok (rdsl_le hle hr) hl h2.own.rdsl h2.lenB (by rw [numB_len]; omega) fun r3 H3 h3 => ?_
  exact k r3 H3 (h3.down hle)

theorem rNum_ok {s : Sl} {a : Str} {n : Int} {K : Sl → Heap → Prop} (hr : rdsl H s (bytesV a)) (hl : s.len = a.length) (h0 : -9223372036854775808 ≤ n) (h1 : n ≤ 9223372036854775807) (hm : a.length + 9 ≤ 140737488355328)
    (k : ∀ r H2, OwnF H H2 1 r (bytesV (a ++ Nm n)) → K r H2) : c_ref03_Num C s n K H := by
  by_cases hn : n < 0
  · apply ad_ref03_Num
    unfold sh_ref03_Num
    refine ift_pos (decide_eq_true hn) ?_
    rw [w_i64 (x := n + 1) (by omega) (by omega), w_i64 (by omega) (by omega)]
    obtain ⟨u, hu⟩ := Int.eq_ofNat_of_zero_le (show 0 ≤ -1 - n by omega)
    have e : 0 - (n + 1) = (u : Int) := by omega
    rw [e]
    refine rNum0_ok (a := []) rdsl_none rfl (by omega) (by simp) fun r1 H1 g1 => ?_
    rw [List.nil_append] at g1
    have hk := kl_le (u := u) (by omega)
    refine rturned_ok g1.own.rdsl g1.lenB (by rw [numB_len]; omega) fun r2 H2 g2 => ?_
    have hle := g1.le.trans g2.le
    refine with_ok (rdsl_le hle hr) hl g2.own.rdsl g2.lenB (by simp [numB_len]; omega) fun r3 H3 g3 => ?_
    refine k r3 H3 ?_
    unfold Nm
    rw [if_pos hn, hu]; exact g3.down hle
  · obtain ⟨u, rfl⟩ := Int.eq_ofNat_of_zero_le (show 0 ≤ n by omega)
    refine rNum0_ok hr hl (by omega) hm fun r H2 h2 => k r H2 ?_
    unfold Nm
    rw [if_neg hn]; exact h2

theorem rCount_ok {s : Sl} {a : Str} {n : Int} {K : Sl → Heap → Prop} (hr : rdsl H s (bytesV a)) (hl : s.len = a.length) (hm : a.length + 9 ≤ 140737488355328)
    (k : ∀ r H2, OwnF H H2 1 r (bytesV (a ++ Ct n)) → K r H2) : c_ref03_Count C s n K H := by
  apply ad_ref03_Count
  unfold sh_ref03_Count
  unfold Ct at k
  refine ift.of (fun h => ?_) (fun h => ?_)
  · have hc : ¬ (0 ≤ n ∧ n ≤ 2147483647) := by simp only [Bool.or_eq_true, decide_eq_true_eq] at h; omega
    rw [if_neg hc] at k
    exact with_ok hr hl rdsl_none rfl (by simp; omega) fun r H2 h2 => k r H2 h2
  · have hc : 0 ≤ n ∧ n ≤ 2147483647 := by simp only [Bool.or_eq_false_iff, decide_eq_false_iff_not] at h; omega
    rw [if_pos hc] at k
    obtain ⟨u, rfl⟩ := Int.eq_ofNat_of_zero_le hc.1
    rw [w_u64 (by omega) (by omega)]
    refine digits_ok (by omega) fun r1 H1 h1 => ?_
    have hl1 := h1.lenB
    rw [be_len] at hl1
    have hk := kl_le4 (n := u) (by omega)
    have e : w .u8 (r1.len : Int) = ((UInt8.ofNat (0 + kl u)).toNat : Int) := by
      rw [hl1, Nat.zero_add]; exact w_u8_nat (kl u)
    rw [e]
    intro b nb
    refine with_ok (a := [UInt8.ofNat (0 + kl u)]) (lit_bytes rfl) rfl (rdsl_le (Heap.le_put nb) h1.own.rdsl) (by rw [be_len]; exact hl1) (by simp [be_len]; omega) fun r2 H2 h2 => ?_
    have hle := h1.le.trans ((Heap.le_put nb).trans h2.le)
    have e2 : [UInt8.ofNat (0 + kl u)] ++ be (kl u) u = numB 0 u := rfl
    rw [e2] at h2
    refine with_ok (rdsl_le hle hr) hl h2.own.rdsl h2.lenB (by rw [numB_len]; omega) fun r3 H3 h3 => ?_
    exact k r3 H3 (h3.down hle)

theorem rStr_ok {s : Sl} {a u : Str} {K : Sl → Heap → Prop} (hr : rdsl H s (bytesV a)) (hl : s.len = a.length) (hm : a.length + 2 * u.length + 2 ≤ 140737488355328)
    (k : ∀ r H2, OwnF H H2 1 r (bytesV (a ++ Tx u)) → K r H2) : c_ref03_Str C s u K H := by
  apply ad_ref03_Str
  unfold sh_ref03_Str
  refine with_ok hr hl rdsl_none rfl (by simp; omega) fun r1 H1 h1 => ?_
  rw [List.append_nil] at h1
  refine ⟨fun x H' => ∃ i : Nat, x.2 = (i : Int) ∧ i ≤ u.length ∧ OwnF H H' 1 x.1 (bytesV (a ++ esc (u.take i))), fun x _ => u.length - x.2.toNat, ⟨0, rfl, Nat.zero_le _, by simpa [esc] using h1⟩, ?_⟩
  rintro ⟨x1, x2⟩ H' ⟨i, hx, hi, ho⟩
  dsimp only at hx ho
  subst hx
  dsimp only
  have hlx := ho.lenB
  have hel := esc_len (u.take i)
  have htl : (u.take i).length = i := by simp; omega
  rw [List.length_append] at hlx
  refine ift.of (fun h => ?_) (fun h => ?_)
  · have hlt : i < u.length := by have := of_decide_eq_true h; omega
    have het := esc_take hlt
    have hc := getE hlt
    have hg : u.getD i 0 = u[i] := by simp [List.getD, hlt]
    rw [hg] at het
    generalize u[i] = c at *
    refine ⟨fun r H2 => OwnF H H2 1 r (bytesV (a ++ esc (u.take (i + 1)))), ?_, ?_⟩
    · refine ⟨c, by omega, hc, ?_⟩
      dsimp only
      refine apd_ownF (zc := [.int .u8 0]) ho rfl (by omega) (by omega) fun r H2 h2 hrl => ?_
      refine ⟨c, by omega, hc, ?_⟩
      dsimp only
      rw [show ((c.toNat : Int) == 0) = decide (c = 0) from u8eq c 0 (by omega)]
      refine ift.of (fun h => ?_) (fun h => ?_)
      · refine apd_ownF (zc := [.int .u8 0]) h2 rfl (by omega) (by omega) fun r2 H3 h3 _ => ?_
        have h0 := of_decide_eq_true h
        rw [het, if_pos h0]
        have e : a ++ (esc (u.take i) ++ [0, 255]) = ((a ++ esc (u.take i)) ++ [c]) ++ [255] := by rw [h0]; simp
        rw [e, bytesV_append, bytesV_append]; exact h3
      · rw [het, if_neg (of_decide_eq_false h), ← List.append_assoc, bytesV_append]; exact h2
    · rintro r H2 h2
      rw [w_i64 (by omega) (by omega)]
      exact ⟨⟨i + 1, rfl, by omega, h2⟩, by first | omega | (dsimp only; omega)⟩
  · have hie : i = u.length := by have := of_decide_eq_false h; omega
    subst hie
    rw [List.take_length] at ho hel hlx
    refine apd_ownF (zc := [.int .u8 0]) ho rfl (by omega) (by omega) fun r H2 h2 _ => ?_
    refine k r H2 ?_
    unfold Tx
    rw [← List.append_assoc, bytesV_append]; exact h2

theorem rFlag_ok {s : Sl} {a : Str} {v : Bool} {K : Sl → Heap → Prop} (hr : rdsl H s (bytesV a)) (hl : s.len = a.length) (hm : a.length + 1 ≤ 140737488355328)
    (k : ∀ r H2, OwnF H H2 1 r (bytesV (a ++ [if v then 1 else 0])) → K r H2) : c_ref03_Flag C s v K H := by
  apply ad_ref03_Flag
  unfold sh_ref03_Flag
  cases v with
  | true =>
    refine ift_pos rfl fun b nb => ?_
    exact with_ok (c := [1]) (rdsl_le (Heap.le_put nb) hr) hl (lit_bytes rfl) rfl (by simpa using hm) fun r H2 h2 => k r H2 (h2.down (Heap.le_put nb))
  | false =>
    refine ift_neg rfl fun b nb => ?_
    exact with_ok (c := [0]) (rdsl_le (Heap.le_put nb) hr) hl (lit_bytes rfl) rfl (by simpa using hm) fun r H2 h2 => k r H2 (h2.down (Heap.le_put nb))
end
end Sx
