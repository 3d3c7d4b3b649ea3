/-
  Texts of this family, one behind the other: ValU, ValP1, ValP2, ValP3, ValP4, ValP5, ValR, ValW, ValX, ValC1, ValO1, SortP, SortQ, ValM, ValN1, SortR, SortD.
-/
import Derived.Test.YthfggbmlmpegaaaGreatDoorA4
noncomputable section
set_option linter.unusedVariables false
set_option linter.unusedSimpArgs false
set_option maxRecDepth 10000
namespace Sx
open Go Go.Proofs
theorem flat_get {α β : Type} (f : α → List β) (z : Nat) (hz : ∀ x, (f x).length = z) : ∀ (l : List α) (i : Nat) (x : α), l[i]? = some x → ∀ (j : Nat) (v : β), (f x)[j]? = some v → (l.flatMap f)[i * z + j]? = some v
  | [], i, x, h, j, v, hv => by simp at h
  | y :: l, 0, x, h, j, v, hv => by
    simp at h; subst h
    rw [List.flatMap_cons, Nat.zero_mul, Nat.zero_add, List.getElem?_append_left (List.getElem?_eq_some_iff.1 hv).1]; exact hv
  | y :: l, i + 1, x, h, j, v, hv => by
    have := flat_get f z hz l i x (by simpa using h) j v hv
    rw [List.flatMap_cons, List.getElem?_append_right (by rw [hz, Nat.add_mul]; omega), hz]
    rw [show (i + 1) * z + j - z = i * z + j by rw [Nat.add_mul]; omega]; exact this

abbrev TV := T_api_Value
theorem TV.c_len (x : TV) : (T_api_Value.c x).length = 4 := rfl

mutual
def VIs (H : Heap) : V → TV → Prop
  | .mk k n s l, x => x.Kind = k ∧ x.N = n ∧ x.S = s ∧ ∃ xs : List TV, rdsl H x.L (xs.flatMap T_api_Value.c) ∧ x.L.len = xs.length ∧ VsAre H l xs
def VsAre (H : Heap) : List V → List TV → Prop
  | [], [] => True
  | v :: l, x :: xs => VIs H v x ∧ VsAre H l xs
  | [], _ :: _ => False
  | _ :: _, [] => False
end
/-- a row of values -/
def VRow (H : Heap) (t : Sl) (l : List V) : Prop := ∃ xs : List TV, rdsl H t (xs.flatMap T_api_Value.c) ∧ t.len = xs.length ∧ VsAre H l xs
theorem VIs_iff {H : Heap} {v : V} {x : TV} : VIs H v x ↔ x.Kind = v.k ∧ x.N = v.n ∧ x.S = v.s ∧ VRow H x.L v.l := by obtain ⟨k, n, s, l⟩ := v; rfl
theorem VsAre.len {H : Heap} : ∀ {l : List V} {xs : List TV}, VsAre H l xs → l.length = xs.length
  | [], [], _ => rfl
  | v :: l, x :: xs, h => by have := VsAre.len h.2; simp [this]
theorem VsAre.get {H : Heap} : ∀ {l : List V} {xs : List TV}, VsAre H l xs → ∀ (i : Nat) (v : V) (x : TV), l[i]? = some v → xs[i]? = some x → VIs H v x
  | [], [], _, i, v, x, h, _ => by simp at h
  | v :: l, x :: xs, h, 0, v', x', h1, h2 => by simp at h1 h2; subst h1; subst h2; exact h.1
  | v :: l, x :: xs, h, i + 1, v', x', h1, h2 => VsAre.get h.2 i v' x' (by simpa using h1) (by simpa using h2)
theorem VsAre.of {H : Heap} : ∀ {l : List V} {xs : List TV}, l.length = xs.length → (∀ (i : Nat) (v : V) (x : TV), l[i]? = some v → xs[i]? = some x → VIs H v x) → VsAre H l xs
  | [], [], _, _ => trivial
  | v :: l, x :: xs, h, hg => ⟨hg 0 v x rfl rfl, VsAre.of (by simpa using h) fun i v' x' h1 h2 => hg (i + 1) v' x' (by simpa using h1) (by simpa using h2)⟩
mutual
theorem VIs.le {A B : Heap} (h : A.le B) : ∀ {v : V} {x : TV}, VIs A v x → VIs B v x
  | .mk k n s l, x, ⟨h1, h2, h3, xs, h4, h5, h6⟩ => ⟨h1, h2, h3, xs, rdsl_le h h4, h5, VsAre.le h h6⟩
theorem VsAre.le {A B : Heap} (h : A.le B) : ∀ {l : List V} {xs : List TV}, VsAre A l xs → VsAre B l xs
  | [], [], _ => trivial
  | v :: l, x :: xs, ⟨h1, h2⟩ => ⟨VIs.le h h1, VsAre.le h h2⟩
end
theorem VRow.le {A B : Heap} {t : Sl} {l : List V} (h : VRow A t l) (hle : A.le B) : VRow B t l := by
  obtain ⟨xs, h1, h2, h3⟩ := h
  exact ⟨xs, rdsl_le hle h1, h2, h3.le hle⟩
theorem VRow.len {H : Heap} {t : Sl} {l : List V} (h : VRow H t l) : t.len = l.length := by
  obtain ⟨xs, h1, h2, h3⟩ := h
  rw [h2, h3.len]
theorem VIs.kind {H : Heap} {v : V} {x : TV} (h : VIs H v x) : x.Kind = v.k := (VIs_iff.1 h).1
theorem VIs.num {H : Heap} {v : V} {x : TV} (h : VIs H v x) : x.N = v.n := (VIs_iff.1 h).2.1
theorem VIs.txt {H : Heap} {v : V} {x : TV} (h : VIs H v x) : x.S = v.s := (VIs_iff.1 h).2.2.1
theorem VIs.row {H : Heap} {v : V} {x : TV} (h : VIs H v x) : VRow H x.L v.l := (VIs_iff.1 h).2.2.2

/-- one of a row's values -/
theorem VRow.ld {A H : Heap} {t : Sl} {l : List V} (h : VRow A t l) (hle : A.le H) {i : Nat} {x : Int} {K : TV → Prop} (hx : x = i) (hi : i < l.length) (k : ∀ y, VIs A l[i] y → K y) : ixa t x fun p => ldT H T_api_Value.c (p.1, p.2 + x.toNat * 4) K := by
  have hl := h.len
  obtain ⟨xs, h1, h2, h3⟩ := h
  have hi2 : i < xs.length := by omega
  have hg := List.getElem?_eq_getElem hi2
  subst hx
  refine ixa_of (rdsl_le hle h1) (by omega) (by omega) (fun e => ?_) fun p _ hp => ⟨xs[i], ?_, k _ (h3.get i _ _ (List.getElem?_eq_getElem hi) hg)⟩
  · have := flat_get T_api_Value.c 4 TV.c_len xs i _ hg 0 _ rfl
    rw [e] at this; simp at this
  · refine rds_of fun j v hj => ?_
    have := rds_get hp _ _ (flat_get T_api_Value.c 4 TV.c_len xs i _ hg j v hj)
    rw [show p.2 + (i : Int).toNat * 4 + j = p.2 + (i * 4 + j) by omega]; exact this

mutual
def VB : V → Prop
  | .mk k n s l => (0 ≤ k ∧ k ≤ 255) ∧ (-9223372036854775808 ≤ n ∧ n ≤ 9223372036854775807) ∧ s.length ≤ 140737488355328 ∧ l.length ≤ 140737488355328 ∧ VBs l
def VBs : List V → Prop
  | [] => True
  | v :: l => VB v ∧ VBs l
end
theorem VBs.mem : ∀ {l : List V}, VBs l → ∀ {v}, v ∈ l → VB v
  | w :: l, h, v, hv => by
    rcases List.mem_cons.1 hv with rfl | hv
    · exact h.1
    · exact VBs.mem h.2 hv
theorem VBs.of : ∀ {l : List V}, (∀ v ∈ l, VB v) → VBs l
  | [], _ => trivial
  | v :: l, h => ⟨h v (List.mem_cons_self ..), VBs.of fun w hw => h w (List.mem_cons_of_mem _ hw)⟩
theorem VB.k {v : V} (h : VB v) : 0 ≤ v.k ∧ v.k ≤ 255 := by obtain ⟨k, n, s, l⟩ := v; exact h.1
theorem VB.n {v : V} (h : VB v) : -9223372036854775808 ≤ v.n ∧ v.n ≤ 9223372036854775807 := by obtain ⟨k, n, s, l⟩ := v; exact h.2.1
theorem VB.s {v : V} (h : VB v) : v.s.length ≤ 140737488355328 := by obtain ⟨k, n, s, l⟩ := v; exact h.2.2.1
theorem VB.l {v : V} (h : VB v) : v.l.length ≤ 140737488355328 := by obtain ⟨k, n, s, l⟩ := v; exact h.2.2.2.1
theorem VB.ls {v : V} (h : VB v) : VBs v.l := by obtain ⟨k, n, s, l⟩ := v; exact h.2.2.2.2
theorem VB.at {v : V} (h : VB v) {i : Nat} (hi : i < v.l.length) : VB v.l[i] := h.ls.mem (List.getElem_mem hi)

section
variable {B : Heap} {b : Nat} {m : Bool} {x : TV}
theorem rd_box (h : B b = some (m, .row (T_api_Value.c x))) : rd B (b, 0) = some (.int .u8 x.Kind) ∧ rd B (b, 1) = some (.int .i64 x.N) ∧ rd B (b, 2) = some (sv x.S) ∧ rd B (b, 3) = some (slv x.L) :=
  ⟨by rw [rd_row h]; rfl, by rw [rd_row h]; rfl, by rw [rd_row h]; rfl, by rw [rd_row h]; rfl⟩
theorem bxK {K : Int → Prop} (h : B b = some (m, .row (T_api_Value.c x))) (k : K x.Kind) : ldI B .u8 ((b, 0).1, (b, 0).2 + 0) K := ⟨_, (rd_box h).1, k⟩
theorem bxN {K : Int → Prop} (h : B b = some (m, .row (T_api_Value.c x))) (k : K x.N) : ldI B .i64 ((b, 0).1, (b, 0).2 + 1) K := ⟨_, (rd_box h).2.1, k⟩
theorem bxS {K : Str → Prop} (h : B b = some (m, .row (T_api_Value.c x))) (k : K x.S) : ldS B ((b, 0).1, (b, 0).2 + 2) K := ⟨_, (rd_box h).2.2.1, k⟩
theorem bxL {K : Sl → Prop} (h : B b = some (m, .row (T_api_Value.c x))) (k : K x.L) : ldL B ((b, 0).1, (b, 0).2 + 3) K := ⟨_, (rd_box h).2.2.2, k⟩
theorem bxV {K : TV → Prop} (h : B b = some (m, .row (T_api_Value.c x))) (k : K x) : ldT B T_api_Value.c (b, 0) K := ⟨x, rds_row h fun j v hj => by simpa using hj, k⟩
end
section
variable {C : Ctx} {H : Heap}
theorem ref02_Depth_ok {v : V} {x : TV} {H : Heap} {K : Int → Heap → Prop} (hv : VIs H v x) (hB : VB v) (hs : vsize v ≤ 4611686018427387904) (k : K (dep v) H) : c_ref02_Depth C x K H := by
  refine V.rec_ (P := fun v => ∀ {x H} {K : Int → Heap → Prop}, VIs H v x → VB v → vsize v ≤ 4611686018427387904 → K (dep v) H → c_ref02_Depth C x K H) (fun v ih => ?_) v hv hB hs k
  clear hv hB hs k
  intro x H K hv hB hs k
  apply c_ref02_Depth.gh
  apply ad_ref02_Depth
  unfold sh_ref02_Depth
  intro b1 n1
  have hr := hv.row
  have hl := hr.len
  have hbl := hB.l
  have hds := dep_le_size v
  have hde := dep_eq v
  refine ⟨fun y H' => ∃ i : Nat, y = ((deps (v.l.take i) : Int), (i : Int)) ∧ i ≤ v.l.length ∧ (H.put b1 (.row (T_api_Value.c x))).le H', fun y _ => v.l.length - y.2.toNat, ⟨0, by simp [deps], Nat.zero_le _, Heap.le.refl _⟩, ?_⟩
  rintro _ H' ⟨i, rfl, hi, hle⟩
  have hb := hle _ _ (Heap.put_same ..)
  have hle0 := (Heap.le_put n1).trans hle
  refine bxL hb ?_
  rw [hl]
  refine ift.of (fun h => ?_) (fun h => ?_)
  · have hlt : i < v.l.length := by have := of_decide_eq_true h; dsimp only at this; omega
    have hmem := List.getElem_mem hlt
    have hsz := vsize_l hmem
    have hdl := deps_le hmem
    refine bxL hb ?_
    refine hr.ld hle0 rfl hlt fun y hy => ?_
    refine ih _ hmem (hy.le hle0) (hB.at hlt) (by omega) ?_
    have hdt := deps_take hlt
    dsimp only
    rw [w_i64 (by omega) (by omega)]
    refine ⟨⟨i + 1, ?_, by omega, hle⟩, by first | omega | (dsimp only; omega)⟩
    rw [hdt]
    refine Prod.ext ?_ rfl
    dsimp only
    split <;> omega
  · have hie : i = v.l.length := by have := of_decide_eq_false h; dsimp only at this; omega
    subst hie
    dsimp only
    rw [List.take_length, w_i64 (by omega) (by omega)]
    refine ⟨H, Gh.le hle0, ?_⟩
    rw [hde] at k; exact k

theorem value_depth_ok {v : V} {x : TV} {H : Heap} {m : Nat} {K : Int → Heap → Prop} (hv : VIs H v x) (hB : VB v) (hm : m ≤ 1000) (k : ∀ r : Nat, r ≤ m + 1 → r ≤ dep v → (r = dep v ∨ m + 1 ≤ r) → K r H) : c_value_depth C x m K H := by
  refine V.rec_ (P := fun v => ∀ {x H} {m : Nat} {K : Int → Heap → Prop}, VIs H v x → VB v → m ≤ 1000 → (∀ r : Nat, r ≤ m + 1 → r ≤ dep v → (r = dep v ∨ m + 1 ≤ r) → K r H) → c_value_depth C x m K H) (fun v ih => ?_) v hv hB hm k
  clear hv hB hm k m
  intro x H m K hv hB hm k
  apply c_value_depth.gh
  apply ad_value_depth
  unfold sh_value_depth
  intro b1 n1
  have hr := hv.row
  have hl := hr.len
  have hbl := hB.l
  have hde := dep_eq v
  have hb1 : (H.put b1 (.row (T_api_Value.c x))) b1 = some (true, .row (T_api_Value.c x)) := Heap.put_same ..
  refine ⟨fun y H' => H.le H' ∧ ∃ r : Nat, y = (r : Int) ∧ r ≤ m ∧ r ≤ deps v.l ∧ (r = deps v.l ∨ m ≤ r), ?_, ?_⟩
  rotate_left
  · rintro y H' ⟨hle, r, rfl, h0, h1, h2⟩
    rw [w_i64 (by omega) (by omega)]
    have := k (r + 1) (by omega) (by omega) (by omega)
    exact ⟨H, Gh.le hle, by simpa using this⟩
  refine bxL hb1 ?_
  refine ⟨fun y H' => ∃ i r : Nat, y = ((r : Int), (i : Int)) ∧ i ≤ v.l.length ∧ H.le H' ∧ r ≤ m ∧ r ≤ deps (v.l.take i) ∧ (r = deps (v.l.take i) ∨ m ≤ r), fun y _ => v.l.length - y.2.toNat, ⟨0, 0, rfl, Nat.zero_le _, Heap.le_put n1, Nat.zero_le _, Nat.zero_le _, .inl (by simp [deps])⟩, ?_⟩
  rintro _ H' ⟨i, r, rfl, hi, hle, hr0, hr1, hr2⟩
  have hdti : deps (v.l.take i) ≤ deps v.l := by
    have h1 := deps_append (v.l.take i) (v.l.drop i)
    rw [List.take_append_drop] at h1; omega
  dsimp only
  rw [hl]
  refine ift.of (fun h => ?_) (fun h => ?_)
  · have hlt : i < v.l.length := by have := of_decide_eq_true h; omega
    have hmem := List.getElem_mem hlt
    have hdl := deps_le hmem
    refine hr.ld hle rfl hlt fun y hy => ?_
    intro b20 n20
    refine ⟨_, Heap.put_same .., by simp [T_api_Value.c], ?_⟩
    rw [Heap.put_put]
    have esp : splice (T_api_Value.c T_api_Value.zero) (b20, 0).2 (T_api_Value.c y) = T_api_Value.c y := rfl
    rw [esp]
    have hle2 := hle.trans (Heap.le_put n20 (g := .row (T_api_Value.c y)) (m := true))
    refine ift.of (fun h => ?_) (fun h => ?_)
    · have hge : m ≤ r := by have := of_decide_eq_true h; omega
      exact ⟨hle2, r, rfl, by omega, by omega, .inr hge⟩
    · have hltm : r < m := by have := of_decide_eq_false h; omega
      refine bxV (Heap.put_same ..) ?_
      have em : w .i64 ((m : Int) - 1) = ((m - 1 : Nat) : Int) := by rw [w_i64 (by omega) (by omega)]; omega
      rw [em]
      refine ih _ hmem (hy.le hle2) (hB.at hlt) (by omega) fun q hq0 hq1 hq2 => ?_
      have hdt := deps_take hlt
      rw [w_i64 (by omega) (by omega)]
      refine ⟨⟨i + 1, max q r, ?_, by omega, hle2, by omega, by omega, ?_⟩, by first | omega | (dsimp only; omega)⟩
      · refine Prod.ext ?_ rfl
        dsimp only
        split <;> omega
      · rw [hdt]; omega
  · have hie : i = v.l.length := by have := of_decide_eq_false h; omega
    subst hie
    rw [List.take_length] at hr1 hr2
    exact ⟨hle, r, rfl, hr0, hr1, hr2⟩
end
end Sx
end

noncomputable section
set_option linter.unusedVariables false
set_option linter.unusedSimpArgs false
set_option maxRecDepth 10000
namespace Sx
open Go Go.Proofs
theorem u8eq (c : UInt8) (n : Nat) (hn : n < 256) : ((c.toNat : Int) == (n : Int)) = decide (c = UInt8.ofNat n) := by
  rw [Bool.eq_iff_iff]; simp only [decide_eq_true_eq, beq_iff_eq]
  constructor
  · intro h; exact UInt8.toNat_inj.1 (by rw [UInt8.toNat_ofNat']; omega)
  · rintro rfl; rw [UInt8.toNat_ofNat']; omega
theorem e48 (c : UInt8) : ((c.toNat : Int) == 48) = decide (c = 48) := u8eq c 48 (by omega)
theorem e45 (c : UInt8) : ((c.toNat : Int) == 45) = decide (c = 45) := u8eq c 45 (by omega)
theorem e46 (c : UInt8) : ((c.toNat : Int) == 46) = decide (c = 46) := u8eq c 46 (by omega)

theorem all_take {α : Type} {p : α → Bool} {s : List α} {i : Nat} (h : i < s.length) : (s.take (i + 1)).all p = ((s.take i).all p && p s[i]) := by
  rw [List.take_add_one, List.getElem?_eq_getElem h, Option.toList_some, List.all_append]; simp
theorem all_no {α : Type} {p : α → Bool} {s : List α} {x : α} (h : x ∈ s) (hp : p x = false) : s.all p = false := by
  rw [List.all_eq_false]; exact ⟨x, h, by simp [hp]⟩
theorem getE {s : Str} {i : Nat} (h : i < s.length) : s[((i : Nat) : Int).toNat]? = some s[i] := by simp [h]
theorem getL {s : Str} (h : 0 < s.length) {x : Int} (hx : x = (s.length : Int) - 1) : s[x.toNat]? = some (s.getLast (List.ne_nil_of_length_pos h)) := by
  subst hx
  have : ((s.length : Int) - 1).toNat = s.length - 1 := by omega
  rw [this, List.getElem?_eq_getElem (by omega), List.getLast_eq_getElem]

section
variable {C : Ctx} {H : Heap}
theorem letter_ok {c : UInt8} {K : Bool → Heap → Prop} (k : K (lowC c) H) : c_ref02_letter C (c.toNat : Int) K H := by
  apply ad_ref02_letter
  unfold sh_ref02_letter
  have : (decide ((c.toNat : Int) ≥ 97) && decide ((c.toNat : Int) ≤ 122)) = lowC c := by
    unfold lowC
    rw [Bool.eq_iff_iff]; simp only [Bool.and_eq_true, decide_eq_true_eq]; omega
  rw [this]; exact k

theorem ref02_Name_ok {s : Str} {K : Bool → Heap → Prop} (hs : s.length ≤ 140737488355328) (k : K (nameS s) H) : c_ref02_Name C s K H := by
  apply ad_ref02_Name
  unfold sh_ref02_Name
  refine ⟨fun b H' => H = H' ∧ b = (s.isEmpty || decide (s.length > 32) || !lowC (s.headD 0)), ?_, ?_⟩
  · refine ift.of (fun h => ⟨rfl, ?_⟩) (fun h => ?_)
    · simp only [Bool.or_eq_true, decide_eq_true_eq, beq_iff_eq] at h
      rcases h with rfl | h
      · rfl
      · have : decide (s.length > 32) = true := by rw [decide_eq_true_eq]; omega
        rw [this]; simp
    · cases s with
      | nil => simp at h
      | cons c t =>
        refine ⟨c, by omega, rfl, ?_⟩
        refine letter_ok ⟨rfl, ?_⟩
        simp only [Bool.or_eq_false_iff, decide_eq_false_iff_not] at h
        have : decide ((c :: t).length > 32) = false := by rw [decide_eq_false_iff_not]; omega
        rw [this]; rfl
  rintro b _ ⟨rfl, rfl⟩
  refine ift.of (fun h => ?_) (fun h => ?_)
  · have : nameS s = false := by
      unfold nameS
      simp only [Bool.or_eq_true, decide_eq_true_eq, Bool.not_eq_true'] at h
      rcases h with (h | h) | h
      · rw [h]; rfl
      · have : decide (s.length ≤ 32) = false := by rw [decide_eq_false_iff_not]; omega
        rw [this]; simp
      · rw [h]; simp
    rw [this] at k; exact k
  have hn : nameS s = s.all nameC := by
    unfold nameS
    simp only [Bool.or_eq_false_iff, decide_eq_false_iff_not, Bool.not_eq_false'] at h
    have : decide (s.length ≤ 32) = true := by rw [decide_eq_true_eq]; omega
    rw [h.1.1, this, h.2]; simp
  refine ⟨fun x H' => ∃ i : Nat, x = (i : Int) ∧ i ≤ s.length ∧ H = H' ∧ (s.take i).all nameC = true, fun x _ => s.length - x.toNat, ⟨0, rfl, Nat.zero_le _, rfl, rfl⟩, ?_⟩
  rintro x _ ⟨i, rfl, hi, rfl, ha⟩
  refine ift.of (fun h => ?_) (fun h => ?_)
  · have hlt : i < s.length := by have := of_decide_eq_true h; omega
    refine ⟨s[i], by omega, getE hlt, ?_⟩
    dsimp only
    have hm := List.getElem_mem hlt
    have hat := all_take (p := nameC) hlt
    generalize s[i] = c at *
    refine letter_ok ?_
    have e : ((((!lowC c) && (!((decide ((c.toNat : Int) ≥ 65)) && (decide ((c.toNat : Int) ≤ 90))))) && (!((decide ((c.toNat : Int) ≥ 48)) && (decide ((c.toNat : Int) ≤ 57))))) && ((c.toNat : Int) != 95)) = !nameC c := by
      unfold nameC
      have h1 : decide ((c.toNat : Int) ≥ 65) = decide (65 ≤ c.toNat) := by rw [decide_eq_decide]; omega
      have h2 : decide ((c.toNat : Int) ≤ 90) = decide (c.toNat ≤ 90) := by rw [decide_eq_decide]; omega
      have h3 : decide ((c.toNat : Int) ≥ 48) = decide (48 ≤ c.toNat) := by rw [decide_eq_decide]; omega
      have h4 : decide ((c.toNat : Int) ≤ 57) = decide (c.toNat ≤ 57) := by rw [decide_eq_decide]; omega
      have h5 : ((c.toNat : Int) != 95) = !decide (c.toNat = 95) := by
        rw [Bool.eq_iff_iff]; simp only [bne_iff_ne, ne_eq, Bool.not_eq_true', decide_eq_false_iff_not]; omega
      rw [h1, h2, h3, h4, h5]; simp only [Bool.not_or]
    rw [e]
    refine ift.of (fun h => ?_) (fun h => ?_)
    · rw [hn, all_no hm (by simpa using h)] at k; exact k
    · rw [w_i64 (by omega) (by omega)]
      refine ⟨⟨i + 1, by omega, by omega, rfl, ?_⟩, by first | omega | (dsimp only; omega)⟩
      rw [hat, ha]; simpa using h
  · have hie : i = s.length := by have := of_decide_eq_false h; omega
    rw [hie, List.take_length] at ha
    rw [hn, ha] at k; exact k

theorem value_name_ok {s : Str} {K : Bool → Heap → Prop} (hs : s.length ≤ 140737488355328) (k : K (nameS s) H) : c_value_name C s K H := by
  apply ad_value_name
  unfold sh_value_name
  refine ⟨fun b H' => H = H' ∧ b = (s.isEmpty || decide (s.length > 32) || decide ((s.headD 0).toNat < 97)), ?_, ?_⟩
  · refine ift.of (fun h => ⟨rfl, ?_⟩) (fun h => ?_)
    · simp only [Bool.or_eq_true, decide_eq_true_eq, beq_iff_eq] at h
      rcases h with rfl | h
      · rfl
      · have : decide (s.length > 32) = true := by rw [decide_eq_true_eq]; omega
        rw [this]; simp
    · cases s with
      | nil => simp at h
      | cons c t =>
        refine ⟨c, by omega, rfl, rfl, ?_⟩
        simp only [Bool.or_eq_false_iff, decide_eq_false_iff_not] at h
        have : decide ((c :: t).length > 32) = false := by rw [decide_eq_false_iff_not]; omega
        rw [this]
        simp only [List.isEmpty_cons, Bool.false_or, List.headD_cons]
        exact (decide_eq_decide.2 (by omega) : decide ((c.toNat : Int) < 97) = decide (c.toNat < 97))
  rintro b _ ⟨rfl, rfl⟩
  refine ⟨fun b H' => H = H' ∧ b = (s.isEmpty || decide (s.length > 32) || !lowC (s.headD 0)), ?_, ?_⟩
  · refine ift.of (fun h => ⟨rfl, ?_⟩) (fun h => ?_)
    · simp only [Bool.or_eq_true, decide_eq_true_eq] at h
      rcases h with (h | h) | h
      · rw [h]; rfl
      · have : decide (s.length > 32) = true := by rw [decide_eq_true_eq]; omega
        rw [this]; simp
      · have : lowC (s.headD 0) = false := by unfold lowC; rw [decide_eq_false (by omega)]; rfl
        rw [this]; simp
    · simp only [Bool.or_eq_false_iff, decide_eq_false_iff_not] at h
      cases s with
      | nil => simp at h
      | cons c t =>
        refine ⟨c, by omega, rfl, rfl, ?_⟩
        have : decide ((c :: t).length > 32) = false := by rw [decide_eq_false_iff_not]; omega
        rw [this]
        simp only [List.isEmpty_cons, Bool.false_or, List.headD_cons] at h ⊢
        unfold lowC
        rw [decide_eq_true (by omega : 97 ≤ c.toNat), Bool.true_and, ← decide_not, decide_eq_decide]; omega
  rintro b _ ⟨rfl, rfl⟩
  refine ift.of (fun h => ?_) (fun h => ?_)
  · have : nameS s = false := by
      unfold nameS
      simp only [Bool.or_eq_true, decide_eq_true_eq, Bool.not_eq_true'] at h
      rcases h with (h | h) | h
      · rw [h]; rfl
      · have : decide (s.length ≤ 32) = false := by rw [decide_eq_false_iff_not]; omega
        rw [this]; simp
      · rw [h]; simp
    rw [this] at k; exact k
  have hn : nameS s = s.all nameC := by
    unfold nameS
    simp only [Bool.or_eq_false_iff, decide_eq_false_iff_not, Bool.not_eq_false'] at h
    have : decide (s.length ≤ 32) = true := by rw [decide_eq_true_eq]; omega
    rw [h.1.1, this, h.2]; simp
  refine ⟨fun x H' => ∃ i : Nat, x = (i : Int) ∧ i ≤ s.length ∧ H = H' ∧ (s.take i).all nameC = true, fun x _ => s.length - x.toNat, ⟨0, rfl, Nat.zero_le _, rfl, rfl⟩, ?_⟩
  rintro x _ ⟨i, rfl, hi, rfl, ha⟩
  refine ift.of (fun h => ?_) (fun h => ?_)
  · have hlt : i < s.length := by have := of_decide_eq_true h; omega
    refine ⟨s[i], by omega, getE hlt, ?_⟩
    dsimp only
    have hm := List.getElem_mem hlt
    have hat := all_take (p := nameC) hlt
    generalize s[i] = c at *
    have e : (!(((((decide ((c.toNat : Int) ≥ 97)) && (decide ((c.toNat : Int) ≤ 122))) || ((decide ((c.toNat : Int) ≥ 65)) && (decide ((c.toNat : Int) ≤ 90)))) || ((decide ((c.toNat : Int) ≥ 48)) && (decide ((c.toNat : Int) ≤ 57)))) || ((c.toNat : Int) == 95))) = !nameC c := by
      unfold nameC lowC
      have h0 : decide ((c.toNat : Int) ≥ 97) = decide (97 ≤ c.toNat) := by rw [decide_eq_decide]; omega
      have h01 : decide ((c.toNat : Int) ≤ 122) = decide (c.toNat ≤ 122) := by rw [decide_eq_decide]; omega
      have h1 : decide ((c.toNat : Int) ≥ 65) = decide (65 ≤ c.toNat) := by rw [decide_eq_decide]; omega
      have h2 : decide ((c.toNat : Int) ≤ 90) = decide (c.toNat ≤ 90) := by rw [decide_eq_decide]; omega
      have h3 : decide ((c.toNat : Int) ≥ 48) = decide (48 ≤ c.toNat) := by rw [decide_eq_decide]; omega
      have h4 : decide ((c.toNat : Int) ≤ 57) = decide (c.toNat ≤ 57) := by rw [decide_eq_decide]; omega
      have h5 : ((c.toNat : Int) == 95) = decide (c.toNat = 95) := by
        rw [Bool.eq_iff_iff]; simp only [beq_iff_eq, decide_eq_true_eq]; omega
      rw [h0, h01, h1, h2, h3, h4, h5]
    rw [e]
    refine ift.of (fun h => ?_) (fun h => ?_)
    · rw [hn, all_no hm (by simpa using h)] at k; exact k
    · rw [w_i64 (by omega) (by omega)]
      refine ⟨⟨i + 1, by omega, by omega, rfl, ?_⟩, by first | omega | (dsimp only; omega)⟩
      rw [hat, ha]; simpa using h
  · have hie : i = s.length := by have := of_decide_eq_false h; omega
    rw [hie, List.take_length] at ha
    rw [hn, ha] at k; exact k

theorem take_no {s : Str} {i : Nat} (h : i < s.length) (h1 : (46 : UInt8) ∉ s.take i) (h2 : s[i] ≠ 46) : (46 : UInt8) ∉ s.take (i + 1) := by
  rw [List.take_add_one, List.getElem?_eq_getElem h, Option.toList_some, List.mem_append]
  rintro (hh | hh)
  · exact h1 hh
  · exact h2 (List.mem_singleton.1 hh).symm
theorem split_at {s : Str} {i : Nat} (h : i < s.length) : s = s.take i ++ s[i] :: s.drop (i + 1) := by
  rw [← List.drop_eq_getElem_cons h, List.take_append_drop]

theorem ref02_Names_ok {s : Str} {K : Bool → Heap → Prop} (hs : s.length ≤ 140737488355328) (k : K (namesS s) H) : c_ref02_Names C s K H := by
  apply ad_ref02_Names
  unfold sh_ref02_Names
  unfold namesS at k
  refine ift.of (fun h => ?_) (fun h => ?_)
  · simp only [Bool.or_eq_true, beq_iff_eq] at h
    rw [if_pos (show s = trueS ∨ s = falseS from h)] at k; exact k
  simp only [Bool.or_eq_false_iff, beq_eq_false_iff_ne, ne_eq] at h
  rw [if_neg (show ¬ (s = trueS ∨ s = falseS) from fun hh => hh.elim h.1 h.2)] at k
  refine ⟨fun x H' => ∃ i : Nat, x = (i : Int) ∧ i ≤ s.length ∧ H = H' ∧ (46 : UInt8) ∉ s.take i, fun x _ => s.length - x.toNat, ⟨0, rfl, Nat.zero_le _, rfl, by simp⟩, ?_⟩
  rintro x _ ⟨i, rfl, hi, rfl, hno⟩
  refine ift.of (fun h => ?_) (fun h => ?_)
  · have hlt : i < s.length := by have := of_decide_eq_true h; omega
    refine ⟨s[i], by omega, getE hlt, ?_⟩
    dsimp only
    rw [e46]
    refine ift.of (fun h => ?_) (fun h => ?_)
    · have hc : s[i] = 46 := of_decide_eq_true h
      have hsp := split_at hlt
      rw [hc] at hsp
      have hcut := cutD_at (s.take i) (s.drop (i + 1)) hno
      rw [← hsp] at hcut
      rw [hcut] at k
      dsimp only at k
      refine ⟨by omega, by omega, by omega, _, rfl, ?_⟩
      have e1 : (s.take ((i : Int)).toNat).drop (0 : Int).toNat = s.take i := by simp
      rw [e1]
      refine ref02_Name_ok (by simp; omega) ?_
      refine ⟨fun b H' => H = H' ∧ b = (nameS (s.take i) && nameS (s.drop (i + 1))), ?_, ?_⟩
      · refine ift.of (fun h => ?_) (fun h => ⟨rfl, by rw [h]; rfl⟩)
        rw [w_i64 (by omega) (by omega)]
        refine ⟨by omega, by omega, by omega, _, rfl, ?_⟩
        have e2 : (s.take ((s.length : Int)).toNat).drop ((i : Int) + 1).toNat = s.drop (i + 1) := by
          have : ((i : Int) + 1).toNat = i + 1 := by omega
          rw [this]; simp
        rw [e2]
        exact ref02_Name_ok (by simp; omega) ⟨rfl, by rw [h]; rfl⟩
      · rintro b _ ⟨rfl, rfl⟩
        exact k
    · have hc : s[i] ≠ 46 := of_decide_eq_false h
      rw [w_i64 (by omega) (by omega)]
      exact ⟨⟨i + 1, by omega, by omega, rfl, take_no hlt hno hc⟩, by first | omega | (dsimp only; omega)⟩
  · have hie : i = s.length := by have := of_decide_eq_false h; omega
    rw [hie, List.take_length] at hno
    rw [cutD_no s hno] at k
    exact ref02_Name_ok hs k

def numT (t : Str) : Bool := !t.isEmpty && !(decide (t.length > 1) && decide (t.head? = some 48)) && t.all digC
theorem numS_min {c : UInt8} {t : Str} : numS (45 :: c :: t) = if c = 48 then false else numT (c :: t) := by
  unfold numS numT unmin
  by_cases h : c = 48
  · subst h; simp
  · simp [h]
theorem numS_no {s : Str} (h : ¬ (s.length > 1 ∧ s.head? = some 45)) : numS s = numT s := by
  unfold numS numT unmin
  cases s with
  | nil => rfl
  | cons c t =>
    by_cases hc : c = 45
    · subst hc
      have : t = [] := by cases t with
        | nil => rfl
        | cons d u => exact absurd ⟨by simp, rfl⟩ h
      subst this; decide
    · simp only [List.head?_cons, Option.some.injEq, hc, if_false]
      by_cases h8 : c = 48
      · subst h8
        cases t with
        | nil => decide
        | cons d u => simp
      · simp [h8]

theorem ref02_Number_ok {s : Str} {K : Bool → Heap → Prop} (hs : s.length ≤ 140737488355328) (k : K (numS s) H) : c_ref02_Number C s K H := by
  apply ad_ref02_Number
  unfold sh_ref02_Number
  refine ⟨fun x H' => H = H' ∧ x.length ≤ s.length ∧ numT x = numS s, ?_, ?_⟩
  · refine ⟨fun b H' => H = H' ∧ b = decide (s.length > 1 ∧ s.head? = some 45), ?_, ?_⟩
    · refine ift.of (fun h => ?_) (fun h => ⟨rfl, ?_⟩)
      · have h1 : s.length > 1 := by have := of_decide_eq_true h; omega
        cases s with
        | nil => simp at h1
        | cons c t =>
          refine ⟨c, by omega, rfl, rfl, ?_⟩
          rw [e45, decide_eq_decide]
          simp at h1 ⊢
          exact fun _ => h1
      · have h1 := of_decide_eq_false h
        rw [eq_comm, decide_eq_false_iff_not]; omega
    rintro b _ ⟨rfl, rfl⟩
    refine ift.of (fun h => ?_) (fun h => ?_)
    · obtain ⟨h1, h2⟩ := of_decide_eq_true h
      cases s with
      | nil => simp at h1
      | cons c0 t0 =>
      obtain rfl : c0 = 45 := by simpa using h2
      cases t0 with
      | nil => simp at h1
      | cons c t =>
      refine ⟨by omega, by simp; omega, by omega, c :: t, ?_, ?_⟩
      · rw [List.take_of_length_le (by omega)]; rfl
      · refine ⟨c, by omega, rfl, ?_⟩
        dsimp only
        rw [e48]
        rw [numS_min] at k
        refine ift.of (fun h => ?_) (fun h => ?_)
        · rw [if_pos (of_decide_eq_true h)] at k; exact k
        · refine ⟨rfl, by simp, ?_⟩
          rw [numS_min, if_neg (of_decide_eq_false h)]
    · exact ⟨rfl, Nat.le_refl _, (numS_no (of_decide_eq_false h)).symm⟩
  rintro x _ ⟨rfl, hxl, hx⟩
  rw [← hx] at k
  clear hx
  refine ⟨fun b H' => H = H' ∧ b = (x.isEmpty || (decide (x.length > 1) && decide (x.head? = some 48))), ?_, ?_⟩
  · refine ift.of (fun h => ⟨rfl, ?_⟩) (fun h => ?_)
    · have : x = [] := by simpa using h
      subst this; rfl
    · refine ⟨fun b H' => H = H' ∧ b = (decide (x.length > 1) && decide (x.head? = some 48)), ?_, ?_⟩
      · refine ift.of (fun h => ?_) (fun h => ⟨rfl, ?_⟩)
        · have h1 : x.length > 1 := by have := of_decide_eq_true h; omega
          rw [decide_eq_true h1]
          cases x with
          | nil => simp at h1
          | cons c t => exact ⟨c, by omega, rfl, rfl, by rw [e48]; simp⟩
        · have h1 := of_decide_eq_false h
          rw [decide_eq_false (by omega)]; rfl
      · rintro b _ ⟨rfl, rfl⟩
        have : x.isEmpty = false := by cases x with
          | nil => simp at h
          | cons c t => rfl
        rw [this]; exact ⟨rfl, rfl⟩
  rintro b _ ⟨rfl, rfl⟩
  have hnt : numT x = (!(x.isEmpty || (decide (x.length > 1) && decide (x.head? = some 48))) && x.all digC) := by unfold numT; simp [Bool.not_or]
  refine ift.of (fun h => ?_) (fun h => ?_)
  · rw [hnt, h] at k; exact k
  rw [hnt, h, Bool.not_false, Bool.true_and] at k
  refine ⟨fun y H' => ∃ i : Nat, y = (i : Int) ∧ i ≤ x.length ∧ H = H' ∧ (x.take i).all digC = true, fun y _ => x.length - y.toNat, ⟨0, rfl, Nat.zero_le _, rfl, rfl⟩, ?_⟩
  rintro y _ ⟨i, rfl, hi, rfl, ha⟩
  refine ift.of (fun h => ?_) (fun h => ?_)
  · have hlt : i < x.length := by have := of_decide_eq_true h; omega
    have hm := List.getElem_mem hlt
    have hat := all_take (p := digC) hlt
    have hge := getE hlt
    generalize x[i] = c at *
    refine ⟨c, by omega, hge, ?_⟩
    refine ⟨fun b H' => H = H' ∧ b = !digC c, ?_, ?_⟩
    · refine ift.of (fun h => ⟨rfl, ?_⟩) (fun h => ?_)
      · have h1 := of_decide_eq_true h
        unfold digC; rw [decide_eq_false (by omega)]; rfl
      · have h1 := of_decide_eq_false h
        refine ⟨c, by omega, hge, rfl, ?_⟩
        unfold digC; rw [decide_eq_true (by omega : 48 ≤ c.toNat), Bool.true_and, ← decide_not, decide_eq_decide]; omega
    rintro b _ ⟨rfl, rfl⟩
    refine ift.of (fun h => ?_) (fun h => ?_)
    · rw [all_no hm (by simpa using h)] at k; exact k
    · rw [w_i64 (by omega) (by omega)]
      refine ⟨⟨i + 1, by omega, by omega, rfl, ?_⟩, by first | omega | (dsimp only; omega)⟩
      rw [hat, ha]; simpa using h
  · have hie : i = x.length := by have := of_decide_eq_false h; omega
    rw [hie, List.take_length] at ha
    rw [ha] at k; exact k

theorem ref02_Digits_ok {s : Str} {K : Int → Heap → Prop} (hs : s.length ≤ 140737488355328) (hn : numS s = true) (k : K (digits s) H) : c_ref02_Digits C s K H := by
  apply ad_ref02_Digits
  unfold sh_ref02_Digits
  cases s with
  | nil => simp [numS, unmin] at hn
  | cons c t =>
    refine ⟨c, by omega, rfl, ?_⟩
    dsimp only
    rw [e45]
    unfold digits unmin at k
    refine ift.of (fun h => ?_) (fun h => ?_)
    · have hc : c = 45 := of_decide_eq_true h
      rw [if_pos (by rw [hc]; rfl)] at k
      simp at hs
      rw [w_i64 (by simp only [List.length_cons]; omega) (by simp only [List.length_cons]; omega)]
      simpa using k
    · rw [if_neg (by simpa using of_decide_eq_false h)] at k; exact k
end
end Sx
end

noncomputable section
set_option linter.unusedVariables false
set_option linter.unusedSimpArgs false
set_option maxRecDepth 10000
namespace Sx
open Go Go.Proofs
theorem index_spec (c : UInt8) : ∀ s : Str, (Lib.indexByte s c = -1 ∧ c ∉ s) ∨ ∃ k : Nat, Lib.indexByte s c = (k : Int) ∧ ∃ a b, s = a ++ c :: b ∧ a.length = k ∧ c ∉ a
  | [] => .inl ⟨rfl, by simp⟩
  | b :: s => by
    unfold Lib.indexByte
    by_cases h : b = c
    · subst h
      exact .inr ⟨0, by simp, [], s, rfl, rfl, by simp⟩
    · have hb : (b == c) = false := by simpa using h
      rw [hb]
      rcases index_spec c s with ⟨h1, h2⟩ | ⟨k, h1, a, d, h2, h3, h4⟩
      · left
        rw [h1]
        refine ⟨by simp, by simp [h2, Ne.symm h]⟩
      · right
        refine ⟨k + 1, ?_, b :: a, d, by rw [h2]; rfl, by simp [h3], by simp [h4, Ne.symm h]⟩
        rw [h1]
        have : ((k : Int) == -1) = false := by rw [beq_eq_false_iff_ne]; omega
        simp [this]

def setD (cs : List Value) (l : Str) : List Value := l.foldl (fun cs c => cs.set c.toNat (.bool true)) cs
def setD0 : List Value := List.replicate 256 (.bool false)
def digS : Str := [48, 49, 50, 51, 52, 53, 54, 55, 56, 57]
theorem setD_len (l : Str) : ∀ cs, (setD cs l).length = cs.length := by
  induction l with
  | nil => intro cs; rfl
  | cons c l ih => intro cs; simp only [setD, List.foldl_cons] at ih ⊢; rw [ih]; simp
theorem setD_snoc (l : Str) (c : UInt8) (cs : List Value) : setD cs (l ++ [c]) = (setD cs l).set c.toNat (.bool true) := by simp [setD]
theorem setD_b (l : Str) : ∀ cs : List Value, cs.all Value.oneCell' = true → (setD cs l).all Value.oneCell' = true := by
  induction l with
  | nil => intro cs h; exact h
  | cons c l ih =>
    intro cs h
    simp only [setD, List.foldl_cons] at ih ⊢
    refine ih _ ?_
    rw [List.all_eq_true] at h ⊢
    intro x hx
    rcases List.mem_or_eq_of_mem_set hx with hx | rfl
    · exact h x hx
    · rfl
theorem setD_get : ∀ n : Nat, n < 256 → (match (setD setD0 digS)[n]? with | some (.bool b) => b == (decide (48 ≤ n) && decide (n ≤ 57)) | _ => false) = true := by decide +kernel
theorem setD_dig (c : UInt8) : (setD setD0 digS)[c.toNat]? = some (.bool (digC c)) := by
  have h := setD_get c.toNat c.toBitVec.isLt
  unfold digC
  generalize (setD setD0 digS)[c.toNat]? = o at *
  cases o with
  | none => simp at h
  | some v => cases v <;> simp at h ⊢; exact h

section
variable {C : Ctx} {H : Heap}
theorem hasPrefix_ok {s p : Str} {K : Bool → Heap → Prop} (k : K (p.isPrefixOf s) H) : c_internal_stringslite_HasPrefix C s p K H := by
  apply ad_internal_stringslite_HasPrefix
  unfold sh_internal_stringslite_HasPrefix
  refine ⟨fun b H' => H = H' ∧ b = p.isPrefixOf s, ?_, ?_⟩
  · refine ift.of (fun h => ?_) (fun h => ⟨rfl, ?_⟩)
    · have hl : p.length ≤ s.length := by have := of_decide_eq_true h; omega
      refine ⟨by omega, by omega, by omega, s.take p.length, by simp, rfl, ?_⟩
      rw [Bool.eq_iff_iff, List.isPrefixOf_iff_prefix, beq_iff_eq, List.prefix_iff_eq_take]
      exact ⟨fun h => h.symm, fun h => h.symm⟩
    · have hl := of_decide_eq_false h
      cases hh : p.isPrefixOf s with
      | false => rfl
      | true =>
        have := (List.isPrefixOf_iff_prefix.1 hh).length_le
        omega
  · rintro b _ ⟨rfl, rfl⟩
    exact k
theorem trimPrefix_ok {s p : Str} {K : Str → Heap → Prop} (k : K (if p.isPrefixOf s then s.drop p.length else s) H) : c_strings_TrimPrefix C s p K H := by
  apply ad_strings_TrimPrefix
  unfold sh_strings_TrimPrefix
  apply ad_internal_stringslite_TrimPrefix
  unfold sh_internal_stringslite_TrimPrefix
  refine hasPrefix_ok ?_
  refine ift.of (fun h => ?_) (fun h => ?_)
  · rw [if_pos h] at k
    have := (List.isPrefixOf_iff_prefix.1 h).length_le
    exact ⟨by omega, by omega, by omega, _, by simp, k⟩
  · rw [if_neg (by rw [h]; decide)] at k; exact k

theorem cutDot_ok {s : Str} {K : Str → Str → Bool → Heap → Prop} (hs : s.length ≤ 140737488355328) (k : match cutD s with | some (a, b) => K a b true H | none => K s [] false H) : c_strings_Cut C s [46] K H := by
  apply ad_strings_Cut
  unfold sh_strings_Cut
  apply ad_internal_stringslite_Cut
  unfold sh_internal_stringslite_Cut
  have key : ∀ {K : Int → Heap → Prop}, K (Lib.indexByte s 46) H → c_internal_stringslite_Index C s [46] K H := by
    intro K k
    apply ad_internal_stringslite_Index
    unfold sh_internal_stringslite_Index
    refine ift.of (fun h => ?_) (fun h => ?_)
    · have hs : [46] = s := by simpa using h
      subst hs
      exact k
    · refine ift_pos rfl ⟨46, by omega, rfl, ?_⟩
      apply ad_internal_stringslite_IndexByte
      unfold sh_internal_stringslite_IndexByte
      exact k
  refine key ?_
  rcases index_spec 46 s with ⟨h1, h2⟩ | ⟨i, h1, a, b, h2, h3, h4⟩
  · rw [h1]
    rw [cutD_no s h2] at k
    exact ift_neg rfl k
  · rw [h1]
    subst h2
    rw [cutD_at a b h4] at k
    subst h3
    simp only [List.length_append, List.length_cons] at hs
    refine ift_pos (by rw [decide_eq_true_eq]; omega) ?_
    refine ⟨by omega, by omega, by simp; omega, a, by simp, ?_⟩
    have e1 : (([46] : Str).length : Int) = 1 := rfl
    rw [e1, w_i64 (by omega) (by omega)]
    refine ⟨by omega, by simp; omega, by omega, b, ?_, k⟩
    have e2 : ((a.length : Int) + 1).toNat = a.length + 1 := by omega
    rw [List.take_of_length_le (by omega), e2, List.drop_append]
    simp

/-- the set of digits -/
def DSet (H : Heap) (b : Nat) : Prop := H b = some (true, .row (setD setD0 digS))
theorem contains_ok {b : Nat} {c : UInt8} {K : Bool → Heap → Prop} (h : DSet H b) (k : K (digC c) H) : c_strings_asciiSet_contains C (some (b, 0)) (c.toNat : Int) K H := by
  apply ad_strings_asciiSet_contains
  unfold sh_strings_asciiSet_contains
  refine ⟨(b, 0), rfl, by omega, by have := c.toBitVec.isLt; have : c.toNat < 256 := this; omega, digC c, ?_, k⟩
  rw [rd_row h]
  have := setD_dig c
  simpa using this
theorem trimR_ok {b : Nat} {s : Str} {K : Str → Heap → Prop} (hs : s.length ≤ 140737488355328) (h : DSet H b) (k : ∀ t, t.length ≤ s.length → t.all digC = s.all digC → K t H) : c_strings_trimRightASCII C s (some (b, 0)) K H := by
  apply ad_strings_trimRightASCII
  unfold sh_strings_trimRightASCII
  refine ⟨fun t H' => H = H' ∧ t.length ≤ s.length ∧ t.all digC = s.all digC, ?_, ?_⟩
  rotate_left
  · rintro t _ ⟨rfl, h1, h2⟩
    exact k t h1 h2
  refine ⟨fun t H' => H = H' ∧ t.length ≤ s.length ∧ t.all digC = s.all digC, fun t _ => t.length, ⟨rfl, Nat.le_refl _, rfl⟩, ?_⟩
  rintro t _ ⟨rfl, h1, h2⟩
  refine ift.of (fun hh => ?_) (fun hh => ⟨rfl, h1, h2⟩)
  have hl : 0 < t.length := by have := of_decide_eq_true hh; omega
  have hne := List.ne_nil_of_length_pos hl
  have hd : t.dropLast ++ [t.getLast hne] = t := List.dropLast_concat_getLast hne
  rw [w_i64 (by omega) (by omega)]
  refine ⟨t.getLast hne, by omega, getL hl rfl, ?_⟩
  refine contains_ok h ?_
  refine ift.of (fun hc => ⟨rfl, h1, h2⟩) (fun hc => ?_)
  have e1 : (t.take ((t.length : Int) - 1).toNat).drop (0 : Int).toNat = t.dropLast := by
    have : ((t.length : Int) - 1).toNat = t.length - 1 := by omega
    rw [this, List.dropLast_eq_take]; simp
  refine ⟨by omega, by omega, by omega, _, e1.symm, ?_⟩
  have hdl := List.length_dropLast (xs := t)
  refine ⟨⟨rfl, by omega, ?_⟩, by dsimp only; omega⟩
  rw [← h2]
  conv => rhs; rw [← hd]
  rw [List.all_append]
  simp at hc
  simp [hc]
theorem trimL_ok {b : Nat} {s : Str} {K : Str → Heap → Prop} (hs : s.length ≤ 140737488355328) (h : DSet H b) (k : ∀ t, t.all digC = s.all digC → (t = [] ∨ t.all digC = false) → K t H) : c_strings_trimLeftASCII C s (some (b, 0)) K H := by
  apply ad_strings_trimLeftASCII
  unfold sh_strings_trimLeftASCII
  refine ⟨fun t H' => H = H' ∧ t.all digC = s.all digC ∧ (t = [] ∨ t.all digC = false), ?_, ?_⟩
  rotate_left
  · rintro t _ ⟨rfl, h1, h2⟩
    exact k t h1 h2
  refine ⟨fun t H' => H = H' ∧ t.length ≤ s.length ∧ t.all digC = s.all digC, fun t _ => t.length, ⟨rfl, Nat.le_refl _, rfl⟩, ?_⟩
  rintro t _ ⟨rfl, h1, h2⟩
  cases t with
  | nil => exact ift_neg rfl ⟨rfl, h2, .inl rfl⟩
  | cons c t =>
    refine ift_pos (by rw [decide_eq_true_eq]; simp only [List.length_cons]; omega) ?_
    refine ⟨c, by omega, rfl, ?_⟩
    refine contains_ok h ?_
    refine ift.of (fun hc => ⟨rfl, h2, .inr ?_⟩) (fun hc => ?_)
    · simp at hc; simp [hc]
    · refine ⟨by omega, by simp only [List.length_cons]; omega, by omega, t, ?_, ⟨rfl, by simp only [List.length_cons] at h1; omega, ?_⟩, by simp⟩
      · rw [List.take_of_length_le (by omega)]; rfl
      · rw [← h2]; simp at hc; simp [hc]

theorem makeDigits_ok {K : List Value → Bool → Heap → Prop} (k : K (setD setD0 digS) true H) : c_strings_makeASCIISet C digS K H := by
  apply c_strings_makeASCIISet.gh
  apply ad_strings_makeASCIISet
  unfold sh_strings_makeASCIISet
  intro b n
  refine ⟨fun x H' => ∃ i : Nat, x = (i : Int) ∧ i ≤ 10 ∧ H' = H.put b (.row (setD setD0 (digS.take i))), fun x _ => 10 - x.toNat, ⟨0, rfl, by omega, rfl⟩, ?_⟩
  rintro x _ ⟨i, rfl, hi, rfl⟩
  have hlen : (setD setD0 (digS.take i)).length = 256 := by rw [setD_len]; simp [setD0]
  refine ift.of (fun h => ?_) (fun h => ?_)
  · have hlt : i < digS.length := by have := of_decide_eq_true h; omega
    have hlt' : i < 10 := hlt
    refine ⟨digS[i], by omega, getE hlt, ?_⟩
    have hm : ∀ c ∈ digS, c.toNat < 128 := by decide
    have h128 := hm _ (List.getElem_mem hlt)
    have htk : digS.take (i + 1) = digS.take i ++ [digS[i]] := by rw [List.take_add_one, List.getElem?_eq_getElem hlt]; rfl
    generalize digS[i] = c at *
    refine ift_neg (by rw [decide_eq_false_iff_not]; omega) ?_
    refine ⟨by omega, by omega, _, Heap.put_same .., by rw [hlen]; simp; omega, ?_⟩
    rw [w_i64 (by omega) (by omega), Heap.put_put]
    refine ⟨⟨i + 1, by omega, by omega, ?_⟩, by first | omega | (dsimp only; omega)⟩
    rw [htk, setD_snoc]
    have : (b, 0).2 + (c.toNat : Int).toNat * 1 = c.toNat := by simp
    rw [this]
  · have hi10 : i = 10 := by have := of_decide_eq_false h; have : digS.length = 10 := rfl; omega
    subst hi10
    have e : digS.take 10 = digS := rfl
    rw [e] at hlen ⊢
    have hr : ∀ {B : Heap}, B b = some (true, .row (setD setD0 digS)) → rds B (b, 0) (setD setD0 digS) := fun h => rds_row h fun j v hj => by simpa using hj
    refine ⟨_, hlen, hr (Heap.put_same ..), hlen, setD_b _ _ (by decide +kernel), _, Heap.put_same .., by simp, ?_⟩
    have esp : splice (setD setD0 digS) (b, 0).2 (setD setD0 digS) = setD setD0 digS := by
      unfold splice; simp
    rw [esp, Heap.put_put]
    exact ⟨_, hlen, hr (Heap.put_same ..), H, Gh.le (Heap.le_put n), k⟩

theorem trimDig_ok {s : Str} {K : Str → Heap → Prop} (hs : s.length ≤ 140737488355328) (k : ∀ t, (t = [] ↔ s.all digC = true) → K t H) : c_strings_Trim C s digS K H := by
  apply c_strings_Trim.gh
  apply ad_strings_Trim
  unfold sh_strings_Trim
  refine ift.of (fun h => ?_) (fun h => ?_)
  · have : s = [] := by simpa [digS] using h
    subst this
    exact ⟨H, Gh.refl _, k [] (by simp)⟩
  refine ⟨fun b H' => H = H' ∧ b = false, ift_neg rfl ⟨rfl, rfl⟩, ?_⟩
  rintro _ _ ⟨rfl, rfl⟩
  refine ift_neg rfl ?_
  refine makeDigits_ok ?_
  intro b n
  have hlen : (setD setD0 digS).length = 256 := by rw [setD_len]; simp [setD0]
  refine ⟨hlen, setD_b _ _ (by decide +kernel), _, Heap.put_same .., by rw [hlen]; simp, ?_⟩
  have esp : splice (List.replicate 256 (.bool false : Value)) (b, 0).2 (setD setD0 digS) = setD setD0 digS := by
    unfold splice; simp [hlen]
  rw [esp, Heap.put_put]
  refine ift_pos rfl ?_
  refine trimR_ok hs (Heap.put_same ..) fun t ht1 ht2 => ?_
  refine trimL_ok (by omega) (Heap.put_same ..) fun u hu1 hu2 => ?_
  refine ⟨H, Gh.le (Heap.le_put n), k u ?_⟩
  rw [← ht2, ← hu1]
  constructor
  · rintro rfl; rfl
  · intro h
    rcases hu2 with h2 | h2
    · exact h2
    · rw [h] at h2; cases h2

theorem value_number_ok {s : Str} {K : Int → Bool → Heap → Prop} (hs : s.length ≤ 140737488355328) (k : K (if numS s then (digits s : Int) else 0) (numS s) H) : c_value_number C s K H := by
  apply ad_value_number
  unfold sh_value_number
  refine trimPrefix_ok ?_
  have e : (if ([45] : Str).isPrefixOf s then s.drop ([45] : Str).length else s) = unmin s := by
    unfold unmin
    cases s with
    | nil => rfl
    | cons c t =>
      by_cases hc : c = 45
      · subst hc; simp [List.isPrefixOf]
      · simp [List.isPrefixOf, hc, Ne.symm hc]
  rw [e]
  have hul : (unmin s).length ≤ s.length := by unfold unmin; split <;> simp
  have hdg : digits s = (unmin s).length := rfl
  have hnu : numS s = (!(unmin s).isEmpty && (unmin s).all digC && !(decide ((unmin s).head? = some 48) && decide (s ≠ [48]))) := rfl
  rw [hdg, hnu] at k
  clear hdg hnu e
  generalize unmin s = d at *
  refine ⟨fun b H' => H = H' ∧ b = !(!d.isEmpty && d.all digC), ?_, ?_⟩
  · refine ift.of (fun h => ⟨rfl, ?_⟩) (fun h => ?_)
    · have : d = [] := by simpa using h
      subst this; rfl
    · have hne : d ≠ [] := by simpa using h
      refine trimDig_ok (by omega) fun t ht => ⟨rfl, ?_⟩
      have he : d.isEmpty = false := by cases d with
        | nil => exact absurd rfl hne
        | cons _ _ => rfl
      rw [he]
      cases hd : d.all digC with
      | true => rw [ht.2 hd]; rfl
      | false =>
        have : t ≠ [] := fun e => by rw [ht.1 e] at hd; cases hd
        simpa using this
  rintro b _ ⟨rfl, rfl⟩
  refine ⟨fun b H' => H = H' ∧ b = !(!d.isEmpty && d.all digC && !(decide (d.head? = some 48) && decide (s ≠ [48]))), ?_, ?_⟩
  · refine ift.of (fun h => ⟨rfl, ?_⟩) (fun h => ?_)
    · simp only [Bool.not_eq_true'] at h
      rw [h]; rfl
    · simp only [Bool.not_eq_false'] at h
      rw [h]
      cases d with
      | nil => simp at h
      | cons c t =>
        refine ⟨c, by omega, rfl, rfl, ?_⟩
        rw [e48]
        simp only [List.head?_cons, Option.some.injEq, Bool.true_and, Bool.not_not]
        congr 1
        rw [decide_not]; congr 1
        rw [Bool.eq_iff_iff]; simp
  rintro b _ ⟨rfl, rfl⟩
  refine ift.of (fun h => ?_) (fun h => ?_)
  · simp only [Bool.not_eq_true'] at h
    rw [h] at k; exact k
  · simp only [Bool.not_eq_false'] at h
    rw [h] at k; exact k
end
end Sx
end

noncomputable section
set_option linter.unusedVariables false
set_option linter.unusedSimpArgs false
set_option maxRecDepth 10000
namespace Sx
open Go Go.Proofs
section
variable {C : Ctx} {H : Heap}
theorem sEmpty {s : Str} : (s == ([] : Str)) = s.isEmpty := by cases s <;> rfl
theorem lenZ {l : List V} {n : Nat} (h : n = l.length) (m : Nat) : ((n : Int) == (m : Int)) = decide (l.length = m) := by
  rw [Bool.eq_iff_iff]; simp only [beq_iff_eq, decide_eq_true_eq]; omega

theorem ref02_form_ok {v : V} {x : TV} {H : Heap} {K : Bool → Heap → Prop} (hv : VIs H v x) (hB : VB v) (k : K (formV v) H) : c_ref02_form C x K H := by
  refine V.rec_ (P := fun v => ∀ {x H} {K : Bool → Heap → Prop}, VIs H v x → VB v → K (formV v) H → c_ref02_form C x K H) (fun v ih => ?_) v hv hB k
  clear hv hB k
  intro x H K hv hB k
  apply c_ref02_form.gh
  apply ad_ref02_form
  unfold sh_ref02_form
  intro b1 n1
  have hr := hv.row
  have hl := hr.len
  have hbl := hB.l
  have hbs := hB.s
  have hk := hv.kind
  have hn := hv.num
  have ht := hv.txt
  have hb1 : (H.put b1 (.row (T_api_Value.c x))) b1 = some (true, .row (T_api_Value.c x)) := Heap.put_same ..
  have hle1 := Heap.le_put n1 (g := .row (T_api_Value.c x)) (m := true)
  generalize H.put b1 (.row (T_api_Value.c x)) = H1 at *
  refine ⟨fun b H' => H1 = H' ∧ b = okN v.k v.n v.s v.l.length, ?_, ?_⟩
  rotate_left
  · rintro b _ ⟨rfl, rfl⟩
    refine ⟨fun y H' => ∃ i : Nat, y.2 = (i : Int) ∧ i ≤ v.l.length ∧ H1 = H' ∧ (y.1 = true → okN v.k v.n v.s v.l.length = true ∧ formVs (v.l.take i) = true) ∧ (y.1 = false → formV v = false), fun y _ => v.l.length - y.2.toNat, ⟨0, rfl, Nat.zero_le _, rfl, fun h => ⟨h, rfl⟩, fun h => by dsimp only at h; rw [formV_eq, h]; rfl⟩, ?_⟩
    rintro ⟨f, y⟩ _ ⟨i, hy, hi, rfl, h1, h2⟩
    dsimp only at hy h1 h2
    subst hy
    refine bxL hb1 ?_
    rw [hl]
    refine ift.of (fun h => ?_) (fun h => ?_)
    · simp only [Bool.and_eq_true, decide_eq_true_eq] at h
      have hlt : i < v.l.length := by omega
      obtain ⟨h3, h4⟩ := h1 h.2
      have hmem := List.getElem_mem hlt
      refine bxL hb1 ?_
      refine hr.ld hle1 rfl hlt fun z hz => ?_
      refine ih _ hmem (hz.le hle1) (hB.at hlt) ?_
      dsimp only
      rw [w_i64 (by omega) (by omega)]
      refine ⟨⟨i + 1, by omega, by omega, rfl, fun hf => ⟨h3, ?_⟩, fun hf => ?_⟩, by first | omega | (dsimp only; omega)⟩
      · rw [formVs_take hlt, h4]; exact hf
      · rw [formV_eq, formVs_false hmem hf, Bool.and_false]
    · dsimp only
      refine ⟨H, Gh.le hle1, ?_⟩
      cases hf : f with
      | false => rw [h2 hf] at k; exact k
      | true =>
        rw [hf] at h
        simp only [Bool.and_true, decide_eq_false_iff_not] at h
        have hie : i = v.l.length := by omega
        subst hie
        obtain ⟨h3, h4⟩ := h1 hf
        rw [List.take_length] at h4
        rw [formV_eq, h3, h4] at k; exact k
  refine bxK hb1 ?_
  rw [hk]
  unfold okN
  refine ift.of (fun h => ?_) (fun h => ?_)
  · have h : v.k = 1 := by simpa using h
    rw [if_pos h]
    refine bxN hb1 ?_
    refine ⟨fun b H' => H1 = H' ∧ b = (v.n == 0 || v.n == 1), ?_, ?_⟩
    · rw [hn]
      refine ift.of (fun h => ⟨rfl, by rw [h]; rfl⟩) (fun h => ?_)
      refine bxN hb1 ⟨rfl, ?_⟩
      rw [h, hn]; rfl
    rintro _ _ ⟨rfl, rfl⟩
    refine ⟨fun b H' => H1 = H' ∧ b = ((v.n == 0 || v.n == 1) && v.s.isEmpty), ?_, ?_⟩
    · refine ift.of (fun h => ?_) (fun h => ⟨rfl, by rw [h]; rfl⟩)
      refine bxS hb1 ⟨rfl, ?_⟩
      rw [h, ht, sEmpty]; rfl
    rintro _ _ ⟨rfl, rfl⟩
    refine ⟨fun b H' => H1 = H' ∧ b = ((v.n == 0 || v.n == 1) && v.s.isEmpty && decide (v.l.length = 0)), ?_, ?_⟩
    · refine ift.of (fun h => ?_) (fun h => ⟨rfl, by rw [h]; rfl⟩)
      refine bxL hb1 ⟨rfl, ?_⟩
      rw [h]; exact lenZ hl 0
    rintro _ _ ⟨rfl, rfl⟩
    exact ⟨rfl, rfl⟩
  rw [if_neg (by simpa using h)]
  refine ift.of (fun h => ?_) (fun h => ?_)
  · have h : v.k = 2 := by simpa using h
    rw [if_pos h]
    refine bxS hb1 ?_
    refine ⟨fun b H' => H1 = H' ∧ b = (v.s.isEmpty && decide (v.l.length = 0)), ?_, ?_⟩
    · rw [ht, sEmpty]
      refine ift.of (fun h => ?_) (fun h => ⟨rfl, by rw [h]; rfl⟩)
      refine bxL hb1 ⟨rfl, ?_⟩
      rw [h]; exact lenZ hl 0
    rintro _ _ ⟨rfl, rfl⟩
    exact ⟨rfl, rfl⟩
  rw [if_neg (by simpa using h)]
  refine ift.of (fun h => ?_) (fun h => ?_)
  · have h : v.k = 3 := by simpa using h
    rw [if_pos h]
    refine bxN hb1 ?_
    refine ⟨fun b H' => H1 = H' ∧ b = (v.n == 0 && decide (v.l.length = 0)), ?_, ?_⟩
    · rw [hn]
      refine ift.of (fun h => ?_) (fun h => ⟨rfl, by rw [h]; rfl⟩)
      refine bxL hb1 ⟨rfl, ?_⟩
      rw [h]; exact lenZ hl 0
    rintro _ _ ⟨rfl, rfl⟩
    refine ⟨fun b H' => H1 = H' ∧ b = (numS v.s && v.n == 0 && decide (v.l.length = 0)), ?_, ?_⟩
    · refine ift.of (fun h => ?_) (fun h => ⟨rfl, ?_⟩)
      · refine bxS hb1 ?_
        rw [ht]
        refine ref02_Number_ok hbs ⟨rfl, ?_⟩
        rw [Bool.and_assoc, h, Bool.and_true]
      · rw [Bool.and_assoc, h, Bool.and_false]
    rintro _ _ ⟨rfl, rfl⟩
    exact ⟨rfl, rfl⟩
  rw [if_neg (by simpa using h)]
  refine ift.of (fun h => ?_) (fun h => ?_)
  · have h : v.k = 4 := by simpa using h
    rw [if_pos h]
    refine bxN hb1 ?_
    refine ⟨fun b H' => H1 = H' ∧ b = (v.n == 0 && decide (v.l.length = 0)), ?_, ?_⟩
    · rw [hn]
      refine ift.of (fun h => ?_) (fun h => ⟨rfl, by rw [h]; rfl⟩)
      refine bxL hb1 ⟨rfl, ?_⟩
      rw [h]; exact lenZ hl 0
    rintro _ _ ⟨rfl, rfl⟩
    exact ⟨rfl, rfl⟩
  rw [if_neg (by simpa using h)]
  refine ift.of (fun h => ?_) (fun h => ?_)
  · have h : v.k = 5 := by simpa using h
    rw [if_pos h]
    refine bxN hb1 ?_
    refine ⟨fun b H' => H1 = H' ∧ b = (v.n == 0 && v.s.isEmpty), ?_, ?_⟩
    · rw [hn]
      refine ift.of (fun h => ?_) (fun h => ⟨rfl, by rw [h]; rfl⟩)
      refine bxS hb1 ⟨rfl, ?_⟩
      rw [h, ht, sEmpty]; rfl
    rintro _ _ ⟨rfl, rfl⟩
    refine ⟨fun b H' => H1 = H' ∧ b = (v.n == 0 && v.s.isEmpty && decide (v.l.length ≠ 1)), ?_, ?_⟩
    · refine ift.of (fun h => ?_) (fun h => ⟨rfl, by rw [h]; rfl⟩)
      refine bxL hb1 ⟨rfl, ?_⟩
      rw [h, bne, show ((x.L.len : Int) == 1) = decide (v.l.length = 1) from lenZ hl 1, decide_not]; rfl
    rintro _ _ ⟨rfl, rfl⟩
    exact ⟨rfl, rfl⟩
  rw [if_neg (by simpa using h)]
  refine ift.of (fun h => ?_) (fun h => ?_)
  · have h : v.k = 6 := by simpa using h
    rw [if_pos h]
    refine bxN hb1 ?_
    refine ⟨fun b H' => H1 = H' ∧ b = (v.n == 0 && namesS v.s), ?_, ?_⟩
    · rw [hn]
      refine ift.of (fun h => ?_) (fun h => ⟨rfl, by rw [h]; rfl⟩)
      refine bxS hb1 ?_
      rw [ht]
      refine ref02_Names_ok hbs ⟨rfl, ?_⟩
      rw [h]; rfl
    rintro _ _ ⟨rfl, rfl⟩
    exact ⟨rfl, rfl⟩
  rw [if_neg (by simpa using h)]
  exact ⟨rfl, rfl⟩

theorem okN_num {k n : Int} {s : Str} {m : Nat} (h : okN k n s m = true) (hk : k = 3) : numS s = true := by
  unfold okN at h
  rw [if_neg (by omega), if_neg (by omega), if_pos hk] at h
  simp only [Bool.and_eq_true] at h
  exact h.1.1

theorem ref02_fits_ok {v : V} {x : TV} {H : Heap} {K : Bool → Heap → Prop} (hv : VIs H v x) (hB : VB v) (hF : formV v = true) (k : K (fitsV v) H) : c_ref02_fits C x K H := by
  refine V.rec_ (P := fun v => ∀ {x H} {K : Bool → Heap → Prop}, VIs H v x → VB v → formV v = true → K (fitsV v) H → c_ref02_fits C x K H) (fun v ih => ?_) v hv hB hF k
  clear hv hB hF k
  intro x H K hv hB hF k
  apply c_ref02_fits.gh
  apply ad_ref02_fits
  unfold sh_ref02_fits
  intro b1 n1
  have hr := hv.row
  have hl := hr.len
  have hbl := hB.l
  have hbs := hB.s
  have hk := hv.kind
  have hn := hv.num
  have ht := hv.txt
  rw [formV_eq, Bool.and_eq_true] at hF
  have hb1 : (H.put b1 (.row (T_api_Value.c x))) b1 = some (true, .row (T_api_Value.c x)) := Heap.put_same ..
  have hle1 := Heap.le_put n1 (g := .row (T_api_Value.c x)) (m := true)
  generalize H.put b1 (.row (T_api_Value.c x)) = H1 at *
  refine ⟨fun b H' => H1 = H' ∧ b = fitN v.k v.s v.l.length, ?_, ?_⟩
  rotate_left
  · rintro b _ ⟨rfl, rfl⟩
    refine ⟨fun y H' => ∃ i : Nat, y.2 = (i : Int) ∧ i ≤ v.l.length ∧ H1 = H' ∧ (y.1 = true → fitN v.k v.s v.l.length = true ∧ fitsVs (v.l.take i) = true) ∧ (y.1 = false → fitsV v = false), fun y _ => v.l.length - y.2.toNat, ⟨0, rfl, Nat.zero_le _, rfl, fun h => ⟨h, rfl⟩, fun h => by dsimp only at h; rw [fitsV_eq, h]; rfl⟩, ?_⟩
    rintro ⟨f, y⟩ _ ⟨i, hy, hi, rfl, h1, h2⟩
    dsimp only at hy h1 h2
    subst hy
    refine bxL hb1 ?_
    rw [hl]
    refine ift.of (fun h => ?_) (fun h => ?_)
    · simp only [Bool.and_eq_true, decide_eq_true_eq] at h
      have hlt : i < v.l.length := by omega
      obtain ⟨h3, h4⟩ := h1 h.2
      have hmem := List.getElem_mem hlt
      refine bxL hb1 ?_
      refine hr.ld hle1 rfl hlt fun z hz => ?_
      refine ih _ hmem (hz.le hle1) (hB.at hlt) (formVs_mem hmem hF.2) ?_
      dsimp only
      rw [w_i64 (by omega) (by omega)]
      refine ⟨⟨i + 1, by omega, by omega, rfl, fun hf => ⟨h3, ?_⟩, fun hf => ?_⟩, by first | omega | (dsimp only; omega)⟩
      · rw [fitsVs_take hlt, h4]; exact hf
      · have h5 : fitsVs (v.l.take (i + 1)) = false := by rw [fitsVs_take hlt]; rw [hf, Bool.and_false]
        have h6 := fitsVs_append (v.l.take (i + 1)) (v.l.drop (i + 1))
        rw [List.take_append_drop, h5] at h6
        rw [fitsV_eq, h6]; simp
    · dsimp only
      refine ⟨H, Gh.le hle1, ?_⟩
      cases hf : f with
      | false => rw [h2 hf] at k; exact k
      | true =>
        rw [hf] at h
        simp only [Bool.and_true, decide_eq_false_iff_not] at h
        have hie : i = v.l.length := by omega
        subst hie
        obtain ⟨h3, h4⟩ := h1 hf
        rw [List.take_length] at h4
        rw [fitsV_eq, h3, h4] at k; exact k
  refine bxK hb1 ?_
  rw [hk]
  unfold fitN
  refine ift.of (fun h => ?_) (fun h => ?_)
  · have h : v.k = 3 := by simpa using h
    rw [if_pos h]
    refine bxS hb1 ?_
    rw [ht]
    refine ref02_Digits_ok hbs (okN_num hF.1 h) ⟨rfl, ?_⟩
    rw [decide_eq_decide]; omega
  rw [if_neg (by simpa using h)]
  refine ift.of (fun h => ?_) (fun h => ?_)
  · have h : v.k = 4 := by simpa using h
    rw [if_pos h]
    refine bxS hb1 ⟨rfl, ?_⟩
    rw [ht, decide_eq_decide]; omega
  rw [if_neg (by simpa using h)]
  refine ift.of (fun h => ?_) (fun h => ?_)
  · have h : v.k = 5 := by simpa using h
    rw [if_pos h]
    refine bxL hb1 ⟨rfl, ?_⟩
    rw [decide_eq_decide]; omega
  rw [if_neg (by simpa using h)]
  refine ift.of (fun h => ?_) (fun h => ?_)
  · have h : v.k = 6 := by simpa using h
    rw [if_pos h]
    refine bxL hb1 ⟨rfl, ?_⟩
    rw [decide_eq_decide]; omega
  rw [if_neg (by simpa using h)]
  exact ⟨rfl, rfl⟩

theorem ref02_Check_ok {v : V} {x : TV} {H : Heap} {K : Int → Heap → Prop} (hv : VIs H v x) (hB : VB v) (hs : vsize v ≤ 4611686018427387904) (k : K (checkV v) H) : c_ref02_Check C x K H := by
  apply c_ref02_Check.gh
  apply ad_ref02_Check
  unfold sh_ref02_Check
  intro b1 n1
  have hb1 : (H.put b1 (.row (T_api_Value.c x))) b1 = some (true, .row (T_api_Value.c x)) := Heap.put_same ..
  have hle1 := Heap.le_put n1 (g := .row (T_api_Value.c x)) (m := true)
  generalize H.put b1 (.row (T_api_Value.c x)) = H1 at *
  unfold checkV at k
  refine bxV hb1 (ref02_Depth_ok (hv.le hle1) hB hs ?_)
  refine ift.of (fun h => ?_) (fun h => ?_)
  · have h := of_decide_eq_true h
    rw [if_pos (by omega)] at k
    exact ⟨H, Gh.le hle1, k⟩
  have h := of_decide_eq_false h
  rw [if_neg (by omega)] at k
  refine bxV hb1 (ref02_form_ok (hv.le hle1) hB ?_)
  refine ift.of (fun h => ?_) (fun h => ?_)
  · have h : formV v = false := by simpa using h
    rw [if_pos h] at k
    exact ⟨H, Gh.le hle1, k⟩
  have hf : formV v = true := by simpa using h
  rw [if_neg (by rw [hf]; decide)] at k
  refine bxV hb1 (ref02_fits_ok (hv.le hle1) hB hf ?_)
  refine ift.of (fun h => ?_) (fun h => ?_)
  · have h : fitsV v = false := by simpa using h
    rw [if_pos h] at k
    exact ⟨H, Gh.le hle1, k⟩
  have hf : fitsV v = true := by simpa using h
  rw [if_neg (by rw [hf]; decide)] at k
  exact ⟨H, Gh.le hle1, k⟩
end
end Sx
end

noncomputable section
set_option linter.unusedVariables false
set_option linter.unusedSimpArgs false
set_option maxRecDepth 10000
namespace Sx
open Go Go.Proofs
theorem names_cut (s : Str) : namesS s = (match cutD s with | some (a, b) => nameS a && nameS b | none => nameS s && !decide (s = trueS) && !decide (s = falseS)) := by
  unfold namesS
  by_cases ht : s = trueS
  · subst ht; rfl
  by_cases hf : s = falseS
  · subst hf; rfl
  rw [if_neg (fun h => h.elim ht hf)]
  cases hc : cutD s with
  | none => simp [ht, hf]
  | some p => rfl

section
variable {C : Ctx} {H : Heap}
theorem look_ok {v : V} {x : TV} {H : Heap} {K : Bool → Bool → Heap → Prop} (hv : VIs H v x) (hB : VB v) (k : ∀ g, (formV v = true → g = fitsV v) → K (formV v) g H) : c_value_item_look C x K H := by
  refine V.rec_ (P := fun v => ∀ {x H} {K : Bool → Bool → Heap → Prop}, VIs H v x → VB v → (∀ g, (formV v = true → g = fitsV v) → K (formV v) g H) → c_value_item_look C x K H) (fun v ih => ?_) v hv hB k
  clear hv hB k
  intro x H K hv hB k
  apply c_value_item_look.gh
  apply ad_value_item_look
  unfold sh_value_item_look
  intro b1 n1
  have hr := hv.row
  have hl := hr.len
  have hbl := hB.l
  have hbs := hB.s
  have hk := hv.kind
  have hn := hv.num
  have ht := hv.txt
  have hb1 : (H.put b1 (.row (T_api_Value.c x))) b1 = some (true, .row (T_api_Value.c x)) := Heap.put_same ..
  have hle1 := Heap.le_put n1 (g := .row (T_api_Value.c x)) (m := true)
  generalize H.put b1 (.row (T_api_Value.c x)) = H1 at *
  refine bxN hb1 ?_
  refine ⟨fun b H' => H1 = H', ?_, ?_⟩
  · exact ift.of (fun _ => bxS hb1 rfl) (fun _ => rfl)
  rintro _ _ rfl
  refine ⟨fun b H' => H1 = H', ?_, ?_⟩
  · exact ift.of (fun _ => bxL hb1 rfl) (fun _ => rfl)
  rintro _ _ rfl
  refine ⟨fun b H' => H1 = H' ∧ b.1 = okN v.k v.n v.s v.l.length ∧ (b.1 = true → b.2 = fitN v.k v.s v.l.length), ?_, ?_⟩
  rotate_left
  · rintro ⟨o, g⟩ _ ⟨rfl, ho, hg⟩
    dsimp only at ho hg ⊢
    subst ho
    refine bxL hb1 ?_
    refine ⟨fun y H' => ∃ i : Nat, y.2.2 = (i : Int) ∧ i ≤ v.l.length ∧ H.le H' ∧ y.1 = (okN v.k v.n v.s v.l.length && formVs (v.l.take i)) ∧ (y.1 = true → y.2.1 = (fitN v.k v.s v.l.length && fitsVs (v.l.take i))), fun y _ => v.l.length - y.2.2.toNat, ⟨0, rfl, Nat.zero_le _, hle1, by simp [formVs], fun h => by simp [fitsVs, hg h]⟩, ?_⟩
    rintro ⟨f, g', y⟩ H2 ⟨i, hy, hi, hle, h1, h2⟩
    dsimp only at hy h1 h2
    subst hy
    dsimp only
    rw [hl]
    refine ift.of (fun h => ?_) (fun h => ?_)
    · have hlt : i < v.l.length := by have := of_decide_eq_true h; omega
      have hmem := List.getElem_mem hlt
      refine hr.ld hle rfl hlt fun z hz => ?_
      intro b20 n20
      refine ⟨_, Heap.put_same .., by simp [T_api_Value.c], ?_⟩
      rw [Heap.put_put]
      have esp : splice (T_api_Value.c T_api_Value.zero) (b20, 0).2 (T_api_Value.c z) = T_api_Value.c z := rfl
      rw [esp]
      have hle2 := hle.trans (Heap.le_put n20 (g := .row (T_api_Value.c z)) (m := true))
      refine bxV (Heap.put_same ..) ?_
      refine ih _ hmem (hz.le hle2) (hB.at hlt) fun q hq => ?_
      rw [w_i64 (by omega) (by omega)]
      refine ⟨⟨i + 1, by omega, by omega, hle2, ?_, fun hh => ?_⟩, by first | omega | (dsimp only; omega)⟩
      · rw [h1, formVs_take hlt, Bool.and_assoc]
      · rw [Bool.and_eq_true] at hh
        rw [h2 hh.1, fitsVs_take hlt, hq hh.2, Bool.and_assoc]
    · have hie : i = v.l.length := by have := of_decide_eq_false h; omega
      subst hie
      rw [List.take_length] at h1 h2
      rw [← formV_eq] at h1
      rw [← fitsV_eq] at h2
      refine ⟨H, Gh.le hle, ?_⟩
      rw [h1] at h2 ⊢
      exact k g' h2
  refine bxK hb1 ?_
  rw [hk]
  refine ift.of (fun h => ?_) (fun h => ?_)
  · have h : v.k = 1 := by simpa using h
    have eo : okN v.k v.n v.s v.l.length = ((v.n == 0 || v.n == 1) && v.s.isEmpty && decide (v.l.length = 0)) := by rw [h]; rfl
    have ef : fitN v.k v.s v.l.length = true := by rw [h]; rfl
    rw [eo, ef]
    refine bxN hb1 ?_
    refine ⟨fun b H' => H1 = H' ∧ b = (v.n == 0 || v.n == 1), ?_, ?_⟩
    · rw [hn]
      refine ift.of (fun h => ⟨rfl, by rw [h]; rfl⟩) (fun h => ?_)
      refine bxN hb1 ⟨rfl, ?_⟩
      rw [h, hn]; rfl
    rintro _ _ ⟨rfl, rfl⟩
    refine ⟨fun b H' => H1 = H' ∧ b = ((v.n == 0 || v.n == 1) && v.s.isEmpty), ?_, ?_⟩
    · refine ift.of (fun h => ?_) (fun h => ⟨rfl, by rw [h]; rfl⟩)
      refine bxS hb1 ⟨rfl, ?_⟩
      rw [h, ht, sEmpty]; rfl
    rintro _ _ ⟨rfl, rfl⟩
    refine ⟨fun b H' => H1 = H' ∧ b = ((v.n == 0 || v.n == 1) && v.s.isEmpty && decide (v.l.length = 0)), ?_, ?_⟩
    · refine ift.of (fun h => ?_) (fun h => ⟨rfl, by rw [h]; rfl⟩)
      refine bxL hb1 ⟨rfl, ?_⟩
      rw [h]; exact lenZ hl 0
    rintro _ _ ⟨rfl, rfl⟩
    exact ⟨rfl, rfl, fun _ => rfl⟩
  have g1 : v.k ≠ 1 := by simpa using h
  refine ift.of (fun h => ?_) (fun h => ?_)
  · have h : v.k = 2 := by simpa using h
    have eo : okN v.k v.n v.s v.l.length = (v.s.isEmpty && decide (v.l.length = 0)) := by rw [h]; rfl
    have ef : fitN v.k v.s v.l.length = true := by rw [h]; rfl
    rw [eo, ef]
    refine bxS hb1 ?_
    refine ⟨fun b H' => H1 = H' ∧ b = (v.s.isEmpty && decide (v.l.length = 0)), ?_, ?_⟩
    · rw [ht, sEmpty]
      refine ift.of (fun h => ?_) (fun h => ⟨rfl, by rw [h]; rfl⟩)
      refine bxL hb1 ⟨rfl, ?_⟩
      rw [h]; exact lenZ hl 0
    rintro _ _ ⟨rfl, rfl⟩
    exact ⟨rfl, rfl, fun _ => rfl⟩
  have g2 : v.k ≠ 2 := by simpa using h
  refine ift.of (fun h => ?_) (fun h => ?_)
  · have h : v.k = 3 := by simpa using h
    have eo : okN v.k v.n v.s v.l.length = (numS v.s && v.n == 0 && decide (v.l.length = 0)) := by rw [h]; rfl
    have ef : fitN v.k v.s v.l.length = decide (digits v.s ≤ 200) := by rw [h]; rfl
    rw [eo, ef]
    refine bxS hb1 ?_
    rw [ht]
    refine value_number_ok hbs ?_
    refine ⟨fun b H' => H1 = H' ∧ b = (numS v.s && v.n == 0), ?_, ?_⟩
    · refine ift.of (fun h => ?_) (fun h => ⟨rfl, by rw [h]; rfl⟩)
      refine bxN hb1 ⟨rfl, ?_⟩
      rw [h, hn]; rfl
    rintro _ _ ⟨rfl, rfl⟩
    refine ⟨fun b H' => H1 = H' ∧ b = (numS v.s && v.n == 0 && decide (v.l.length = 0)), ?_, ?_⟩
    · refine ift.of (fun h => ?_) (fun h => ⟨rfl, by rw [h]; rfl⟩)
      refine bxL hb1 ⟨rfl, ?_⟩
      rw [h]; exact lenZ hl 0
    rintro _ _ ⟨rfl, rfl⟩
    refine ⟨rfl, rfl, fun hh => ?_⟩
    dsimp only at hh ⊢
    simp only [Bool.and_eq_true] at hh
    rw [hh.1.1, if_pos rfl, decide_eq_decide]; omega
  have g3 : v.k ≠ 3 := by simpa using h
  refine ift.of (fun h => ?_) (fun h => ?_)
  · have h : v.k = 4 := by simpa using h
    have eo : okN v.k v.n v.s v.l.length = (v.n == 0 && decide (v.l.length = 0)) := by rw [h]; rfl
    have ef : fitN v.k v.s v.l.length = decide (v.s.length ≤ 4096) := by rw [h]; rfl
    rw [eo, ef]
    have ed : decide ((v.s.length : Int) ≤ 4096) = decide (v.s.length ≤ 4096) := by rw [decide_eq_decide]; omega
    refine ⟨fun b H' => H1 = H' ∧ b = ((v.n == 0 && decide (v.l.length = 0)), decide (v.s.length ≤ 4096)), ?_, ?_⟩
    · refine ⟨H1, Heap.le.refl _, bxN hb1 (bxS hb1 ?_)⟩
      rw [hn, ht, ed]
      refine ift.of (fun h => ?_) (fun h => ⟨rfl, by rw [h]; rfl⟩)
      refine bxL hb1 ⟨rfl, ?_⟩
      rw [h, show ((x.L.len : Int) == 0) = decide (v.l.length = 0) from lenZ hl 0]; rfl
    rintro _ _ ⟨rfl, rfl⟩
    exact ⟨rfl, rfl, fun _ => rfl⟩
  have g4 : v.k ≠ 4 := by simpa using h
  refine ift.of (fun h => ?_) (fun h => ?_)
  · have h : v.k = 5 := by simpa using h
    have eo : okN v.k v.n v.s v.l.length = (v.n == 0 && v.s.isEmpty && decide (v.l.length ≠ 1)) := by rw [h]; rfl
    have ef : fitN v.k v.s v.l.length = decide (v.l.length ≤ 16) := by rw [h]; rfl
    rw [eo, ef]
    have ed : decide ((x.L.len : Int) ≤ 16) = decide (v.l.length ≤ 16) := by rw [decide_eq_decide]; omega
    refine ⟨fun b H' => H1 = H' ∧ b = ((v.n == 0 && v.s.isEmpty && decide (v.l.length ≠ 1)), decide (v.l.length ≤ 16)), ?_, ?_⟩
    · refine ⟨H1, Heap.le.refl _, bxN hb1 (bxL hb1 ?_)⟩
      rw [hn, ed]
      refine ift.of (fun h => ?_) (fun h => ⟨rfl, by rw [h]; rfl⟩)
      refine bxS hb1 ?_
      rw [ht, sEmpty]
      refine ift.of (fun h2 => ?_) (fun h2 => ⟨rfl, by rw [h2]; simp⟩)
      refine bxL hb1 ⟨rfl, ?_⟩
      rw [h, h2, bne, show ((x.L.len : Int) == 1) = decide (v.l.length = 1) from lenZ hl 1, decide_not]; rfl
    rintro _ _ ⟨rfl, rfl⟩
    exact ⟨rfl, rfl, fun _ => rfl⟩
  have g5 : v.k ≠ 5 := by simpa using h
  refine ift.of (fun h => ?_) (fun h => ?_)
  · have h : v.k = 6 := by simpa using h
    have eo : okN v.k v.n v.s v.l.length = (v.n == 0 && namesS v.s) := by rw [h]; rfl
    have ef : fitN v.k v.s v.l.length = decide (v.l.length ≤ 8) := by rw [h]; rfl
    rw [eo, ef]
    have ed : decide ((x.L.len : Int) ≤ 8) = decide (v.l.length ≤ 8) := by rw [decide_eq_decide]; omega
    refine bxS hb1 ?_
    rw [ht]
    refine cutDot_ok hbs ?_
    have key : ∀ (a b : Str) (two : Bool), a.length ≤ 140737488355328 → b.length ≤ 140737488355328 → namesS v.s = (if two then nameS a && nameS b else nameS a && !decide (v.s = trueS) && !decide (v.s = falseS)) →
        jn (α := Bool × Bool) (fun x118 H119 => H1 = H119 ∧ x118.1 = (v.n == 0 && namesS v.s) ∧ (x118.1 = true → x118.2 = decide (v.l.length ≤ 8)))
          (fun J117 => dr H1 fun Hs121 =>
          ldI Hs121 .i64 ((b1, 0).1, (b1, 0).2 + 1) fun x123 =>
          ldL Hs121 ((b1, 0).1, (b1, 0).2 + 3) fun x125 =>
          ift ((x123 : Int) == 0)
          (c_value_name C a (fun r129 H130 =>
          Heap.le Hs121 H130 ∧
          ift r129
          (ift two
          (c_value_name C b (fun r134 H135 =>
          Heap.le Hs121 H135 ∧
          ift r134
          (J117 (true, (decide (((Sl.len x125 : Int) : Int) ≤ 8))) H135)
          (ift (!two)
          (ldS Hs121 ((b1, 0).1, (b1, 0).2 + 2) fun x138 =>
          ift (!(x138 == ([116, 114, 117, 101] : Str)))
          (ldS Hs121 ((b1, 0).1, (b1, 0).2 + 2) fun x141 =>
          J117 ((!(x141 == ([102, 97, 108, 115, 101] : Str))), (decide (((Sl.len x125 : Int) : Int) ≤ 8))) H135)
          (J117 (false, (decide (((Sl.len x125 : Int) : Int) ≤ 8))) H135))
          (J117 (false, (decide (((Sl.len x125 : Int) : Int) ≤ 8))) H135))) H130)
          (ift (!two)
          (ldS Hs121 ((b1, 0).1, (b1, 0).2 + 2) fun x144 =>
          ift (!(x144 == ([116, 114, 117, 101] : Str)))
          (ldS Hs121 ((b1, 0).1, (b1, 0).2 + 2) fun x147 =>
          J117 ((!(x147 == ([102, 97, 108, 115, 101] : Str))), (decide (((Sl.len x125 : Int) : Int) ≤ 8))) H130)
          (J117 (false, (decide (((Sl.len x125 : Int) : Int) ≤ 8))) H130))
          (J117 (false, (decide (((Sl.len x125 : Int) : Int) ≤ 8))) H130)))
          (J117 (false, (decide (((Sl.len x125 : Int) : Int) ≤ 8))) H130)) H1)
          (J117 (false, (decide (((Sl.len x125 : Int) : Int) ≤ 8))) H1)) := by
      intro a b two ha hb hns
      refine ⟨fun y H' => H1 = H' ∧ y = ((v.n == 0 && namesS v.s), decide (v.l.length ≤ 8)), ?_, ?_⟩
      · refine ⟨H1, Heap.le.refl _, bxN hb1 (bxL hb1 ?_)⟩
        rw [hn, ed]
        refine ift.of (fun h => ?_) (fun h => ⟨rfl, by rw [h]; rfl⟩)
        refine value_name_ok ha ⟨Heap.le.refl _, ?_⟩
        rw [h, hns]
        refine ift.of (fun h2 => ?_) (fun h2 => ⟨rfl, by rw [h2]; cases two <;> rfl⟩)
        rw [h2]
        have eq : ∀ t : Str, (v.s == t) = decide (v.s = t) := fun t => by rw [Bool.eq_iff_iff]; simp
        cases two with
        | true =>
          refine ift_pos rfl ?_
          refine value_name_ok hb ⟨Heap.le.refl _, ?_⟩
          exact ift.of (fun h3 => ⟨rfl, by rw [h3]; rfl⟩) (fun h3 => ift_neg rfl ⟨rfl, by rw [h3]; rfl⟩)
        | false =>
          refine ift_neg rfl (ift_pos rfl ?_)
          refine bxS hb1 ?_
          rw [ht, show (v.s == ([116, 114, 117, 101] : Str)) = decide (v.s = trueS) from eq _]
          refine ift.of (fun h3 => ?_) (fun h3 => ⟨rfl, ?_⟩)
          · refine bxS hb1 ⟨rfl, ?_⟩
            rw [ht, show (v.s == ([102, 97, 108, 115, 101] : Str)) = decide (v.s = falseS) from eq _, h3]; rfl
          · rw [h3]; rfl
      · rintro _ _ ⟨rfl, rfl⟩
        exact ⟨rfl, rfl, fun _ => rfl⟩
    have hc := names_cut v.s
    cases hcd : cutD v.s with
    | none =>
      rw [hcd] at hc
      exact key _ _ _ hbs (by simp) hc
    | some p =>
      obtain ⟨a, b⟩ := p
      rw [hcd] at hc
      have hlen : a.length ≤ v.s.length ∧ b.length ≤ v.s.length := by
        by_cases hm : (46 : UInt8) ∈ v.s
        · obtain ⟨a', b', e1, e2⟩ := cutD_mem _ hm
          have := cutD_at a' b' e2
          rw [← e1, hcd] at this
          injection this with this; injection this with h1 h2
          subst h1; subst h2
          rw [e1]; simp; omega
        · rw [cutD_no _ hm] at hcd; cases hcd
      exact key _ _ _ (by omega) (by omega) hc
  have g6 : v.k ≠ 6 := by simpa using h
  have eo : okN v.k v.n v.s v.l.length = false := by unfold okN; rw [if_neg g1, if_neg g2, if_neg g3, if_neg g4, if_neg g5, if_neg g6]
  rw [eo]
  exact ⟨rfl, rfl, fun hh => by cases hh⟩

theorem value_Check_ok {v : V} {x : TV} {H : Heap} {K : Int → Heap → Prop} (hv : VIs H v x) (hB : VB v) (k : K (checkV v) H) : c_value_Check C x K H := by
  apply c_value_Check.gh
  apply ad_value_Check
  unfold sh_value_Check
  intro b1 n1
  have hb1 : (H.put b1 (.row (T_api_Value.c x))) b1 = some (true, .row (T_api_Value.c x)) := Heap.put_same ..
  have hle1 := Heap.le_put n1 (g := .row (T_api_Value.c x)) (m := true)
  generalize H.put b1 (.row (T_api_Value.c x)) = H1 at *
  unfold checkV at k
  refine bxV hb1 (value_depth_ok (m := 65) (hv.le hle1) hB (by omega) fun r h0 h1 h2 => ?_)
  refine ift.of (fun h => ?_) (fun h => ?_)
  · have h := of_decide_eq_true h
    rw [if_pos (by omega)] at k
    exact ⟨H, Gh.le hle1, k⟩
  have h := of_decide_eq_false h
  rw [if_neg (by omega)] at k
  refine bxV hb1 (look_ok (hv.le hle1) hB fun g hg => ?_)
  refine ift.of (fun h => ?_) (fun h => ?_)
  · have h : formV v = false := by simpa using h
    rw [if_pos h] at k
    exact ⟨H, Gh.le hle1, k⟩
  have hf : formV v = true := by simpa using h
  rw [if_neg (by rw [hf]; decide)] at k
  rw [hg hf]
  refine ift.of (fun h => ?_) (fun h => ?_)
  · have h : fitsV v = false := by simpa using h
    rw [if_pos h] at k
    exact ⟨H, Gh.le hle1, k⟩
  have hf : fitsV v = true := by simpa using h
  rw [if_neg (by rw [hf]; decide)] at k
  exact ⟨H, Gh.le hle1, k⟩
end
end Sx
end

noncomputable section
set_option linter.unusedVariables false
set_option linter.unusedSimpArgs false
set_option maxRecDepth 10000
namespace Sx
open Go Go.Proofs
theorem vcmpS_nil_l (t : Str) : vcmpS [] t = sgn 0 t.length := by
  cases t with
  | nil => rfl
  | cons c t => unfold vcmpS sgn; rw [if_pos (by simp <;> omega)]
theorem vcmpS_nil_r (t : Str) : vcmpS t [] = sgn t.length 0 := by
  cases t with
  | nil => rfl
  | cons c t => unfold vcmpS sgn; rw [if_neg (by simp <;> omega), if_pos (by simp <;> omega)]
theorem sgn_add (a b : Int) (i : Int) : sgn (a + i) (b + i) = sgn a b := by
  unfold sgn
  by_cases h : a < b
  · rw [if_pos h, if_pos (by omega)]
  · rw [if_neg h, if_neg (by omega)]
    by_cases h2 : b < a
    · rw [if_pos h2, if_pos (by omega)]
    · rw [if_neg h2, if_neg (by omega)]
theorem cmpVs_nil_l (t : List V) : cmpVs [] t = sgn 0 t.length := by
  cases t with
  | nil => simp [cmpVs, sgn]
  | cons c t => simp only [cmpVs]; unfold sgn; rw [if_pos (by simp <;> omega)]
theorem cmpVs_nil_r (t : List V) : cmpVs t [] = sgn t.length 0 := by
  cases t with
  | nil => simp [cmpVs, sgn]
  | cons c t => simp only [cmpVs]; unfold sgn; rw [if_neg (by simp <;> omega), if_pos (by simp <;> omega)]
theorem numS_isMin {s : Str} (h : numS s = true) (hm : isMin s = true) : isMin s.tail = false ∧ s.tail ≠ [] := by
  cases s with
  | nil => simp [isMin] at hm
  | cons c t =>
    have hc : c = 45 := by simpa [isMin] using hm
    subst hc
    cases t with
    | nil => simp [numS, unmin] at h
    | cons d u =>
      refine ⟨?_, by simp⟩
      simp only [numS, unmin, List.head?_cons, if_true, List.tail_cons, Bool.and_eq_true, List.all_cons] at h
      have hd := h.1.2.1
      unfold isMin
      simp only [List.tail_cons, List.head?_cons, Option.some.injEq, decide_eq_false_iff_not]
      rintro rfl
      simp [digC] at hd
theorem cmpB_no {a b : Str} (ha : isMin a = false) (hb : isMin b = false) : cmpB a b = cmpD a b := by unfold cmpB; rw [ha, hb]; rfl
theorem numS_ne {s : Str} (h : numS s = true) : s ≠ [] := fun e => by subst e; simp [numS, unmin] at h

section
variable {C : Ctx} {H : Heap}
theorem ints_ok {a b : Int} {K : Int → Heap → Prop} (k : K (sgn a b) H) : c_ref02_ints C a b K H := by
  apply ad_ref02_ints
  unfold sh_ref02_ints
  unfold sgn at k
  refine ift.of (fun h => ?_) (fun h => ?_)
  · rw [if_pos (of_decide_eq_true h)] at k; exact k
  rw [if_neg (of_decide_eq_false h)] at k
  refine ift.of (fun h => ?_) (fun h => ?_)
  · rw [if_pos (of_decide_eq_true h)] at k; exact k
  · rw [if_neg (of_decide_eq_false h)] at k; exact k

theorem texts_ok {a b : Str} {K : Int → Heap → Prop} (ha : a.length ≤ 140737488355328) (hb : b.length ≤ 140737488355328) (k : K (vcmpS a b) H) : c_ref02_texts C a b K H := by
  apply ad_ref02_texts
  unfold sh_ref02_texts
  refine ⟨fun x H' => ∃ i : Nat, x = (i : Int) ∧ i ≤ a.length ∧ i ≤ b.length ∧ H = H' ∧ vcmpS a b = vcmpS (a.drop i) (b.drop i), fun x _ => a.length - x.toNat, ⟨0, rfl, Nat.zero_le _, Nat.zero_le _, rfl, rfl⟩, ?_⟩
  rintro x _ ⟨i, rfl, hi, hi2, rfl, hc⟩
  refine ift.of (fun h => ?_) (fun h => ?_)
  · simp only [Bool.and_eq_true, decide_eq_true_eq] at h
    have h1 : i < a.length := by omega
    have h2 : i < b.length := by omega
    rw [List.drop_eq_getElem_cons h1, List.drop_eq_getElem_cons h2] at hc
    have g1 := getE h1
    have g2 := getE h2
    generalize a[i] = c at *
    generalize b[i] = d at *
    refine ⟨c, by omega, g1, d, by omega, g2, ?_⟩
    have hcl : c.toNat < 256 := c.toBitVec.isLt
    have hdl : d.toNat < 256 := d.toBitVec.isLt
    refine ift.of (fun h => ?_) (fun h => ?_)
    · have hne : c ≠ d := fun e => by subst e; simp at h
      simp only [vcmpS, if_neg hne] at hc
      refine ⟨H, Heap.le.refl _, c, by omega, g1, d, by omega, g2, ?_⟩
      dsimp only
      rw [w_i64 (by omega) (by omega), w_i64 (by omega) (by omega)]
      refine ints_ok ⟨Heap.le.refl _, ?_⟩
      rw [hc] at k; exact k
    · have he : c = d := UInt8.toNat_inj.1 (by simp at h; omega)
      simp only [vcmpS, if_pos he] at hc
      rw [w_i64 (by omega) (by omega)]
      exact ⟨⟨i + 1, by omega, by omega, by omega, rfl, hc⟩, by first | omega | (dsimp only; omega)⟩
  · simp only [Bool.and_eq_false_iff, decide_eq_false_iff_not] at h
    refine ints_ok ?_
    have e : vcmpS a b = sgn a.length b.length := by
      rcases h with h | h
      · have : i = a.length := by omega
        subst this
        rw [hc, List.drop_length, vcmpS_nil_l, List.length_drop]
        have := sgn_add 0 ((b.length - a.length : Nat) : Int) a.length
        rw [← this]; congr 1 <;> omega
      · have : i = b.length := by omega
        subst this
        rw [hc, List.drop_length, vcmpS_nil_r, List.length_drop]
        have := sgn_add ((a.length - b.length : Nat) : Int) 0 b.length
        rw [← this]; congr 1 <;> omega
    rw [e] at k; exact k

theorem isMin_eq {c : UInt8} {t : Str} : ((c.toNat : Int) == 45) = isMin (c :: t) := by rw [e45]; unfold isMin; simp
theorem bigs0_ok {a b : Str} {K : Int → Heap → Prop} (ha : a.length ≤ 140737488355328) (hb : b.length ≤ 140737488355328) (na : a ≠ []) (nb : b ≠ []) (ma : isMin a = false) (mb : isMin b = false) (k : K (cmpD a b) H) : c_ref02_Bigs C a b K H := by
  apply ad_ref02_Bigs
  unfold sh_ref02_Bigs
  cases a with
  | nil => exact absurd rfl na
  | cons c a =>
  cases b with
  | nil => exact absurd rfl nb
  | cons d b =>
  refine ⟨c, by omega, rfl, d, by omega, rfl, ?_⟩
  dsimp only
  rw [isMin_eq (t := a), isMin_eq (t := b), ma, mb]
  refine ift_neg rfl (ift_neg rfl ?_)
  unfold cmpD at k
  refine ift.of (fun h => ?_) (fun h => ?_)
  · refine ints_ok ?_
    rw [if_neg (by simp at h ⊢; omega)] at k; exact k
  · rw [if_pos (by simp at h ⊢; omega)] at k
    exact texts_ok ha hb k
theorem bigs_ok {a b : Str} {K : Int → Heap → Prop} (ha : a.length ≤ 140737488355328) (hb : b.length ≤ 140737488355328) (na : numS a = true) (nb : numS b = true) (k : K (cmpB a b) H) : c_ref02_Bigs C a b K H := by
  by_cases hn : isMin a = false ∧ isMin b = false
  · rw [cmpB_no hn.1 hn.2] at k
    exact bigs0_ok ha hb (numS_ne na) (numS_ne nb) hn.1 hn.2 k
  apply ad_ref02_Bigs
  unfold sh_ref02_Bigs
  have nea := numS_ne na
  have neb := numS_ne nb
  cases a with
  | nil => exact absurd rfl nea
  | cons c a =>
  cases b with
  | nil => exact absurd rfl neb
  | cons d b =>
  refine ⟨c, by omega, rfl, d, by omega, rfl, ?_⟩
  dsimp only
  rw [isMin_eq (t := a), isMin_eq (t := b)]
  unfold cmpB at k
  cases ma : isMin (c :: a) with
  | false =>
    rw [ma] at k hn
    cases mb : isMin (d :: b) with
    | false => rw [mb] at hn; exact absurd ⟨rfl, rfl⟩ hn
    | true => rw [mb] at k; exact ift_pos rfl (ift_neg rfl k)
  | true =>
    rw [ma] at k
    cases mb : isMin (d :: b) with
    | false => rw [mb] at k; exact ift_pos rfl (ift_pos rfl k)
    | true =>
      rw [mb] at k
      refine ift_neg rfl (ift_pos rfl ?_)
      obtain ⟨h1, h2⟩ := numS_isMin na ma
      obtain ⟨h3, h4⟩ := numS_isMin nb mb
      refine ⟨H, Heap.le.refl _, by omega, by simp only [List.length_cons]; omega, by omega, b, ?_, by omega, by simp only [List.length_cons]; omega, by omega, a, ?_, ?_⟩
      · rw [List.take_of_length_le (by omega)]; rfl
      · rw [List.take_of_length_le (by omega)]; rfl
      · simp only [List.length_cons] at ha hb
        exact bigs0_ok (by omega) (by omega) h4 h2 h3 h1 ⟨Heap.le.refl _, k⟩

theorem rows_ok {l m : List V} {s t : Sl} {H : Heap} {K : Int → Heap → Prop} (hs : VRow H s l) (ht : VRow H t m) (hl : l.length ≤ 140737488355328) (hm : m.length ≤ 140737488355328)
    (ih : ∀ v ∈ l, ∀ w ∈ m, ∀ {x y : TV} {K : Int → Heap → Prop}, VIs H v x → VIs H w y → K (cmpV v w) H → c_ref02_cmp C x y K H) (k : K (cmpVs l m) H) : c_ref02_rows C s t K H := by
  apply ad_ref02_rows
  unfold sh_ref02_rows
  have hsl := hs.len
  have htl := ht.len
  rw [hsl, htl]
  refine ⟨fun x H' => ∃ i : Nat, x = (i : Int) ∧ i ≤ l.length ∧ i ≤ m.length ∧ H = H' ∧ cmpVs l m = cmpVs (l.drop i) (m.drop i), fun x _ => l.length - x.toNat, ⟨0, rfl, Nat.zero_le _, Nat.zero_le _, rfl, rfl⟩, ?_⟩
  rintro x _ ⟨i, rfl, hi, hi2, rfl, hc⟩
  refine ift.of (fun h => ?_) (fun h => ?_)
  · simp only [Bool.and_eq_true, decide_eq_true_eq] at h
    have h1 : i < l.length := by omega
    have h2 : i < m.length := by omega
    have m1 := List.getElem_mem h1
    have m2 := List.getElem_mem h2
    rw [List.drop_eq_getElem_cons h1, List.drop_eq_getElem_cons h2] at hc
    refine ⟨H, Heap.le.refl _, ?_⟩
    refine hs.ld (Heap.le.refl _) rfl h1 fun y hy => ?_
    refine ht.ld (Heap.le.refl _) rfl h2 fun z hz => ?_
    refine ih _ m1 _ m2 hy hz ⟨Heap.le.refl _, ?_⟩
    simp only [cmpVs] at hc
    refine ift.of (fun h => ?_) (fun h => ?_)
    · rw [if_pos (by simpa using h)] at hc
      rw [hc] at k; exact k
    · rw [if_neg (by simpa using h)] at hc
      rw [w_i64 (by omega) (by omega)]
      exact ⟨⟨i + 1, by omega, by omega, by omega, rfl, hc⟩, by first | omega | (dsimp only; omega)⟩
  · simp only [Bool.and_eq_false_iff, decide_eq_false_iff_not] at h
    refine ints_ok ?_
    have e : cmpVs l m = sgn l.length m.length := by
      rcases h with h | h
      · have : i = l.length := by omega
        subst this
        rw [hc, List.drop_length, cmpVs_nil_l, List.length_drop]
        have := sgn_add 0 ((m.length - l.length : Nat) : Int) l.length
        rw [← this]; congr 1 <;> omega
      · have : i = m.length := by omega
        subst this
        rw [hc, List.drop_length, cmpVs_nil_r, List.length_drop]
        have := sgn_add ((l.length - m.length : Nat) : Int) 0 m.length
        rw [← this]; congr 1 <;> omega
    rw [e] at k; exact k

theorem cmpV_eq (v w : V) : cmpV v w = if v.k ≠ w.k then sgn v.k w.k else if v.k = 3 then cmpB v.s w.s else if v.k = 4 then vcmpS v.s w.s else if v.k = 5 then cmpVs v.l w.l else if v.k = 6 then (if vcmpS v.s w.s ≠ 0 then vcmpS v.s w.s else cmpVs v.l w.l) else sgn v.n w.n := by
  obtain ⟨k, n, s, l⟩ := v
  obtain ⟨k', n', s', l'⟩ := w
  simp only [cmpV, V.k, V.n, V.s, V.l]
  rfl

theorem cmp_ok {v w : V} {x y : TV} {H : Heap} {K : Int → Heap → Prop} (hv : VIs H v x) (hw : VIs H w y) (hB : VB v) (hB2 : VB w) (hF : formV v = true) (hF2 : formV w = true) (k : K (cmpV v w) H) : c_ref02_cmp C x y K H := by
  refine V.rec_ (P := fun v => ∀ {w x y H} {K : Int → Heap → Prop}, VIs H v x → VIs H w y → VB v → VB w → formV v = true → formV w = true → K (cmpV v w) H → c_ref02_cmp C x y K H) (fun v ih => ?_) v hv hw hB hB2 hF hF2 k
  clear hv hw hB hB2 hF hF2 k
  intro w x y H K hv hw hB hB2 hF hF2 k
  apply c_ref02_cmp.gh
  apply ad_ref02_cmp
  unfold sh_ref02_cmp
  intro b1 n1 b3 n3
  have hb3 : ((H.put b1 (.row (T_api_Value.c x))).put b3 (.row (T_api_Value.c y))) b3 = some (true, .row (T_api_Value.c y)) := Heap.put_same ..
  have hne : b1 ≠ b3 := fun e => by rw [e, Heap.put_same] at n3; cases n3
  have hb1 : ((H.put b1 (.row (T_api_Value.c x))).put b3 (.row (T_api_Value.c y))) b1 = some (true, .row (T_api_Value.c x)) := by rw [Heap.put_ne _ _ _ hne, Heap.put_same]
  have hle := (Heap.le_put n1 (g := .row (T_api_Value.c x)) (m := true)).trans (Heap.le_put n3 (g := .row (T_api_Value.c y)) (m := true))
  generalize (H.put b1 (.row (T_api_Value.c x))).put b3 (.row (T_api_Value.c y)) = H1 at *
  have k' : ∃ H0, Gh C H1 H0 ∧ K (cmpV v w) H0 := ⟨H, Gh.le hle, k⟩
  have hk1 := hB.k
  have hk2 := hB2.k
  rw [formV_eq, Bool.and_eq_true] at hF hF2
  rw [cmpV_eq] at k'
  refine bxK hb1 (bxK hb3 ?_)
  rw [hv.kind, hw.kind]
  refine ift.of (fun h => ?_) (fun h => ?_)
  · refine bxK hb1 (bxK hb3 ?_)
    rw [hv.kind, hw.kind, w_i64 (by omega) (by omega), w_i64 (by omega) (by omega)]
    refine ints_ok ?_
    rw [if_pos (by simpa using h)] at k'; exact k'
  have hkk : v.k = w.k := by simpa using h
  rw [if_neg (by simp [hkk])] at k'
  have hr1 := hv.row.le hle
  have hr2 := hw.row.le hle
  have hrows : ∀ {K : Int → Heap → Prop}, K (cmpVs v.l w.l) H1 → c_ref02_rows C x.L y.L K H1 := fun k => by
    refine rows_ok hr1 hr2 hB.l hB2.l (fun p hp q hq {x' y'} {K'} hx hy kk => ih p hp hx hy (hB.ls.mem hp) (hB2.ls.mem hq) (formVs_mem hp hF.2) (formVs_mem hq hF2.2) kk) k
  refine bxK hb1 ?_
  rw [hv.kind]
  refine ift.of (fun h => ?_) (fun h => ?_)
  · have h : v.k = 3 := by simpa using h
    rw [if_pos h] at k'
    refine bxS hb1 (bxS hb3 ?_)
    rw [hv.txt, hw.txt]
    exact bigs_ok hB.s hB2.s (okN_num hF.1 h) (okN_num hF2.1 (by omega)) k'
  rw [if_neg (by simpa using h)] at k'
  refine ift.of (fun h => ?_) (fun h => ?_)
  · have h : v.k = 4 := by simpa using h
    rw [if_pos h] at k'
    refine bxS hb1 (bxS hb3 ?_)
    rw [hv.txt, hw.txt]
    exact texts_ok hB.s hB2.s k'
  rw [if_neg (by simpa using h)] at k'
  refine ift.of (fun h => ?_) (fun h => ?_)
  · have h : v.k = 5 := by simpa using h
    rw [if_pos h] at k'
    exact bxL hb1 (bxL hb3 (hrows k'))
  rw [if_neg (by simpa using h)] at k'
  refine ift.of (fun h => ?_) (fun h => ?_)
  · have h : v.k = 6 := by simpa using h
    rw [if_pos h] at k'
    refine bxS hb1 (bxS hb3 ?_)
    rw [hv.txt, hw.txt]
    refine texts_ok hB.s hB2.s ?_
    refine ift.of (fun h => ?_) (fun h => ?_)
    · rw [if_pos (by simpa using h)] at k'; exact k'
    · rw [if_neg (by simpa using h)] at k'
      exact bxL hb1 (bxL hb3 (hrows k'))
  rw [if_neg (by simpa using h)] at k'
  refine bxN hb1 (bxN hb3 ?_)
  rw [hv.num, hw.num]
  exact ints_ok k'

theorem last_ok {a b : Bool} {K : Int → Heap → Prop} (k : K (lastB a b) H) : c_ref02_last C a b K H := by
  apply ad_ref02_last
  unfold sh_ref02_last
  unfold lastB at k
  refine ift.of (fun h => ?_) (fun h => ?_)
  · rw [if_pos (by simpa using h)] at k; exact k
  rw [if_neg (by simpa using h)] at k
  refine ift.of (fun h => ?_) (fun h => ?_)
  · rw [if_pos h] at k; exact k
  · rw [if_neg (by rw [h]; decide)] at k; exact k

theorem mayV_dec (v : V) : ((checkV v : Int) == 0) = mayV v := by unfold mayV; rw [Bool.eq_iff_iff]; simp
theorem mayV_form {v : V} (h : mayV v = true) : formV v = true := ((mayV_iff v).1 h).2.1

theorem mayR_no {l : List V} {v : V} (h : v ∈ l) (hv : mayV v = false) : mayR l = false := by unfold mayR; rw [List.all_eq_false]; exact ⟨v, h, by simp [hv]⟩
theorem Row_ok {l : List V} {t : Sl} {H : Heap} {K : Bool → Heap → Prop} (ht : VRow H t l) (hl : l.length ≤ 140737488355328) (hB : VBs l) (hs : ∀ v ∈ l, vsize v ≤ 4611686018427387904) (k : K (mayR l) H) : c_ref02_Row C t K H := by
  apply ad_ref02_Row
  unfold sh_ref02_Row
  rw [ht.len]
  refine ⟨fun x H' => ∃ i : Nat, x = (i : Int) ∧ i ≤ l.length ∧ H = H' ∧ (l.take i).all mayV = true, fun x _ => l.length - x.toNat, ⟨0, rfl, Nat.zero_le _, rfl, rfl⟩, ?_⟩
  rintro x _ ⟨i, rfl, hi, rfl, ha⟩
  refine ift.of (fun h => ?_) (fun h => ?_)
  · have hlt : i < l.length := by have := of_decide_eq_true h; omega
    have hm := List.getElem_mem hlt
    refine ht.ld (Heap.le.refl _) rfl hlt fun y hy => ?_
    refine ref02_Check_ok hy (hB.mem hm) (hs _ hm) ?_
    rw [bne, mayV_dec]
    refine ift.of (fun h => ?_) (fun h => ?_)
    · rw [mayR_no hm (by simpa using h)] at k; exact k
    · rw [w_i64 (by omega) (by omega)]
      refine ⟨⟨i + 1, by omega, by omega, rfl, ?_⟩, by first | omega | (dsimp only; omega)⟩
      rw [all_take hlt, ha]; simpa using h
  · have hie : i = l.length := by have := of_decide_eq_false h; omega
    rw [hie, List.take_length] at ha
    unfold mayR at k
    rw [ha] at k; exact k

theorem ref02_CmpRows_ok {l m : List V} {s t : Sl} {H : Heap} {K : Int → Heap → Prop} (hs : VRow H s l) (ht : VRow H t m) (hl : l.length ≤ 140737488355328) (hm : m.length ≤ 140737488355328) (hB : VBs l) (hB2 : VBs m) (hz : ∀ v ∈ l, vsize v ≤ 4611686018427387904) (hz2 : ∀ v ∈ m, vsize v ≤ 4611686018427387904) (k : K (cmpR l m) H) : c_ref02_CmpRows C s t K H := by
  apply ad_ref02_CmpRows
  unfold sh_ref02_CmpRows
  refine Row_ok hs hl hB hz (Row_ok ht hm hB2 hz2 ?_)
  unfold cmpR at k
  refine ift.of (fun h => ?_) (fun h => ?_)
  · refine last_ok ?_
    rw [if_neg (by intro hh; rw [hh.1, hh.2] at h; cases h)] at k; exact k
  · have h1 : mayR l = true ∧ mayR m = true := by simpa using h
    rw [if_pos h1] at k
    refine rows_ok hs ht hl hm (fun p hp q hq {x' y'} {K'} hx hy kk => ?_) k
    have e1 := List.all_eq_true.1 h1.1 p hp
    have e2 := List.all_eq_true.1 h1.2 q hq
    exact cmp_ok hx hy (hB.mem hp) (hB2.mem hq) (mayV_form e1) (mayV_form e2) kk

theorem sameVs_len : ∀ {l m : List V}, sameVs l m = true → l.length = m.length
  | [], [], _ => rfl
  | [], _ :: _, h => by simp [sameVs] at h
  | _ :: _, [], h => by simp [sameVs] at h
  | v :: l, w :: m, h => by
    simp only [sameVs, Bool.and_eq_true] at h
    have := sameVs_len h.2
    simp [this]
theorem SameRow_gen {l m : List V} {s t : Sl} {H : Heap} {K : Bool → Heap → Prop} (hs : VRow H s l) (ht : VRow H t m) (hl : l.length ≤ 140737488355328)
    (ih : ∀ v ∈ l, ∀ w, ∀ {x y : TV} {K : Bool → Heap → Prop}, VIs H v x → VIs H w y → w ∈ m → K (sameV v w) H → c_ref02_Same C x y K H) (k : K (sameVs l m) H) : c_ref02_SameRow C s t K H := by
  apply ad_ref02_SameRow
  unfold sh_ref02_SameRow
  rw [hs.len, ht.len]
  by_cases hlm : l.length = m.length
  rotate_left
  · refine ift_pos (by simp; omega) ?_
    cases hh : sameVs l m with
    | true => exact absurd (sameVs_len hh) hlm
    | false => rw [hh] at k; exact k
  refine ift_neg (by simp; omega) ?_
  refine ⟨fun x H' => ∃ i : Nat, x = (i : Int) ∧ i ≤ l.length ∧ H = H' ∧ sameVs l m = sameVs (l.drop i) (m.drop i), fun x _ => l.length - x.toNat, ⟨0, rfl, Nat.zero_le _, rfl, rfl⟩, ?_⟩
  rintro x _ ⟨i, rfl, hi, rfl, ha⟩
  refine ift.of (fun h => ?_) (fun h => ?_)
  · have h1 : i < l.length := by have := of_decide_eq_true h; omega
    have h2 : i < m.length := by omega
    have m1 := List.getElem_mem h1
    have m2 := List.getElem_mem h2
    rw [List.drop_eq_getElem_cons h1, List.drop_eq_getElem_cons h2] at ha
    simp only [sameVs] at ha
    refine ⟨H, Heap.le.refl _, ?_⟩
    refine hs.ld (Heap.le.refl _) rfl h1 fun y hy => ?_
    refine ht.ld (Heap.le.refl _) rfl h2 fun z hz => ?_
    refine ih _ m1 _ hy hz m2 ⟨Heap.le.refl _, ?_⟩
    refine ift.of (fun h => ?_) (fun h => ?_)
    · have h : sameV l[i] m[i] = false := by simpa using h
      rw [ha, h] at k; exact k
    · have h : sameV l[i] m[i] = true := by simpa using h
      rw [h, Bool.true_and] at ha
      rw [w_i64 (by omega) (by omega)]
      exact ⟨⟨i + 1, by omega, by omega, rfl, ha⟩, by first | omega | (dsimp only; omega)⟩
  · have hie : i = l.length := by have := of_decide_eq_false h; omega
    rw [hie, List.drop_length, hlm, List.drop_length] at ha
    rw [ha] at k; exact k

theorem sameV_eqn (v w : V) : sameV v w = (v.k == w.k && v.n == w.n && decide (v.s = w.s) && sameVs v.l w.l) := by
  obtain ⟨k, n, s, l⟩ := v
  obtain ⟨k', n', s', l'⟩ := w
  simp only [sameV, V.k, V.n, V.s, V.l]
  rfl

theorem Same_ok {v w : V} {x y : TV} {H : Heap} {K : Bool → Heap → Prop} (hv : VIs H v x) (hw : VIs H w y) (hB : VB v) (k : K (sameV v w) H) : c_ref02_Same C x y K H := by
  refine V.rec_ (P := fun v => ∀ {w x y H} {K : Bool → Heap → Prop}, VIs H v x → VIs H w y → VB v → K (sameV v w) H → c_ref02_Same C x y K H) (fun v ih => ?_) v hv hw hB k
  clear hv hw hB k
  intro w x y H K hv hw hB k
  apply c_ref02_Same.gh
  apply ad_ref02_Same
  unfold sh_ref02_Same
  intro b1 n1 b3 n3
  have hb3 : ((H.put b1 (.row (T_api_Value.c x))).put b3 (.row (T_api_Value.c y))) b3 = some (true, .row (T_api_Value.c y)) := Heap.put_same ..
  have hne : b1 ≠ b3 := fun e => by rw [e, Heap.put_same] at n3; cases n3
  have hb1 : ((H.put b1 (.row (T_api_Value.c x))).put b3 (.row (T_api_Value.c y))) b1 = some (true, .row (T_api_Value.c x)) := by rw [Heap.put_ne _ _ _ hne, Heap.put_same]
  have hle := (Heap.le_put n1 (g := .row (T_api_Value.c x)) (m := true)).trans (Heap.le_put n3 (g := .row (T_api_Value.c y)) (m := true))
  generalize (H.put b1 (.row (T_api_Value.c x))).put b3 (.row (T_api_Value.c y)) = H1 at *
  have k' : ∃ H0, Gh C H1 H0 ∧ K (sameV v w) H0 := ⟨H, Gh.le hle, k⟩
  rw [sameV_eqn] at k'
  refine bxK hb1 (bxK hb3 ?_)
  rw [hv.kind, hw.kind]
  refine ⟨fun b H' => H1 = H' ∧ b = (v.k == w.k && v.n == w.n), ?_, ?_⟩
  · refine ift.of (fun h => ?_) (fun h => ⟨rfl, by rw [h]; rfl⟩)
    refine bxN hb1 (bxN hb3 ⟨rfl, ?_⟩)
    rw [h, hv.num, hw.num]; rfl
  rintro _ _ ⟨rfl, rfl⟩
  refine ⟨fun b H' => H1 = H' ∧ b = (v.k == w.k && v.n == w.n && decide (v.s = w.s)), ?_, ?_⟩
  · refine ift.of (fun h => ?_) (fun h => ⟨rfl, by rw [h]; rfl⟩)
    refine bxS hb1 (bxS hb3 ⟨rfl, ?_⟩)
    rw [h, hv.txt, hw.txt, Bool.true_and, Bool.eq_iff_iff]; simp
  rintro _ _ ⟨rfl, rfl⟩
  refine ⟨fun b H' => H1 = H' ∧ b = (v.k == w.k && v.n == w.n && decide (v.s = w.s) && sameVs v.l w.l), ?_, ?_⟩
  · refine ift.of (fun h => ?_) (fun h => ⟨rfl, by rw [h]; rfl⟩)
    refine bxL hb1 (bxL hb3 ?_)
    refine SameRow_gen (hv.row.le hle) (hw.row.le hle) hB.l (fun p hp q {x' y'} {K'} hx hy _ kk => ih p hp hx hy (hB.ls.mem hp) kk) ⟨rfl, ?_⟩
    rw [h]; rfl
  rintro _ _ ⟨rfl, rfl⟩
  exact k'
theorem SameRow_ok {l m : List V} {s t : Sl} {H : Heap} {K : Bool → Heap → Prop} (hs : VRow H s l) (ht : VRow H t m) (hl : l.length ≤ 140737488355328) (hB : VBs l) (k : K (sameVs l m) H) : c_ref02_SameRow C s t K H :=
  SameRow_gen hs ht hl (fun p hp q {x y} {K} hx hy _ kk => Same_ok hx hy (hB.mem hp) kk) k
end
end Sx
end

noncomputable section
set_option linter.unusedVariables false
set_option linter.unusedSimpArgs false
namespace Sx
open Go
section
variable {H : Type} {enc : TypeId × Value → H} {P : Program} {W : World}
/-- the type of values -/
structure ValT (P : Program) (t tl : TypeId) : Prop where
  st : ∃ fs : Array Field, P.underlying t = some (.struct fs) ∧ fs.size = 4 ∧ (∃ f tk, fs[0]? = some f ∧ f.type = tk ∧ f.offset = 0 ∧ P.underlying tk = some (.int .u8) ∧ P.cellsOf tk = 1) ∧ (∃ f tk, fs[1]? = some f ∧ f.type = tk ∧ f.offset = 1 ∧ P.underlying tk = some (.int .i64) ∧ P.cellsOf tk = 1) ∧ (∃ f tk, fs[2]? = some f ∧ f.type = tk ∧ f.offset = 2 ∧ P.underlying tk = some .string ∧ P.cellsOf tk = 1) ∧ (∃ f, fs[3]? = some f ∧ f.type = tl ∧ f.offset = 3 ∧ P.cellsOf tl = 1)
  cells : P.cellsOf t = 4
  sl : P.underlying tl = some (.slice t)

end
end Sx
end

noncomputable section
set_option linter.unusedVariables false
set_option linter.unusedSimpArgs false
namespace Sx
open Go
section
variable {H : Type} {enc : TypeId × Value → H} {P : Program} {W : World}
theorem rows_genw {t tl : TypeId} {css : List (List Value)} {s : Sl} (hl : css.length = s.len) (hr : rdsl (heapOf W) s css.flatten)
    (ih : ∀ c ∈ css, ∃ (v : V) (x : TV), c = T_api_Value.c x ∧ VIs (heapOf W) v x ∧ VB v) : ∃ l : List V, VRow (heapOf W) s l ∧ VBs l := by
  have key : ∀ (css : List (List Value)), (∀ c ∈ css, ∃ (v : V) (x : TV), c = T_api_Value.c x ∧ VIs (heapOf W) v x ∧ VB v) →
      ∃ (l : List V) (xs : List TV), css.flatten = xs.flatMap T_api_Value.c ∧ css.length = xs.length ∧ VsAre (heapOf W) l xs ∧ VBs l := by
    intro css
    induction css with
    | nil => intro _; exact ⟨[], [], rfl, rfl, trivial, trivial⟩
    | cons c css ihc =>
      intro hh
      obtain ⟨v, x, h1, h2, h3⟩ := hh c (List.mem_cons_self ..)
      obtain ⟨l, xs, g1, g2, g3, g4⟩ := ihc fun c' hc => hh c' (List.mem_cons_of_mem _ hc)
      exact ⟨v :: l, x :: xs, by rw [List.flatten_cons, List.flatMap_cons, g1, h1], by simp [g2], ⟨h2, g3⟩, ⟨h3, g4⟩⟩
  obtain ⟨l, xs, g1, g2, g3, g4⟩ := key css ih
  exact ⟨l, ⟨xs, by rw [← g1]; exact hr, by omega, g3⟩, g4⟩

theorem valw_of {t tl : TypeId} (hT : ValT P t tl) (hb : 1 ≤ P.bytesOf t) : ∀ (n : Nat) {cs : List Value}, TrW P W n t cs → ∃ (v : V) (y : TV), cs = T_api_Value.c y ∧ VIs (heapOf W) v y ∧ VB v := by
  intro n
  induction n using Nat.strongRecOn with
  | _ n ih =>
  intro cs h
  obtain ⟨fs, hu, hfs, ⟨f0, t0, a0, b0, c0, d0, e0⟩, ⟨f1, t1, a1, b1, c1, d1, e1⟩, ⟨f2, t2, a2, b2, c2, d2, e2⟩, ⟨f3, a3, b3, c3, e3⟩⟩ := hT.st
  obtain ⟨hl, m, rfl, hf⟩ := h.struct hu
  rw [hT.cells] at hl
  match cs, hl with
  | [q0, q1, q2, q3], _ =>
  have g0 := hf 0 f0 a0
  have g1 := hf 1 f1 a1
  have g2 := hf 2 f2 a2
  have g3 := hf 3 f3 a3
  rw [b0, c0, e0] at g0
  rw [b1, c1, e1] at g1
  rw [b2, c2, e2] at g2
  rw [b3, c3, e3] at g3
  simp at g0 g1 g2 g3
  obtain ⟨n0, k0, k2⟩ := g0.int d0
  obtain ⟨n1, l0, l2⟩ := g1.int d1
  obtain ⟨s2, m0, m1, m2⟩ := g2.str d2
  obtain ⟨s, css, m', hm', p0, p1, p2, p3, p4, p5, p6⟩ := g3.slice hT.sl hT.cells (by omega)
  have hmx : reachBytes = 140737488351232 := rfl
  rw [hmx] at p3 m2
  obtain ⟨l, r1, r2⟩ := rows_genw (t := t) (tl := tl) p4 p5 fun c hc => ih m' (by omega) (p6 c hc).2
  have hll := r1.len
  have hsl : s.len ≤ 140737488351232 := Nat.le_trans (Nat.le_mul_of_pos_right _ (by omega)) p3
  refine ⟨.mk n0 n1 s2 l, ⟨n0, n1, s2, s⟩, ?_, VIs_iff.2 ⟨rfl, rfl, rfl, r1⟩, ⟨?_, ?_, by omega, by omega, r2⟩⟩
  · injection k0 with k0
    injection l0 with l0
    injection m0 with m0
    injection p0 with p0
    subst k0; subst l0; subst m0; subst p0
    simp [T_api_Value.c]
  · simpa [Lit.wf, IntKind.min, IntKind.max, IntKind.signed, IntKind.bits] using k2
  · simpa [Lit.wf, IntKind.min, IntKind.max, IntKind.signed, IntKind.bits] using l2

end
end Sx
end

noncomputable section
set_option linter.unusedVariables false
set_option linter.unusedSimpArgs false
namespace Sx
open Go Go.Proofs
/-- a list of rows -/
def VRows (H : Heap) (s : Sl) (ls : List (List V)) : Prop := ∃ xs : List Sl, rdsl H s (xs.map slv) ∧ s.len = xs.length ∧ xs.length = ls.length ∧ ∀ (i : Nat) (x : Sl) (l : List V), xs[i]? = some x → ls[i]? = some l → VRow H x l
theorem VRows.le {A B : Heap} {s : Sl} {ls : List (List V)} (h : VRows A s ls) (hle : A.le B) : VRows B s ls := by
  obtain ⟨xs, h1, h2, h3, h4⟩ := h
  exact ⟨xs, rdsl_le hle h1, h2, h3, fun i x l hx hl => (h4 i x l hx hl).le hle⟩
theorem VRows.len {H : Heap} {s : Sl} {ls : List (List V)} (h : VRows H s ls) : s.len = ls.length := by
  obtain ⟨xs, h1, h2, h3, h4⟩ := h; omega
theorem VRows.ld {A H : Heap} {s : Sl} {ls : List (List V)} {i : Nat} {x : Int} {K : Sl → Prop} (h : VRows A s ls) (hle : A.le H) (hx : x = i) (hi : i < ls.length) (k : ∀ t, VRow A t ls[i] → K t) : ixa s x fun p => ldL H (p.1, p.2 + x.toNat * 1) K := by
  obtain ⟨xs, h1, h2, h3, h4⟩ := h
  subst hx
  rw [Int.toNat_natCast, Nat.mul_one]
  have hi2 : i < xs.length := by omega
  refine ixa_of h1 (by omega) (by omega) (fun e => by have := congrArg List.length e; simp at this; rw [this] at hi2; simp at hi2) fun p hp hr => ?_
  refine ⟨xs[i], rd_le hle (rds_get hr i _ (by simp [hi2])), k _ (h4 i _ _ (List.getElem?_eq_getElem hi2) (List.getElem?_eq_getElem hi))⟩
section
variable {H : Type} {enc : TypeId × Value → H} {P : Program} {W : World}
theorem row_ofw {t tl : TypeId} (hT : ValT P t tl) (hb : 1 ≤ P.bytesOf t) {m : Nat} {c : List Value} (h : TrW P W m tl c) : ∃ (s : Sl) (l : List V), c = [slv s] ∧ VRow (heapOf W) s l ∧ VBs l ∧ l.length ≤ 140737488355328 := by
  obtain ⟨s, css, m', hm', p0, p1, p2, p3, p4, p5, p6⟩ := h.slice hT.sl hT.cells (by omega)
  obtain ⟨l, r1, r2⟩ := rows_genw (t := t) (tl := tl) p4 p5 fun c hc => valw_of hT hb m' (p6 c hc).2
  have hll := r1.len
  have hmx : reachBytes = 140737488351232 := rfl
  rw [hmx] at p3
  have hsl : s.len ≤ 140737488351232 := Nat.le_trans (Nat.le_mul_of_pos_right _ (by omega)) p3
  exact ⟨s, l, p0, r1, r2, by omega⟩
/-- a list of rows that came in -/
theorem argw_rows {t tl tr : TypeId} (hT : ValT P t tl) (hb : 1 ≤ P.bytesOf t) (hr : P.underlying tr = some (.slice tl)) (hc : P.cellsOf tl = 1) (hb2 : 1 ≤ P.bytesOf tl) {base : Nat} {v : Value} {d : DataW H} {p : List MemPlace} (hv : Value.okWide P W .any base tr v) (h : DataW.Trod enc P W 0 (fun _ => true) true tr v d p) (hw : ∀ w ∈ d.weights P tr, w ≤ reachBytes) :
    ∃ (s : Sl) (ls : List (List V)), v = slv s ∧ VRows (heapOf W) s ls ∧ (∀ l ∈ ls, VBs l ∧ l.length ≤ 140737488355328) ∧ ls.length ≤ 140737488355328 ∧ s.len ≤ s.cap ∧ s.cap ≤ maxLen := by
  obtain ⟨s, css, m, h1, h2, h3, h4, h5, h6, h7⟩ := argw_slice hr hc (by omega) hv h hw
  have key : ∀ (css : List (List Value)), (∀ c ∈ css, c.length = 1 ∧ TrW P W m tl c) → ∃ (xs : List Sl) (ls : List (List V)), css.flatten = xs.map slv ∧ css.length = xs.length ∧ xs.length = ls.length ∧ (∀ (i : Nat) (x : Sl) (l : List V), xs[i]? = some x → ls[i]? = some l → VRow (heapOf W) x l) ∧ ∀ l ∈ ls, VBs l ∧ l.length ≤ 140737488355328 := by
    intro css
    induction css with
    | nil => intro _; exact ⟨[], [], rfl, rfl, rfl, fun i x l hx => by simp at hx, fun l hl => by cases hl⟩
    | cons c css ih =>
      intro hh
      obtain ⟨s, l, g1, g2, g3⟩ := row_ofw hT hb (hh c (List.mem_cons_self ..)).2
      obtain ⟨xs, ls, k1, k2, k3, k4, k5⟩ := ih fun c' hc' => hh c' (List.mem_cons_of_mem _ hc')
      refine ⟨s :: xs, l :: ls, by rw [List.flatten_cons, k1, g1]; rfl, by simp [k2], by simp [k3], fun i x l' hx hl' => ?_, fun l' hl' => ?_⟩
      · cases i with
        | zero => simp at hx hl'; subst hx; subst hl'; exact g2
        | succ i => exact k4 i x l' (by simpa using hx) (by simpa using hl')
      · rcases List.mem_cons.1 hl' with rfl | hl'
        · exact g3
        · exact k5 l' hl'
  obtain ⟨xs, ls, k1, k2, k3, k4, k5⟩ := key css h7
  have hmx : reachBytes = 140737488351232 := rfl
  rw [hmx] at h4
  have hsl : s.len ≤ 140737488351232 := Nat.le_trans (Nat.le_mul_of_pos_right _ (by omega)) h4
  exact ⟨s, ls, h1, ⟨xs, by rw [← k1]; exact h6, by omega, k3, k4⟩, k5, by omega, h2, h3⟩
end
end Sx
end

noncomputable section
set_option linter.unusedVariables false
set_option linter.unusedSimpArgs false
namespace Sx
open Go Go.Proofs
theorem vslt_cons (a b : UInt8) (s t : Str) : slt (a :: s) (b :: t) = (decide (a < b) || (decide (a = b) && slt s t)) := by
  simp only [slt, Op.bytesLess]
  by_cases h : a < b
  · simp [h]
  · by_cases h2 : a = b
    · subst h2; simp [h]
    · simp [h, h2]
theorem sgn_self (a : Int) : sgn a a = 0 := by unfold sgn; rw [if_neg (by omega), if_neg (by omega)]
theorem sgn_rng (a b : Int) : -1 ≤ sgn a b ∧ sgn a b ≤ 1 := by unfold sgn; (split; · omega); (split <;> omega)
theorem sgn_neg {a b : Int} : sgn a b < 0 ↔ a < b := by unfold sgn; (split; · omega); (split <;> omega)
theorem sgn_zero {a b : Int} : sgn a b = 0 ↔ a = b := by unfold sgn; (split; · omega); (split <;> omega)
theorem vslt : ∀ s t : Str, slt s t = decide (vcmpS s t < 0) ∧ (vcmpS s t = 0 ↔ s = t) ∧ -1 ≤ vcmpS s t ∧ vcmpS s t ≤ 1
  | [], [] => ⟨rfl, by simp [vcmpS], by simp [vcmpS], by simp [vcmpS]⟩
  | [], b :: t => ⟨rfl, by simp [vcmpS], by simp [vcmpS], by simp [vcmpS]⟩
  | a :: s, [] => ⟨rfl, by simp [vcmpS], by simp [vcmpS], by simp [vcmpS]⟩
  | a :: s, b :: t => by
    obtain ⟨h1, h2, h3, h4⟩ := vslt s t
    rw [vslt_cons, h1]
    simp only [vcmpS]
    by_cases he : a = b
    · subst he
      have : ¬ a < a := fun h => Nat.lt_irrefl _ h
      refine ⟨by simp [this], ?_, by rw [if_pos rfl]; exact h3, by rw [if_pos rfl]; exact h4⟩
      rw [if_pos rfl, h2]; simp
    · have hne : ¬ (a.toNat : Int) = b.toNat := fun h => he (UInt8.toNat_inj.1 (by omega))
      have hz : ¬ sgn a.toNat b.toNat = 0 := fun h => hne (sgn_zero.1 h)
      refine ⟨?_, ?_, ?_⟩
      · simp only [he, if_false, decide_false, Bool.false_and, Bool.or_false]
        rw [decide_eq_decide, sgn_neg, UInt8.lt_iff_toNat_lt]; omega
      · simp only [he, if_false, List.cons.injEq, false_and]; exact ⟨fun h => hz h, fun h => h.elim⟩
      · rw [if_neg he]; exact sgn_rng _ _

section
variable {C : Ctx} {H : Heap}
theorem pcmp8_ok {a b : Int} {K : Int → Heap → Prop} (k : K (sgn a b) H) : c_cmp_Compare_uint8 C a b K H := by
  have nan : ∀ {a : Int} {K : Bool → Heap → Prop}, K false H → c_cmp_isNaN_uint8 C a K H := fun {a K} k => by
    apply ad_cmp_isNaN_uint8
    unfold sh_cmp_isNaN_uint8
    simpa using k
  apply ad_cmp_Compare_uint8
  unfold sh_cmp_Compare_uint8
  refine nan (nan (ift_neg rfl (ift_neg rfl ?_)))
  unfold sgn at k
  refine ift.of (fun h => ?_) (fun h => ?_)
  · rw [if_pos (of_decide_eq_true h)] at k; exact k
  rw [if_neg (of_decide_eq_false h)] at k
  refine ift.of (fun h => ?_) (fun h => ?_)
  · rw [if_pos (show b < a from of_decide_eq_true h)] at k; exact k
  · rw [if_neg (show ¬ b < a from of_decide_eq_false h)] at k; exact k
theorem pcmp64_ok {a b : Int} {K : Int → Heap → Prop} (k : K (sgn a b) H) : c_cmp_Compare_int64 C a b K H := by
  have nan : ∀ {a : Int} {K : Bool → Heap → Prop}, K false H → c_cmp_isNaN_int64 C a K H := fun {a K} k => by
    apply ad_cmp_isNaN_int64
    unfold sh_cmp_isNaN_int64
    simpa using k
  apply ad_cmp_Compare_int64
  unfold sh_cmp_Compare_int64
  refine nan (nan (ift_neg rfl (ift_neg rfl ?_)))
  unfold sgn at k
  refine ift.of (fun h => ?_) (fun h => ?_)
  · rw [if_pos (of_decide_eq_true h)] at k; exact k
  rw [if_neg (of_decide_eq_false h)] at k
  refine ift.of (fun h => ?_) (fun h => ?_)
  · rw [if_pos (show b < a from of_decide_eq_true h)] at k; exact k
  · rw [if_neg (show ¬ b < a from of_decide_eq_false h)] at k; exact k
theorem pcmpI_ok {a b : Int} {K : Int → Heap → Prop} (k : K (sgn a b) H) : c_cmp_Compare_int C a b K H := by
  have nan : ∀ {a : Int} {K : Bool → Heap → Prop}, K false H → c_cmp_isNaN_int C a K H := fun {a K} k => by
    apply ad_cmp_isNaN_int
    unfold sh_cmp_isNaN_int
    simpa using k
  apply ad_cmp_Compare_int
  unfold sh_cmp_Compare_int
  refine nan (nan (ift_neg rfl (ift_neg rfl ?_)))
  unfold sgn at k
  refine ift.of (fun h => ?_) (fun h => ?_)
  · rw [if_pos (of_decide_eq_true h)] at k; exact k
  rw [if_neg (of_decide_eq_false h)] at k
  refine ift.of (fun h => ?_) (fun h => ?_)
  · rw [if_pos (show b < a from of_decide_eq_true h)] at k; exact k
  · rw [if_neg (show ¬ b < a from of_decide_eq_false h)] at k; exact k
theorem pcmpS_ok {a b : Str} {K : Int → Heap → Prop} (k : K (vcmpS a b) H) : c_cmp_Compare_string C a b K H := by
  have nan : ∀ {a : Str} {K : Bool → Heap → Prop}, K false H → c_cmp_isNaN_string C a K H := fun {a K} k => by
    apply ad_cmp_isNaN_string
    unfold sh_cmp_isNaN_string
    simpa using k
  apply ad_cmp_Compare_string
  unfold sh_cmp_Compare_string
  obtain ⟨h1, h2, h3, h4⟩ := vslt a b
  refine nan (nan (ift_neg rfl (ift_neg rfl ?_)))
  refine ift.of (fun h => ?_) (fun h => ?_)
  · rw [h1] at h
    have := of_decide_eq_true h
    rw [show vcmpS a b = -1 by omega] at k; exact k
  have hn : ¬ vcmpS a b < 0 := by rw [h1] at h; exact of_decide_eq_false h
  rw [h, Bool.false_or]
  refine ift.of (fun h => ?_) (fun h => ?_)
  · have : ¬ a = b := by simpa using h
    have : ¬ vcmpS a b = 0 := fun e => this (h2.1 e)
    rw [show vcmpS a b = 1 by omega] at k; exact k
  · have : a = b := by simpa using h
    rw [h2.2 this] at k; exact k
theorem por_ok {b : Nat} {m : Bool} {l : List Int} {n : Nat} {K : Int → Heap → Prop} (hb : H b = some (m, .row (l.map fun x => Value.int .i64 x))) (hn : n = l.length) (hl : l.length ≤ 1000) (k : K ((l.find? fun x => x != 0).getD 0) H) : c_cmp_Or_int C (Sl.of (some (b, 0)) n n) K H := by
  subst hn
  apply ad_cmp_Or_int
  unfold sh_cmp_Or_int
  refine ⟨fun x H' => ∃ i : Nat, x = (i : Int) ∧ i ≤ l.length ∧ H = H' ∧ (l.find? fun x => x != 0) = ((l.drop i).find? fun x => x != 0), fun x _ => l.length - x.toNat, ⟨0, rfl, Nat.zero_le _, rfl, rfl⟩, ?_⟩
  rintro x _ ⟨i, rfl, hi, rfl, hc⟩
  refine ift.of (fun h => ?_) (fun h => ?_)
  · have h1 : i < l.length := by have := of_decide_eq_true h; simp only [Sl.of] at this; omega
    refine ⟨(b, 0), rfl, rfl, by omega, of_decide_eq_true h, l[i], ?_, ?_⟩
    · simp [rd, hb, GO.cells?, h1]
    rw [List.drop_eq_getElem_cons h1, List.find?_cons] at hc
    refine ift.of (fun h => ?_) (fun h => ?_)
    · rw [h] at hc
      rw [hc] at k; exact k
    · rw [h] at hc
      rw [w_i64 (by omega) (by omega)]
      exact ⟨⟨i + 1, by omega, by omega, rfl, hc⟩, by first | omega | (dsimp only; omega)⟩
  · have : i = l.length := by have := of_decide_eq_false h; simp only [Sl.of] at this; omega
    subst this
    rw [hc, List.drop_length] at k; exact k
theorem pHasPrefix_ok {s p : Str} {K : Bool → Heap → Prop} (k : K (p.isPrefixOf s) H) : c_strings_HasPrefix C s p K H := by
  apply ad_strings_HasPrefix
  unfold sh_strings_HasPrefix
  exact hasPrefix_ok k
theorem pre45 (s : Str) : ([45] : Str).isPrefixOf s = isMin s := by
  cases s with
  | nil => rfl
  | cons c s =>
    simp only [List.isPrefixOf, isMin, List.head?_cons, Option.some.injEq, Bool.and_true]
    by_cases h : c = 45
    · subst h; rfl
    · have h2 : ¬ (45 : UInt8) = c := fun e => h e.symm
      simp [h, h2]
theorem or2 (a b : Int) : (([a, b].find? fun x => x != 0).getD 0) = if a ≠ 0 then a else b := by
  by_cases h : a = 0
  · subst h
    by_cases hb : b = 0
    · subst hb; rfl
    · simp [hb]
  · simp [h]
theorem or3 (a b c : Int) : (([a, b, c].find? fun x => x != 0).getD 0) = if a ≠ 0 then a else if b ≠ 0 then b else c := by
  by_cases h : a = 0
  · subst h
    have := or2 b c
    simpa using this
  · simp [h]
theorem pbigs0_ok {a b : Str} {K : Int → Heap → Prop} (ma : isMin a = false) (mb : isMin b = false) (k : K (cmpD a b) H) : c_value_bigs C a b K H := by
  apply c_value_bigs.gh
  apply ad_value_bigs
  unfold sh_value_bigs
  refine pHasPrefix_ok (pHasPrefix_ok ?_)
  rw [pre45, pre45, ma, mb]
  refine ift_neg rfl (ift_neg rfl (ift_neg rfl ?_))
  refine pcmpI_ok (pcmpS_ok ?_)
  intro c hc
  refine por_ok (l := [sgn a.length b.length, vcmpS a b]) (Heap.put_same ..) rfl (by simp) ?_
  refine ⟨H, Gh.le (Heap.le_put hc), ?_⟩
  rw [or2]
  unfold cmpD at k
  by_cases h : a.length = b.length
  · rw [if_pos h] at k
    rw [if_neg (by rw [h, sgn_self]; simp)]; exact k
  · rw [if_neg h] at k
    rw [if_pos (fun e => h (by have := sgn_zero.1 e; omega))]; exact k
theorem pbigs_ok {a b : Str} {K : Int → Heap → Prop} (na : numS a = true) (nb : numS b = true) (k : K (cmpB a b) H) : c_value_bigs C a b K H := by
  by_cases hn : isMin a = false ∧ isMin b = false
  · rw [cmpB_no hn.1 hn.2] at k; exact pbigs0_ok hn.1 hn.2 k
  apply ad_value_bigs
  unfold sh_value_bigs
  refine pHasPrefix_ok (pHasPrefix_ok ?_)
  rw [pre45, pre45]
  unfold cmpB at k
  refine ift.of (fun h => ?_) (fun h => ?_)
  · obtain ⟨h1, h2⟩ := Bool.and_eq_true_iff.1 h
    rw [if_pos h1, if_pos h2] at k
    have la : 1 ≤ a.length := by have := numS_ne na; cases a <;> simp_all
    have lb : 1 ≤ b.length := by have := numS_ne nb; cases b <;> simp_all
    refine ⟨H, Heap.le.refl _, by omega, by omega, by omega, _, rfl, by omega, by omega, by omega, _, rfl, ?_⟩
    have ea : (a.take (a.length : Int).toNat).drop (1 : Int).toNat = a.tail := by simp
    have eb : (b.take (b.length : Int).toNat).drop (1 : Int).toNat = b.tail := by simp
    rw [ea, eb]
    exact pbigs0_ok (numS_isMin nb h2).1 (numS_isMin na h1).1 ⟨Heap.le.refl _, k⟩
  refine ift.of (fun h1 => ?_) (fun h1 => ?_)
  · rw [if_pos h1] at k
    have h2 : isMin b = false := by rw [h1] at h; simpa using h
    rw [if_neg (by rw [h2]; simp)] at k; exact k
  rw [if_neg (by rw [h1]; simp)] at k
  refine ift.of (fun h2 => ?_) (fun h2 => ?_)
  · rw [if_pos h2] at k; exact k
  · exact absurd ⟨h1, h2⟩ hn

theorem plast_ok {a b : Bool} {K : Int → Heap → Prop} (k : K (lastB a b) H) : c_value_last C a b K H := by
  apply ad_value_last
  unfold sh_value_last
  unfold lastB at k
  refine ift.of (fun h => ?_) (fun h => ?_)
  · rw [if_pos (by simpa using h)] at k; exact k
  rw [if_neg (by simpa using h)] at k
  refine ift.of (fun h => ?_) (fun h => ?_)
  · rw [if_pos h] at k; exact k
  · rw [if_neg (by rw [h]; decide)] at k; exact k

theorem may1_ok {v : V} {x : TV} {K : Bool → Heap → Prop} (hv : VIs H v x) (hB : VB v) (k : K (!mayV v) H) : c_value_may_1 C x K H := by
  apply c_value_may_1.gh
  apply ad_value_may_1
  unfold sh_value_may_1
  intro c hc
  have hle := Heap.le_put hc (g := .row (T_api_Value.c x)) (m := true)
  refine bxV (Heap.put_same ..) ?_
  refine value_Check_ok (hv.le hle) hB ⟨H, Gh.le hle, ?_⟩
  rw [bne, mayV_dec]; exact k
/-- a function that is asked of each value -/
theorem indexF_ok {l : List V} {s : Sl} {f : Value} {φ : V → Bool} {K : Int → Heap → Prop} (hs : VRow H s l) (hl : l.length ≤ 140737488355328)
    (hf : ∀ v x, v ∈ l → VIs H v x → ∀ Φ : Value → Heap → Prop, Φ (.bool (φ v)) H → callU Tryz.prog C f [.agg (T_api_Value.c x).toArray] H Φ)
    (k : ∀ i : Int, (0 ≤ i ↔ l.any φ = true) → K i H) : c_slices_IndexFunc_api_Value_api_Value C s f K H := by
  apply ad_slices_IndexFunc_api_Value_api_Value
  unfold sh_slices_IndexFunc_api_Value_api_Value
  rw [hs.len]
  refine ⟨fun x H' => ∃ i : Nat, x = (i : Int) ∧ i ≤ l.length ∧ H = H' ∧ (l.take i).any φ = false, fun x _ => l.length - x.toNat, ⟨0, rfl, Nat.zero_le _, rfl, rfl⟩, ?_⟩
  rintro x _ ⟨i, rfl, hi, rfl, ha⟩
  refine ift.of (fun h => ?_) (fun h => ?_)
  · have hlt : i < l.length := by have := of_decide_eq_true h; omega
    have hm := List.getElem_mem hlt
    refine hs.ld (Heap.le.refl _) rfl hlt fun y hy => ?_
    refine hf _ y hm hy _ ⟨_, rfl, ?_⟩
    refine ift.of (fun h => ?_) (fun h => ?_)
    · exact k _ ⟨fun _ => List.any_eq_true.2 ⟨_, hm, h⟩, fun _ => by omega⟩
    · rw [w_i64 (by omega) (by omega)]
      refine ⟨⟨i + 1, by omega, by omega, rfl, ?_⟩, by first | omega | (dsimp only; omega)⟩
      rw [List.take_add_one, List.getElem?_eq_getElem hlt, Option.toList_some, List.any_append, ha]; simp [h]
  · have hie : i = l.length := by have := of_decide_eq_false h; omega
    rw [hie, List.take_length] at ha
    exact k _ ⟨fun h => by omega, fun h => by rw [h] at ha; cases ha⟩
theorem containsF_ok {l : List V} {s : Sl} {f : Value} {φ : V → Bool} {K : Bool → Heap → Prop} (hs : VRow H s l) (hl : l.length ≤ 140737488355328)
    (hf : ∀ v x, v ∈ l → VIs H v x → ∀ Φ : Value → Heap → Prop, Φ (.bool (φ v)) H → callU Tryz.prog C f [.agg (T_api_Value.c x).toArray] H Φ)
    (k : K (l.any φ) H) : c_slices_ContainsFunc_api_Value_api_Value C s f K H := by
  apply ad_slices_ContainsFunc_api_Value_api_Value
  unfold sh_slices_ContainsFunc_api_Value_api_Value
  refine indexF_ok hs hl hf fun i hi => ?_
  have : decide (i ≥ 0) = l.any φ := by
    rw [Bool.eq_iff_iff, decide_eq_true_eq]; exact hi
  rw [this]; exact k
theorem pmay_ok {l : List V} {s : Sl} {K : Bool → Heap → Prop} (hs : VRow H s l) (hl : l.length ≤ 140737488355328) (hB : VBs l) (k : K (mayR l) H) : c_value_may C s K H := by
  apply ad_value_may
  unfold sh_value_may
  refine containsF_ok (φ := fun v => !mayV v) hs hl (fun v x hv hx Φ hΦ => ⟨_, [], [], rfl, ok_value_may_1, ?_⟩) ?_
  · have h : c_value_may_1 C x (fun r H2 => Φ (.bool r) H2) H := may1_ok hx (hB.mem hv) hΦ
    exact Spec.mono h fun v H2 ⟨r, hv, h⟩ => by rw [hv]; exact h
  · have : (!(l.any fun v => !mayV v)) = mayR l := by unfold mayR; rw [List.not_any_eq_all_not]; simp
    rw [this]; exact k

/-- rows, value by value -/
theorem compareF_ok {l m : List V} {s t : Sl} {f : Value} {K : Int → Heap → Prop} (hs : VRow H s l) (ht : VRow H t m) (hl : l.length ≤ 140737488355328) (hm : m.length ≤ 140737488355328)
    (hf : ∀ v x w y, v ∈ l → w ∈ m → ∀ A : Heap, H.le A → VIs A v x → VIs A w y → ∀ Φ : Value → Heap → Prop, Φ (.int .i64 (cmpV v w)) A → callU Tryz.prog C f [.agg (T_api_Value.c x).toArray, .agg (T_api_Value.c y).toArray] A Φ)
    (k : K (cmpVs l m) H) : c_slices_CompareFunc_api_Value_api_Value_api_Value_api_Value C s t f K H := by
  apply c_slices_CompareFunc_api_Value_api_Value_api_Value_api_Value.gh
  apply ad_slices_CompareFunc_api_Value_api_Value_api_Value_api_Value
  unfold sh_slices_CompareFunc_api_Value_api_Value_api_Value_api_Value
  rw [hs.len, ht.len]
  refine ⟨fun x A => ∃ i : Nat, x = (i : Int) ∧ i ≤ l.length ∧ i ≤ m.length ∧ H.le A ∧ cmpVs l m = cmpVs (l.drop i) (m.drop i), fun x _ => l.length - x.toNat, ⟨0, rfl, Nat.zero_le _, Nat.zero_le _, Heap.le.refl _, rfl⟩, ?_⟩
  rintro x A ⟨i, rfl, hi, hi2, hA, hc⟩
  refine ift.of (fun h => ?_) (fun h => ?_)
  · have h1 : i < l.length := by have := of_decide_eq_true h; omega
    have m1 := List.getElem_mem h1
    refine hs.ld hA rfl h1 fun y hy => ?_
    intro b1 n1
    have hle1 := Heap.le_put n1 (g := .row (T_api_Value.c T_api_Value.zero)) (m := true)
    refine ⟨_, Heap.put_same .., by simp [T_api_Value.c], ?_⟩
    have e1 : ∀ z : TV, splice (T_api_Value.c T_api_Value.zero) 0 (T_api_Value.c z) = T_api_Value.c z := fun z => by simp [splice, T_api_Value.c]
    dsimp only
    rw [e1, Heap.put_put]
    have hle1 := Heap.le_put n1 (g := .row (T_api_Value.c y)) (m := true)
    refine ift.of (fun h => ?_) (fun h => ?_)
    · have h2 : i = m.length := by have := of_decide_eq_true h; omega
      refine ⟨H, Gh.le (hA.trans hle1), ?_⟩
      subst h2
      rw [hc, List.drop_length, List.drop_eq_getElem_cons h1] at k; exact k
    · have h2 : i < m.length := by have := of_decide_eq_false h; omega
      have m2 := List.getElem_mem h2
      rw [List.drop_eq_getElem_cons h1, List.drop_eq_getElem_cons h2] at hc
      refine ht.ld (hA.trans hle1) rfl h2 fun z hz => ?_
      intro b2 n2
      refine ⟨_, Heap.put_same .., by simp [T_api_Value.c], ?_⟩
      dsimp only
      rw [e1, Heap.put_put]
      have hle2 := Heap.le_put n2 (g := .row (T_api_Value.c z)) (m := true)
      have hne : b1 ≠ b2 := fun e => by rw [← e, Heap.put_same] at n2; cases n2
      refine bxV (m := true) (by rw [Heap.put_ne _ _ _ hne, Heap.put_same]) (bxV (m := true) (Heap.put_same ..) ?_)
      have hle := (hA.trans hle1).trans hle2
      refine hf _ y _ z m1 m2 _ hle (hy.le hle) (hz.le hle) _ ⟨_, rfl, ?_⟩
      simp only [cmpVs] at hc
      refine ift.of (fun h => ?_) (fun h => ?_)
      · rw [if_pos (by simpa using h)] at hc
        rw [hc] at k; exact ⟨H, Gh.le hle, k⟩
      · rw [if_neg (by simpa using h)] at hc
        rw [w_i64 (by omega) (by omega)]
        exact ⟨⟨i + 1, by omega, by omega, by omega, hle, hc⟩, by first | omega | (dsimp only; omega)⟩
  · have h1 : i = l.length := by have := of_decide_eq_false h; omega
    subst h1
    rw [hc, List.drop_length, cmpVs_nil_l, List.length_drop] at k
    refine ift.of (fun h => ?_) (fun h => ?_)
    · have := of_decide_eq_true h
      rw [show sgn 0 ((m.length - l.length : Nat) : Int) = -1 by unfold sgn; rw [if_pos (by omega)]] at k
      exact ⟨H, Gh.le hA, k⟩
    · have := of_decide_eq_false h
      rw [show sgn 0 ((m.length - l.length : Nat) : Int) = 0 by rw [sgn_zero]; omega] at k
      exact ⟨H, Gh.le hA, k⟩
theorem prows_gen {l m : List V} {s t : Sl} {K : Int → Heap → Prop} (hs : VRow H s l) (ht : VRow H t m) (hl : l.length ≤ 140737488355328) (hm : m.length ≤ 140737488355328)
    (ih : ∀ v ∈ l, ∀ w ∈ m, ∀ {A : Heap} {x y : TV} {K : Int → Heap → Prop}, VIs A v x → VIs A w y → K (cmpV v w) A → c_value_item_cmp C x y K A) (k : K (cmpVs l m) H) : c_value_rows C s t K H := by
  apply ad_value_rows
  unfold sh_value_rows
  refine compareF_ok hs ht hl hm (fun v x w y hv hw A hA hx hy Φ hΦ => ⟨_, [], [], rfl, ok_value_rows_1, ?_⟩) k
  have h : c_value_rows_1 C x y (fun r H2 => Φ (.int .i64 r) H2) A := by
    apply c_value_rows_1.gh
    apply ad_value_rows_1
    unfold sh_value_rows_1
    intro b1 n1 b3 n3
    have hb3 : ((A.put b1 (.row (T_api_Value.c x))).put b3 (.row (T_api_Value.c y))) b3 = some (true, .row (T_api_Value.c y)) := Heap.put_same ..
    have hne : b1 ≠ b3 := fun e => by rw [e, Heap.put_same] at n3; cases n3
    have hb1 : ((A.put b1 (.row (T_api_Value.c x))).put b3 (.row (T_api_Value.c y))) b1 = some (true, .row (T_api_Value.c x)) := by rw [Heap.put_ne _ _ _ hne, Heap.put_same]
    have hle := (Heap.le_put n1 (g := .row (T_api_Value.c x)) (m := true)).trans (Heap.le_put n3 (g := .row (T_api_Value.c y)) (m := true))
    generalize (A.put b1 (.row (T_api_Value.c x))).put b3 (.row (T_api_Value.c y)) = B at *
    refine bxV hb1 (bxV hb3 ?_)
    exact ih v hv w hw (hx.le hle) (hy.le hle) ⟨A, Gh.le hle, hΦ⟩
  exact Spec.mono h fun v H2 ⟨r, hv, h⟩ => by rw [hv]; exact h

theorem okN_kinds {k n : Int} {s : Str} {m : Nat} (h : okN k n s m = true) : (k = 1 ∧ s = [] ∧ m = 0) ∨ (k = 2 ∧ s = [] ∧ m = 0) ∨ (k = 3 ∧ n = 0 ∧ m = 0) ∨ (k = 4 ∧ n = 0 ∧ m = 0) ∨ (k = 5 ∧ n = 0 ∧ s = []) ∨ (k = 6 ∧ n = 0) := by
  unfold okN at h
  split at h
  · rename_i e
    simp only [Bool.and_eq_true, decide_eq_true_eq, List.isEmpty_iff] at h
    exact .inl ⟨e, h.1.2, h.2⟩
  split at h
  · rename_i e
    simp only [Bool.and_eq_true, decide_eq_true_eq, List.isEmpty_iff] at h
    exact .inr (.inl ⟨e, h.1, h.2⟩)
  split at h
  · rename_i e
    simp only [Bool.and_eq_true, decide_eq_true_eq, beq_iff_eq] at h
    exact .inr (.inr (.inl ⟨e, h.1.2, h.2⟩))
  split at h
  · rename_i e
    simp only [Bool.and_eq_true, decide_eq_true_eq, beq_iff_eq] at h
    exact .inr (.inr (.inr (.inl ⟨e, h.1, h.2⟩)))
  split at h
  · rename_i e
    simp only [Bool.and_eq_true, decide_eq_true_eq, beq_iff_eq, List.isEmpty_iff] at h
    exact .inr (.inr (.inr (.inr (.inl ⟨e, h.1.1, h.1.2⟩))))
  split at h
  · rename_i e
    simp only [Bool.and_eq_true, decide_eq_true_eq, beq_iff_eq] at h
    exact .inr (.inr (.inr (.inr (.inr ⟨e, h.1⟩))))
  · cases h

theorem pcmp_ok {v w : V} {x y : TV} {H : Heap} {K : Int → Heap → Prop} (hv : VIs H v x) (hw : VIs H w y) (hB : VB v) (hB2 : VB w) (hF : formV v = true) (hF2 : formV w = true) (k : K (cmpV v w) H) : c_value_item_cmp C x y K H := by
  refine V.rec_ (P := fun v => ∀ {w x y H} {K : Int → Heap → Prop}, VIs H v x → VIs H w y → VB v → VB w → formV v = true → formV w = true → K (cmpV v w) H → c_value_item_cmp C x y K H) (fun v ih => ?_) v hv hw hB hB2 hF hF2 k
  clear hv hw hB hB2 hF hF2 k
  intro w x y H K hv hw hB hB2 hF hF2 k
  apply c_value_item_cmp.gh
  apply ad_value_item_cmp
  unfold sh_value_item_cmp
  intro b1 n1 b3 n3
  have hb3 : ((H.put b1 (.row (T_api_Value.c x))).put b3 (.row (T_api_Value.c y))) b3 = some (true, .row (T_api_Value.c y)) := Heap.put_same ..
  have hne : b1 ≠ b3 := fun e => by rw [e, Heap.put_same] at n3; cases n3
  have hb1 : ((H.put b1 (.row (T_api_Value.c x))).put b3 (.row (T_api_Value.c y))) b1 = some (true, .row (T_api_Value.c x)) := by rw [Heap.put_ne _ _ _ hne, Heap.put_same]
  have hle := (Heap.le_put n1 (g := .row (T_api_Value.c x)) (m := true)).trans (Heap.le_put n3 (g := .row (T_api_Value.c y)) (m := true))
  generalize (H.put b1 (.row (T_api_Value.c x))).put b3 (.row (T_api_Value.c y)) = H1 at *
  have k' : ∃ H0, Gh C H1 H0 ∧ K (cmpV v w) H0 := ⟨H, Gh.le hle, k⟩
  rw [formV_eq, Bool.and_eq_true] at hF hF2
  rw [cmpV_eq] at k'
  refine bxK hb1 (bxK hb3 ?_)
  rw [hv.kind, hw.kind]
  refine pcmp8_ok ?_
  refine ift.of (fun h => ?_) (fun h => ?_)
  · rw [if_pos (fun e => by rw [e, sgn_self] at h; simp at h)] at k'; exact k'
  have hkk : v.k = w.k := sgn_zero.1 (by simpa using h)
  rw [if_neg (by simp [hkk])] at k'
  have hr1 := hv.row.le hle
  have hr2 := hw.row.le hle
  refine bxK hb1 ?_
  rw [hv.kind]
  refine ift.of (fun h => ?_) (fun h3 => ?_)
  · have h : v.k = 3 := by simpa using h
    rw [if_pos h] at k'
    refine bxS hb1 (bxS hb3 ?_)
    rw [hv.txt, hw.txt]
    exact pbigs_ok (okN_num hF.1 h) (okN_num hF2.1 (by omega)) k'
  have h3 : ¬ v.k = 3 := by simpa using h3
  rw [if_neg h3] at k'
  refine ift.of (fun h => ?_) (fun h4 => ?_)
  · have h : v.k = 4 := by simpa using h
    rw [if_pos h] at k'
    refine bxS hb1 (bxS hb3 ?_)
    rw [hv.txt, hw.txt]
    exact pcmpS_ok k'
  have h4 : ¬ v.k = 4 := by simpa using h4
  rw [if_neg h4] at k'
  refine ⟨H1, Heap.le.refl _, ?_⟩
  refine bxN hb1 (bxN hb3 (bxS hb1 (bxS hb3 (bxL hb1 (bxL hb3 ?_)))))
  rw [hv.num, hw.num, hv.txt, hw.txt]
  refine pcmp64_ok ⟨Heap.le.refl _, pcmpS_ok ⟨Heap.le.refl _, ?_⟩⟩
  refine prows_gen hr1 hr2 hB.l hB2.l (fun p hp q hq {A x' y'} {K'} hx hy kk => ih p hp hx hy (hB.ls.mem hp) (hB2.ls.mem hq) (formVs_mem hp hF.2) (formVs_mem hq hF2.2) kk) ⟨Heap.le.refl _, ?_⟩
  intro b5 n5
  have hle5 := Heap.le_put n5 (g := .row [Value.int .i64 (sgn v.n w.n), .int .i64 (vcmpS v.s w.s), .int .i64 (cmpVs v.l w.l)]) (m := true)
  refine ⟨hle5, ?_⟩
  refine por_ok (l := [sgn v.n w.n, vcmpS v.s w.s, cmpVs v.l w.l]) (Heap.put_same ..) rfl (by simp) ⟨hle5, ?_⟩
  rw [or3]
  obtain ⟨H0, hg, hk⟩ := k'
  refine ⟨H0, (Gh.le hle5).trans hg, ?_⟩
  rcases okN_kinds hF.1 with ⟨e, e1, e2⟩ | ⟨e, e1, e2⟩ | ⟨e, _⟩ | ⟨e, _⟩ | ⟨e, e1, e2⟩ | ⟨e, e1⟩
  · rcases okN_kinds hF2.1 with ⟨f, f1, f2⟩ | ⟨f, _⟩ | ⟨f, _⟩ | ⟨f, _⟩ | ⟨f, _⟩ | ⟨f, _⟩ <;> try (exfalso; omega)
    rw [if_neg (by omega), if_neg (by omega)] at hk
    have l1 := List.length_eq_zero_iff.1 e2
    have l2 := List.length_eq_zero_iff.1 f2
    rw [e1, f1, l1, l2]
    split
    · exact hk
    · rename_i hz
      have : sgn v.n w.n = 0 := by omega
      rw [this] at hk
      simpa [vcmpS, cmpVs] using hk
  · rcases okN_kinds hF2.1 with ⟨f, _⟩ | ⟨f, f1, f2⟩ | ⟨f, _⟩ | ⟨f, _⟩ | ⟨f, _⟩ | ⟨f, _⟩ <;> try (exfalso; omega)
    rw [if_neg (by omega), if_neg (by omega)] at hk
    have l1 := List.length_eq_zero_iff.1 e2
    have l2 := List.length_eq_zero_iff.1 f2
    rw [e1, f1, l1, l2]
    split
    · exact hk
    · rename_i hz
      have : sgn v.n w.n = 0 := by omega
      rw [this] at hk
      simpa [vcmpS, cmpVs] using hk
  · exact absurd e h3
  · exact absurd e h4
  · rcases okN_kinds hF2.1 with ⟨f, _⟩ | ⟨f, _⟩ | ⟨f, _⟩ | ⟨f, _⟩ | ⟨f, f1, f2⟩ | ⟨f, _⟩ <;> try (exfalso; omega)
    rw [if_pos e] at hk
    rw [e1, f1, e2, f2, sgn_self]
    simpa [vcmpS] using hk
  · rcases okN_kinds hF2.1 with ⟨f, _⟩ | ⟨f, _⟩ | ⟨f, _⟩ | ⟨f, _⟩ | ⟨f, _⟩ | ⟨f, f1⟩ <;> try (exfalso; omega)
    rw [if_neg (by omega), if_pos e] at hk
    rw [e1, f1, sgn_self]
    simpa using hk

theorem prows_ok {l m : List V} {s t : Sl} {K : Int → Heap → Prop} (hs : VRow H s l) (ht : VRow H t m) (hl : l.length ≤ 140737488355328) (hm : m.length ≤ 140737488355328) (hB : VBs l) (hB2 : VBs m) (hF : mayR l = true) (hF2 : mayR m = true) (k : K (cmpVs l m) H) : c_value_rows C s t K H :=
  prows_gen hs ht hl hm (fun p hp q hq {A x' y'} {K'} hx hy kk => pcmp_ok hx hy (hB.mem hp) (hB2.mem hq) (mayV_form (List.all_eq_true.1 hF p hp)) (mayV_form (List.all_eq_true.1 hF2 q hq)) kk) k
theorem pCmpRows_ok {l m : List V} {s t : Sl} {K : Int → Heap → Prop} (hs : VRow H s l) (ht : VRow H t m) (hl : l.length ≤ 140737488355328) (hm : m.length ≤ 140737488355328) (hB : VBs l) (hB2 : VBs m) (k : K (cmpR l m) H) : c_value_CmpRows C s t K H := by
  apply ad_value_CmpRows
  unfold sh_value_CmpRows
  refine pmay_ok hs hl hB (pmay_ok ht hm hB2 ?_)
  unfold cmpR at k
  refine ift.of (fun h => ?_) (fun h => ?_)
  · refine plast_ok ?_
    rw [if_neg (by intro hh; rw [hh.1, hh.2] at h; cases h)] at k; exact k
  · have h1 : mayR l = true ∧ mayR m = true := by simpa using h
    rw [if_pos h1] at k
    exact prows_ok hs ht hl hm hB hB2 h1.1 h1.2 k
end
end Sx
end

noncomputable section
set_option linter.unusedVariables false
set_option linter.unusedSimpArgs false
namespace Sx
open Go Go.Proofs
/-- an order, told by signs -/
structure Lin {α : Type} (f : α → α → Int) (P : α → Prop) : Prop where
  anti : ∀ a b, P a → P b → f b a = - f a b
  rng : ∀ a b, P a → P b → -1 ≤ f a b ∧ f a b ≤ 1
  tr : ∀ a b c, P a → P b → P c → f a b ≤ 0 → f b c ≤ 0 → f a c ≤ 0 ∧ (f a b < 0 ∨ f b c < 0 → f a c < 0)
section
variable {α β : Type} {f g : α → α → Int} {P Q : α → Prop}
theorem Lin.refl (h : Lin f P) {a : α} (ha : P a) : f a a = 0 := by have := h.anti a a ha ha; omega
theorem Lin.l0 (h : Lin f P) {a b c : α} (ha : P a) (hb : P b) (hc : P c) (e : f a b = 0) : f a c = f b c := by
  have t1 := h.tr a b c ha hb hc (by omega)
  have e' := h.anti a b ha hb
  have t2 := h.tr b a c hb ha hc (by omega)
  have r1 := h.rng a c ha hc
  have r2 := h.rng b c hb hc
  rcases Int.lt_trichotomy (f b c) 0 with h1 | h1 | h1
  · have := (t1 (by omega)).2 (.inr h1); omega
  · have k1 := (t1 (by omega)).1
    rcases Int.lt_trichotomy (f a c) 0 with h2 | h2 | h2
    · have := (t2 (by omega)).2 (.inr h2); omega
    · omega
    · omega
  · rcases Int.lt_trichotomy (f a c) 0 with h2 | h2 | h2
    · have := (t2 (by omega)).2 (.inr h2); omega
    · have := (t2 (by omega)).1; omega
    · omega
theorem Lin.r0 (h : Lin f P) {a b c : α} (ha : P a) (hb : P b) (hc : P c) (e : f b c = 0) : f a c = f a b := by
  have h1 := h.anti b c hb hc
  have h2 := h.l0 hc hb ha (by omega)
  have h3 := h.anti a c ha hc
  have h4 := h.anti a b ha hb
  omega
theorem Lin.sub (h : Lin f P) (hs : ∀ a, Q a → P a) : Lin f Q := ⟨fun a b ha hb => h.anti a b (hs a ha) (hs b hb), fun a b ha hb => h.rng a b (hs a ha) (hs b hb), fun a b c ha hb hc => h.tr a b c (hs a ha) (hs b hb) (hs c hc)⟩
theorem Lin.swap (h : Lin f P) : Lin (fun a b => f b a) P := ⟨fun a b ha hb => h.anti b a hb ha, fun a b ha hb => h.rng b a hb ha, fun a b c ha hb hc h1 h2 => by
  have := h.tr c b a hc hb ha h2 h1
  exact ⟨this.1, fun hh => this.2 hh.symm⟩⟩
theorem Lin.comp {f : β → β → Int} {P : β → Prop} (h : Lin f P) (u : α → β) : Lin (fun a b => f (u a) (u b)) (fun a => P (u a)) :=
  ⟨fun a b ha hb => h.anti _ _ ha hb, fun a b ha hb => h.rng _ _ ha hb, fun a b c ha hb hc => h.tr _ _ _ ha hb hc⟩
theorem Lin.or (h : Lin f P) (h2 : Lin g P) : Lin (fun a b => if f a b ≠ 0 then f a b else g a b) P := by
  refine ⟨fun a b ha hb => ?_, fun a b ha hb => ?_, fun a b c ha hb hc => ?_⟩
  · have e1 := h.anti a b ha hb
    have e2 := h2.anti a b ha hb
    try dsimp only
    by_cases hz : f a b = 0
    · rw [if_neg (by omega), if_neg (by omega)]; exact e2
    · rw [if_pos (by omega), if_pos (by omega)]; exact e1
  · try dsimp only
    split
    · exact h.rng a b ha hb
    · exact h2.rng a b ha hb
  · try dsimp only
    have t := h.tr a b c ha hb hc
    have t2 := h2.tr a b c ha hb hc
    by_cases h1 : f a b = 0
    · have e := h.l0 ha hb hc h1
      by_cases h3 : f b c = 0
      · rw [if_neg (by omega), if_neg (by omega), if_neg (by omega)]; exact t2
      · rw [if_neg (by omega), if_pos h3, if_pos (by omega)]
        intro _ k2
        exact ⟨by omega, fun _ => by omega⟩
    · by_cases h3 : f b c = 0
      · have e := h.r0 ha hb hc h3
        rw [if_pos h1, if_neg (by omega), if_pos (by omega)]
        intro k1 _
        exact ⟨by omega, fun _ => by omega⟩
      · rw [if_pos h1, if_pos h3]
        intro k1 k2
        have := (t k1 k2).2 (.inl (by omega))
        rw [if_pos (by omega)]
        exact ⟨by omega, fun _ => this⟩
/-- first by classes, then within a class -/
theorem Lin.sel {κ : α → Int} {B : Int → α → α → Int} (hs : Lin (fun a b : Int => sgn a b) fun _ => True) (h : ∀ k, Lin (B k) P) : Lin (fun a b => if κ a ≠ κ b then sgn (κ a) (κ b) else B (κ a) a b) P := by
  refine ⟨fun a b ha hb => ?_, fun a b ha hb => ?_, fun a b c ha hb hc => ?_⟩
  · try dsimp only
    by_cases hz : κ a = κ b
    · rw [if_neg (by omega), if_neg (by omega), hz]; exact (h _).anti a b ha hb
    · rw [if_pos (by omega), if_pos (by omega)]; exact hs.anti _ _ trivial trivial
  · try dsimp only
    split
    · exact hs.rng _ _ trivial trivial
    · exact (h _).rng a b ha hb
  · try dsimp only
    have t := hs.tr (κ a) (κ b) (κ c) trivial trivial trivial
    try dsimp only at t
    by_cases h1 : κ a = κ b
    · by_cases h3 : κ b = κ c
      · rw [if_neg (by omega), if_neg (by omega), if_neg (by omega), ← h1]; exact (h _).tr a b c ha hb hc
      · rw [if_neg (by omega), if_pos h3, if_pos (by omega), h1]
        intro _ k2
        have := sgn_zero (a := κ b) (b := κ c)
        exact ⟨by omega, fun _ => by omega⟩
    · have z1 := sgn_zero (a := κ a) (b := κ b)
      by_cases h3 : κ b = κ c
      · rw [if_pos h1, if_neg (by omega), if_pos (by omega), ← h3]
        intro k1 _
        exact ⟨by omega, fun _ => by omega⟩
      · rw [if_pos h1, if_pos h3]
        intro k1 k2
        have := (t k1 k2).2 (.inl (by omega))
        have z2 := sgn_neg.1 this
        rw [if_pos (by omega)]
        exact ⟨by omega, fun _ => this⟩
end
theorem Lin.sgn : Lin (fun a b : Int => sgn a b) fun _ => True := by
  refine ⟨fun a b _ _ => ?_, fun a b _ _ => sgn_rng a b, fun a b c _ _ _ h1 h2 => ?_⟩
  · unfold Sx.sgn; split <;> split <;> omega
  · have n1 := sgn_neg (a := a) (b := b)
    have n2 := sgn_neg (a := b) (b := c)
    have n3 := sgn_neg (a := a) (b := c)
    have z1 := sgn_zero (a := a) (b := b)
    have z2 := sgn_zero (a := b) (b := c)
    have z3 := sgn_zero (a := a) (b := c)
    omega
def lexF {α : Type} (f : α → α → Int) : List α → List α → Int
  | [], [] => 0
  | [], _ :: _ => -1
  | _ :: _, [] => 1
  | a :: s, b :: t => if f a b ≠ 0 then f a b else lexF f s t
theorem Lin.lex {α : Type} {f : α → α → Int} {P : α → Prop} (h : Lin f P) : Lin (lexF f) (fun l => ∀ a ∈ l, P a) := by
  refine ⟨fun l => ?_, fun l => ?_, fun l => ?_⟩
  · induction l with
    | nil => intro m _ _; cases m <;> simp [lexF]
    | cons a l ih =>
      intro m hl hm
      cases m with
      | nil => simp [lexF]
      | cons b m =>
        have ha := hl a (List.mem_cons_self ..)
        have hb := hm b (List.mem_cons_self ..)
        have e1 := h.anti a b ha hb
        have e2 := ih m (fun x hx => hl x (List.mem_cons_of_mem _ hx)) (fun x hx => hm x (List.mem_cons_of_mem _ hx))
        simp only [lexF]
        by_cases hz : f a b = 0
        · rw [if_neg (by omega), if_neg (by omega)]; exact e2
        · rw [if_pos (by omega), if_pos (by omega)]; exact e1
  · induction l with
    | nil => intro m _ _; cases m <;> simp [lexF]
    | cons a l ih =>
      intro m hl hm
      cases m with
      | nil => simp [lexF]
      | cons b m =>
        simp only [lexF]
        split
        · exact h.rng a b (hl a (List.mem_cons_self ..)) (hm b (List.mem_cons_self ..))
        · exact ih m (fun x hx => hl x (List.mem_cons_of_mem _ hx)) (fun x hx => hm x (List.mem_cons_of_mem _ hx))
  · induction l with
    | nil =>
      intro m n _ _ _ h1 h2
      cases n with
      | nil =>
        cases m with
        | nil => simp [lexF]
        | cons b m => simp [lexF] at h2
      | cons c n => simp [lexF]
    | cons a l ih =>
      intro m n hl hm hn
      cases m with
      | nil => intro h1; simp [lexF] at h1
      | cons b m =>
      cases n with
      | nil => intro _ h2; simp [lexF] at h2
      | cons c n =>
        have ha := hl a (List.mem_cons_self ..)
        have hb := hm b (List.mem_cons_self ..)
        have hc := hn c (List.mem_cons_self ..)
        have t := h.tr a b c ha hb hc
        have t2 := ih m n (fun x hx => hl x (List.mem_cons_of_mem _ hx)) (fun x hx => hm x (List.mem_cons_of_mem _ hx)) (fun x hx => hn x (List.mem_cons_of_mem _ hx))
        simp only [lexF]
        by_cases h1 : f a b = 0
        · have e := h.l0 ha hb hc h1
          by_cases h3 : f b c = 0
          · rw [if_neg (by omega), if_neg (by omega), if_neg (by omega)]; exact t2
          · rw [if_neg (by omega), if_pos h3, if_pos (by omega)]
            intro _ k2
            exact ⟨by omega, fun _ => by omega⟩
        · by_cases h3 : f b c = 0
          · have e := h.r0 ha hb hc h3
            rw [if_pos h1, if_neg (by omega), if_pos (by omega)]
            intro k1 _
            exact ⟨by omega, fun _ => by omega⟩
          · rw [if_pos h1, if_pos h3]
            intro k1 k2
            have := (t k1 k2).2 (.inl (by omega))
            rw [if_pos (by omega)]
            exact ⟨by omega, fun _ => this⟩

theorem vcmpS_lex : ∀ s t : Str, vcmpS s t = lexF (fun a b : UInt8 => sgn a.toNat b.toNat) s t
  | [], [] => rfl
  | [], _ :: _ => rfl
  | _ :: _, [] => rfl
  | a :: s, b :: t => by
    simp only [vcmpS, lexF, vcmpS_lex s t]
    by_cases h : a = b
    · subst h; rw [sgn_self]; simp
    · have : ¬ sgn a.toNat b.toNat = 0 := fun e => h (UInt8.toNat_inj.1 (by have := sgn_zero.1 e; omega))
      rw [if_neg h, if_pos this]
theorem Lin.txt : Lin vcmpS fun _ => True := by
  have h := (Lin.sgn.comp (fun a : UInt8 => (a.toNat : Int))).lex
  have e : vcmpS = lexF (fun a b : UInt8 => Sx.sgn a.toNat b.toNat) := funext fun s => funext fun t => vcmpS_lex s t
  rw [e]
  exact h.sub fun _ _ _ _ => trivial
theorem Lin.dig : Lin cmpD fun _ => True := by
  have h := (Lin.sgn.comp (fun a : Str => (a.length : Int))).or Lin.txt
  have e : cmpD = fun a b : Str => if Sx.sgn a.length b.length ≠ 0 then Sx.sgn a.length b.length else vcmpS a b := funext fun a => funext fun b => by
    unfold cmpD
    by_cases hl : a.length = b.length
    · rw [if_pos hl, if_neg (by rw [hl, sgn_self]; simp)]
    · rw [if_neg hl, if_pos (fun e => hl (by have := sgn_zero.1 e; omega))]
  rw [e]; exact h
theorem Lin.bigs : Lin cmpB fun _ => True := by
  have h := Lin.sel (α := Str) (P := fun _ => True) (κ := fun s => if isMin s then 0 else 1) (B := fun k a b => if k = 0 then cmpD b.tail a.tail else cmpD a b) Lin.sgn fun k => by
    by_cases hk : k = 0
    · subst hk
      simp only [if_true]
      exact (Lin.dig.swap.comp List.tail)
    · simp only [if_neg hk]
      exact Lin.dig
  have e : cmpB = fun a b : Str => if (if isMin a then (0 : Int) else 1) ≠ (if isMin b then 0 else 1) then Sx.sgn (if isMin a then 0 else 1) (if isMin b then 0 else 1) else (if (if isMin a then (0 : Int) else 1) = 0 then cmpD b.tail a.tail else cmpD a b) := funext fun a => funext fun b => by
    unfold cmpB
    cases ha : isMin a <;> cases hb : isMin b <;> simp [Sx.sgn]
  rw [e]; exact h
theorem cmpVs_lex : ∀ l m : List V, cmpVs l m = lexF cmpV l m
  | [], [] => rfl
  | [], _ :: _ => rfl
  | _ :: _, [] => rfl
  | v :: l, w :: m => by simp only [cmpVs, lexF, cmpVs_lex l m]
theorem Lin.vals : ∀ n : Nat, Lin cmpV fun v => vsize v ≤ n := by
  intro n
  induction n with
  | zero => exact ⟨fun a b ha => by obtain ⟨k, n, s, l⟩ := a; simp [vsize] at ha, fun a b ha => by obtain ⟨k, n, s, l⟩ := a; simp [vsize] at ha, fun a b c ha => by obtain ⟨k, n, s, l⟩ := a; simp [vsize] at ha⟩
  | succ n ih =>
    have hl : Lin (fun v w : V => cmpVs v.l w.l) fun v => vsize v ≤ n + 1 := by
      have h := (ih.lex).comp V.l
      have e : (fun v w : V => cmpVs v.l w.l) = fun v w : V => lexF cmpV v.l w.l := funext fun v => funext fun w => cmpVs_lex _ _
      rw [e]
      exact h.sub fun v hv x hx => by have := vsize_l hx; omega
    have hs : Lin (fun v w : V => vcmpS v.s w.s) fun v => vsize v ≤ n + 1 := (Lin.txt.comp V.s).sub fun _ _ => trivial
    have h := Lin.sel (α := V) (P := fun v => vsize v ≤ n + 1) (κ := V.k) (B := fun k v w => if k = 3 then cmpB v.s w.s else if k = 4 then vcmpS v.s w.s else if k = 5 then cmpVs v.l w.l else if k = 6 then (if vcmpS v.s w.s ≠ 0 then vcmpS v.s w.s else cmpVs v.l w.l) else Sx.sgn v.n w.n) Lin.sgn fun k => by
      by_cases h3 : k = 3
      · simp only [if_pos h3]; exact (Lin.bigs.comp V.s).sub fun _ _ => trivial
      simp only [if_neg h3]
      by_cases h4 : k = 4
      · simp only [if_pos h4]; exact hs
      simp only [if_neg h4]
      by_cases h5 : k = 5
      · simp only [if_pos h5]; exact hl
      simp only [if_neg h5]
      by_cases h6 : k = 6
      · simp only [if_pos h6]; exact hs.or hl
      simp only [if_neg h6]
      exact (Lin.sgn.comp V.n).sub fun _ _ => trivial
    have e : cmpV = fun v w : V => if v.k ≠ w.k then Sx.sgn v.k w.k else if v.k = 3 then cmpB v.s w.s else if v.k = 4 then vcmpS v.s w.s else if v.k = 5 then cmpVs v.l w.l else if v.k = 6 then (if vcmpS v.s w.s ≠ 0 then vcmpS v.s w.s else cmpVs v.l w.l) else Sx.sgn v.n w.n := funext fun v => funext fun w => cmpV_eq v w
    rw [e]; exact h
theorem Lin.val : Lin cmpV fun _ => True := by
  refine ⟨fun a b _ _ => ?_, fun a b _ _ => ?_, fun a b c _ _ _ => ?_⟩
  · exact (Lin.vals (vsize a + vsize b)).anti a b (by omega) (by omega)
  · exact (Lin.vals (vsize a + vsize b)).rng a b (by omega) (by omega)
  · exact (Lin.vals (vsize a + vsize b + vsize c)).tr a b c (by omega) (by omega) (by omega)
theorem Lin.vs : Lin cmpVs fun _ => True := by
  have e : cmpVs = lexF cmpV := funext fun l => funext fun m => cmpVs_lex l m
  rw [e]
  exact Lin.val.lex.sub fun _ _ _ _ => trivial
theorem Lin.row : Lin cmpR fun _ => True := by
  have h := Lin.sel (α := List V) (P := fun _ => True) (κ := fun l => if mayR l then 0 else 1) (B := fun k a b => if k = 0 then cmpVs a b else 0) Lin.sgn fun k => by
    by_cases hk : k = 0
    · simp only [if_pos hk]; exact Lin.vs
    · simp only [if_neg hk]
      exact ⟨fun _ _ _ _ => rfl, fun _ _ _ _ => by simp, fun _ _ _ _ _ _ _ _ => by simp⟩
  have e : cmpR = fun a b : List V => if (if mayR a then (0 : Int) else 1) ≠ (if mayR b then 0 else 1) then Sx.sgn (if mayR a then 0 else 1) (if mayR b then 0 else 1) else (if (if mayR a then (0 : Int) else 1) = 0 then cmpVs a b else 0) := funext fun a => funext fun b => by
    unfold cmpR lastB
    cases ha : mayR a <;> cases hb : mayR b <;> simp [Sx.sgn]
  rw [e]; exact h

end Sx
end

noncomputable section
set_option linter.unusedVariables false
set_option linter.unusedSimpArgs false
namespace Sx
open Go Go.Proofs
section
variable {α : Type} {κ : α → α → Int} {ι : α → Nat} {P : α → Prop}
/-- stands ahead; of two alike the one that was ahead -/
def Bf (κ : α → α → Int) (ι : α → Nat) (x y : α) : Prop := κ x y < 0 ∨ (κ x y = 0 ∧ ι x < ι y)
theorem Bf.le {x y : α} (h : Bf κ ι x y) : κ x y ≤ 0 := by rcases h with h | h <;> omega
theorem Bf.of {x y : α} (h : κ x y ≤ 0) (hi : ι x < ι y) : Bf κ ι x y := by
  rcases Int.lt_or_eq_of_le h with h | h
  · exact .inl h
  · exact .inr ⟨h, hi⟩
theorem pw_mid {R : α → α → Prop} {Y : List α} (h : Y.Pairwise R) {i : Nat} (hi : i < Y.length) : (∀ y ∈ Y.take i, R y Y[i]) ∧ (∀ y ∈ Y.drop (i + 1), R Y[i] y) := by
  have h' : (Y.take i ++ Y[i] :: Y.drop (i + 1)).Pairwise R := by rw [← List.drop_eq_getElem_cons hi, List.take_append_drop]; exact h
  rw [List.pairwise_append] at h'
  exact ⟨fun y hy => h'.2.2 y hy _ (List.mem_cons_self ..), fun y hy => (List.pairwise_cons.1 h'.2.1).1 y hy⟩
theorem pw_split {R : α → α → Prop} {Y : List α} (h : Y.Pairwise R) (i : Nat) : (Y.take i).Pairwise R ∧ (Y.drop i).Pairwise R ∧ ∀ x ∈ Y.take i, ∀ y ∈ Y.drop i, R x y := by
  have h' : (Y.take i ++ Y.drop i).Pairwise R := by rw [List.take_append_drop]; exact h
  exact List.pairwise_append.1 h'
theorem eq_mid {Y : List α} {i : Nat} (hi : i < Y.length) : Y = Y.take i ++ Y[i] :: Y.drop (i + 1) := by rw [← List.drop_eq_getElem_cons hi, List.take_append_drop]
theorem mem_take {Y : List α} {i : Nat} {x : α} (h : x ∈ Y.take i) : x ∈ Y := List.mem_of_mem_take h
theorem mem_drop {Y : List α} {i : Nat} {x : α} (h : x ∈ Y.drop i) : x ∈ Y := List.mem_of_mem_drop h
theorem snoc_of {Y : List α} (h : Y ≠ []) : ∃ Z z, Y = Z ++ [z] := ⟨Y.dropLast, Y.getLast h, (List.dropLast_concat_getLast h).symm⟩
/-- one, then many -/
theorem ins1 (hL : Lin κ P) {x : α} {Y1 Y2 : List α} (hY : (Y1 ++ Y2).Pairwise (Bf κ ι)) (hPx : P x) (hPY : ∀ y ∈ Y1 ++ Y2, P y) (h1 : ∀ y ∈ Y1, κ y x < 0) (h2 : ∀ y ∈ Y2, ¬ κ y x < 0) (hi : ∀ y ∈ Y1 ++ Y2, ι x < ι y) : (Y1 ++ x :: Y2).Pairwise (Bf κ ι) := by
  rw [List.pairwise_append] at hY ⊢
  refine ⟨hY.1, List.pairwise_cons.2 ⟨fun y hy => ?_, hY.2.1⟩, fun y hy z hz => ?_⟩
  · have hm := List.mem_append_right Y1 hy
    have := hL.anti y x (hPY y hm) hPx
    have := h2 y hy
    exact Bf.of (by omega) (hi y hm)
  · rcases List.mem_cons.1 hz with rfl | hz
    · exact .inl (h1 y hy)
    · exact hY.2.2 y hy z hz
/-- many, then one -/
theorem ins2 (hL : Lin κ P) {y : α} {X1 X2 : List α} (hX : (X1 ++ X2).Pairwise (Bf κ ι)) (hPy : P y) (hPX : ∀ x ∈ X1 ++ X2, P x) (h1 : ∀ x ∈ X1, ¬ κ y x < 0) (h2 : ∀ x ∈ X2, κ y x < 0) (hi : ∀ x ∈ X1 ++ X2, ι x < ι y) : (X1 ++ y :: X2).Pairwise (Bf κ ι) := by
  rw [List.pairwise_append] at hX ⊢
  refine ⟨hX.1, List.pairwise_cons.2 ⟨fun x hx => .inl (h2 x hx), hX.2.1⟩, fun x hx z hz => ?_⟩
  rcases List.mem_cons.1 hz with rfl | hz
  · have hm := List.mem_append_left X2 hx
    have := hL.anti z x hPy (hPX x hm)
    have := h1 x hx
    exact Bf.of (by omega) (hi x hm)
  · exact hX.2.2 x hx z hz

/-- what was sorted by blocks -/
inductive Ch (κ : α → α → Int) (ι : α → Nat) (bs : Nat) : List α → List α → Prop
  | last {Z L : List α} : L.length < bs → Z.Perm L → Z.Pairwise (Bf κ ι) → Ch κ ι bs Z L
  | cons {Z L Z' L' : List α} : L.length = bs → Z.Perm L → Z.Pairwise (Bf κ ι) → Ch κ ι bs Z' L' → Ch κ ι bs (Z ++ Z') (L ++ L')
theorem Ch.perm {bs : Nat} {Z L : List α} (h : Ch κ ι bs Z L) : Z.Perm L := by
  induction h with
  | last _ h _ => exact h
  | cons _ h _ _ ih => exact h.append ih
theorem Ch.big {bs : Nat} {Z L : List α} (h : Ch κ ι bs Z L) (hl : bs ≤ L.length) : ∃ Z1 Z2 L1 L2, Z = Z1 ++ Z2 ∧ L = L1 ++ L2 ∧ L1.length = bs ∧ Z1.Perm L1 ∧ Z1.Pairwise (Bf κ ι) ∧ Ch κ ι bs Z2 L2 := by
  cases h with
  | last h _ _ => omega
  | cons h1 h2 h3 h4 => exact ⟨_, _, _, _, rfl, rfl, h1, h2, h3, h4⟩
theorem Ch.small {bs : Nat} {Z L : List α} (h : Ch κ ι bs Z L) (hl : L.length < bs) : Z.Pairwise (Bf κ ι) := by
  cases h with
  | last _ _ h => exact h
  | cons h1 h2 h3 h4 => rw [List.length_append] at hl; omega
theorem Ch.all {bs : Nat} {Z L : List α} (h : Ch κ ι bs Z L) (hl : L.length ≤ bs) (h0 : 0 < bs) : Z.Pairwise (Bf κ ι) := by
  cases h with
  | last _ _ h => exact h
  | @cons Z1 L1 Z2 L2 h1 h2 h3 h4 =>
    rw [List.length_append] at hl
    have hp := h4.perm.length_eq
    have e : Z2 = [] := List.length_eq_zero_iff.1 (by rw [hp]; omega)
    rw [e, List.append_nil]; exact h3
end
theorem half_ok {a b : Nat} (h : a + b ≤ 4611686018427387904) : w .i64 (sShr .u64 (w .u64 (w .i64 ((a : Int) + (b : Int)))) 1) = (((a + b) / 2 : Nat) : Int) := by
  have e1 : w .u64 ((a : Int) + b) = (a : Int) + b := by
    exact w_u64 (by omega) (by omega)
  have e2 : sShr .u64 ((a : Int) + b) 1 = (((a + b) / 2 : Nat) : Int) := by
    unfold sShr
    have : (2 : Int) ^ (min (1 : Int).toNat IntKind.u64.bits) = 2 := by decide
    rw [this, Int.fdiv_eq_ediv_of_nonneg _ (by omega)]; omega
  rw [w_i64 (x := (a : Int) + b) (by omega) (by omega), e1, e2, w_i64 (by omega) (by omega)]
end Sx
end

noncomputable section
set_option linter.unusedVariables false
set_option linter.unusedSimpArgs false
namespace Sx
open Go Go.Proofs
section
variable {α β : Type} {κ : α → α → Int} {ι : α → Nat} {P : α → Prop}
/-- those behind p that are unlike the one ahead of them -/
def cpt (κ : α → α → Int) : α → List α → List α
  | _, [] => []
  | p, y :: l => if κ y p = 0 then cpt κ y l else y :: cpt κ y l
def cmpct (κ : α → α → Int) : List α → List α
  | [] => []
  | x :: l => x :: cpt κ x l
theorem cpt_snoc {x y : α} : ∀ (l : List α) (p : α), cpt κ p (l ++ [x, y]) = cpt κ p (l ++ [x]) ++ (if κ y x = 0 then [] else [y])
  | [], p => by
    simp only [List.nil_append, cpt]
    by_cases h : κ y x = 0 <;> by_cases h2 : κ x p = 0 <;> simp [h, h2]
  | z :: l, p => by
    have ih := cpt_snoc (x := x) (y := y) l z
    simp only [List.cons_append, cpt]
    by_cases h2 : κ z p = 0
    · rw [if_pos h2, if_pos h2, ih]
    · rw [if_neg h2, if_neg h2, ih, List.cons_append]
theorem cmpct_snoc {x y : α} : ∀ l : List α, cmpct κ (l ++ [x, y]) = cmpct κ (l ++ [x]) ++ (if κ y x = 0 then [] else [y])
  | [] => by
    simp only [List.nil_append, cmpct, cpt]
    by_cases h : κ y x = 0 <;> simp [h]
  | z :: l => by
    simp only [List.cons_append, cmpct, cpt_snoc]
theorem cpt_len : ∀ (l : List α) (p : α), (cpt κ p l).length ≤ l.length
  | [], p => Nat.le_refl _
  | y :: l, p => by
    have := cpt_len l y
    simp only [cpt]
    split <;> simp only [List.length_cons] <;> omega
theorem cmpct_len : ∀ l : List α, (cmpct κ l).length ≤ l.length
  | [] => Nat.le_refl _
  | x :: l => by have := cpt_len (κ := κ) l x; simp only [cmpct, List.length_cons]; omega
/-- of each kind the first one, rising -/
structure Rep (κ : α → α → Int) (ι : α → Nat) (L A : List α) : Prop where
  asc : A.Pairwise fun a b => κ a b < 0
  sub : ∀ y ∈ A, y ∈ L
  all : ∀ x ∈ L, ∃ y ∈ A, κ y x = 0
  fst : ∀ y ∈ A, ∀ x ∈ L, κ y x = 0 → x = y ∨ ι y < ι x
theorem Rep.perm {L M A : List α} (h : Rep κ ι L A) (hp : L.Perm M) : Rep κ ι M A :=
  ⟨h.asc, fun y hy => hp.mem_iff.1 (h.sub y hy), fun x hx => h.all x (hp.mem_iff.2 hx), fun y hy x hx => h.fst y hy x (hp.mem_iff.2 hx)⟩
theorem asc_ext (hL : Lin κ P) : ∀ {A B : List α}, A.Pairwise (fun a b => κ a b < 0) → B.Pairwise (fun a b => κ a b < 0) → (∀ x ∈ A, P x) → (∀ x, x ∈ A ↔ x ∈ B) → A = B
  | [], [], _, _, _, _ => rfl
  | [], b :: B, _, _, _, h => absurd ((h b).2 (List.mem_cons_self ..)) (by simp)
  | a :: A, [], _, _, _, h => absurd ((h a).1 (List.mem_cons_self ..)) (by simp)
  | a :: A, b :: B, hA, hB, hP, h => by
    rw [List.pairwise_cons] at hA hB
    have hab : a = b := by
      rcases List.mem_cons.1 ((h a).1 (List.mem_cons_self ..)) with e | e
      · exact e
      rcases List.mem_cons.1 ((h b).2 (List.mem_cons_self ..)) with e2 | e2
      · exact e2.symm
      have h1 := hB.1 a e
      have h2 := hA.1 b e2
      have := hL.anti a b (hP a (List.mem_cons_self ..)) (hP b ((h b).2 (List.mem_cons_self ..)))
      omega
    subst hab
    have hr := hL.refl (hP a (List.mem_cons_self ..))
    rw [asc_ext hL hA.2 hB.2 (fun x hx => hP x (List.mem_cons_of_mem _ hx)) fun x => ⟨fun hx => ?_, fun hx => ?_⟩]
    · rcases List.mem_cons.1 ((h x).1 (List.mem_cons_of_mem _ hx)) with e | e
      · have := hA.1 x hx; rw [e] at this; omega
      · exact e
    · rcases List.mem_cons.1 ((h x).2 (List.mem_cons_of_mem _ hx)) with e | e
      · have := hB.1 x hx; rw [e] at this; omega
      · exact e
theorem Rep.uniq (hL : Lin κ P) {L A B : List α} (hP : ∀ x ∈ L, P x) (ha : Rep κ ι L A) (hb : Rep κ ι L B) : A = B := by
  have key : ∀ {A B : List α}, Rep κ ι L A → Rep κ ι L B → ∀ x ∈ A, x ∈ B := fun {A B} ha hb x hx => by
    have hxl := ha.sub x hx
    obtain ⟨z, hz, e⟩ := hb.all x hxl
    have hzl := hb.sub z hz
    have e2 := hL.anti x z (hP x hxl) (hP z hzl)
    rcases hb.fst z hz x hxl e with h | h
    · rw [h]; exact hz
    rcases ha.fst x hx z hzl (by omega) with h2 | h2
    · rw [← h2]; exact hz
    · omega
  exact asc_ext hL ha.asc hb.asc (fun x hx => hP x (ha.sub x hx)) fun x => ⟨key ha hb x, key hb ha x⟩

theorem cpt_ok (hL : Lin κ P) : ∀ (l : List α) (p : α), (p :: l).Pairwise (Bf κ ι) → (∀ x ∈ p :: l, P x) →
    (∀ y ∈ cpt κ p l, y ∈ l ∧ κ p y < 0) ∧ ((cpt κ p l).Pairwise fun a b => κ a b < 0) ∧ (∀ x ∈ l, κ p x = 0 ∨ ∃ y ∈ cpt κ p l, κ y x = 0) ∧ (∀ y ∈ cpt κ p l, ∀ x ∈ p :: l, κ y x = 0 → x = y ∨ ι y < ι x)
  | [], p, _, _ => ⟨fun y hy => (by cases hy), .nil, fun x hx => (by cases hx), fun y hy => (by cases hy)⟩
  | y :: l, p, hs, hP => by
    have hs1 := (List.pairwise_cons.1 hs)
    have hs2 := (List.pairwise_cons.1 hs1.2)
    have hp := hP p (List.mem_cons_self ..)
    have hP2 : ∀ x ∈ y :: l, P x := fun x hx => hP x (List.mem_cons_of_mem _ hx)
    have hy := hP2 y (List.mem_cons_self ..)
    have hPl : ∀ x ∈ l, P x := fun x hx => hP2 x (List.mem_cons_of_mem _ hx)
    obtain ⟨i1, i2, i3, i4⟩ := cpt_ok hL l y hs1.2 hP2
    have han := hL.anti p y hp hy
    have hle := (hs1.1 y (List.mem_cons_self ..)).le
    have hlt : ∀ z ∈ cpt κ y l, κ p z < 0 := fun z hz => by
      have ⟨m, n⟩ := i1 z hz
      exact (hL.tr p y z hp hy (hPl z m) hle (by omega)).2 (.inr n)
    have hpz : ∀ z ∈ l, κ p z < 0 → κ z p ≠ 0 := fun z hz h e => by
      have := hL.anti p z hp (hPl z hz); omega
    simp only [cpt]
    by_cases h : κ y p = 0
    · rw [if_pos h]
      have h0 : κ p y = 0 := by omega
      refine ⟨fun z hz => ⟨List.mem_cons_of_mem _ (i1 z hz).1, hlt z hz⟩, i2, fun x hx => ?_, fun z hz x hx e => ?_⟩
      · rcases List.mem_cons.1 hx with rfl | hx
        · exact .inl h0
        · rcases i3 x hx with h3 | h3
          · exact .inl (by rw [hL.l0 hp hy (hPl x hx) h0]; exact h3)
          · exact .inr h3
      · rcases List.mem_cons.1 hx with rfl | hx
        · exact absurd e (hpz z (i1 z hz).1 (hlt z hz))
        · exact i4 z hz x hx e
    · rw [if_neg h]
      have h0 : κ p y < 0 := by omega
      refine ⟨fun z hz => ?_, List.pairwise_cons.2 ⟨fun z hz => (i1 z hz).2, i2⟩, fun x hx => ?_, fun z hz x hx e => ?_⟩
      · rcases List.mem_cons.1 hz with rfl | hz
        · exact ⟨List.mem_cons_self .., h0⟩
        · exact ⟨List.mem_cons_of_mem _ (i1 z hz).1, hlt z hz⟩
      · rcases List.mem_cons.1 hx with rfl | hx
        · exact .inr ⟨_, List.mem_cons_self .., hL.refl hy⟩
        · rcases i3 x hx with h3 | ⟨z, hz, h3⟩
          · exact .inr ⟨_, List.mem_cons_self .., h3⟩
          · exact .inr ⟨z, List.mem_cons_of_mem _ hz, h3⟩
      · rcases List.mem_cons.1 hz with rfl | hz
        · rcases List.mem_cons.1 hx with rfl | hx
          · exact absurd e h
          · rcases List.mem_cons.1 hx with rfl | hx
            · exact .inl rfl
            · rcases hs2.1 x hx with h5 | h5
              · omega
              · exact .inr h5.2
        · rcases List.mem_cons.1 hx with rfl | hx
          · exact absurd e (hpz z (i1 z hz).1 (hlt z hz))
          · exact i4 z hz x hx e
theorem cmpct_ok (hL : Lin κ P) {Z : List α} (hs : Z.Pairwise (Bf κ ι)) (hP : ∀ x ∈ Z, P x) : Rep κ ι Z (cmpct κ Z) := by
  cases Z with
  | nil => exact ⟨.nil, fun y hy => hy, fun x hx => (by cases hx), fun y hy => (by cases hy)⟩
  | cons p l =>
    obtain ⟨i1, i2, i3, i4⟩ := cpt_ok hL l p hs hP
    have hs1 := List.pairwise_cons.1 hs
    have hp := hP p (List.mem_cons_self ..)
    refine ⟨List.pairwise_cons.2 ⟨fun z hz => (i1 z hz).2, i2⟩, fun y hy => ?_, fun x hx => ?_, fun y hy x hx e => ?_⟩
    · rcases List.mem_cons.1 hy with rfl | hy
      · exact List.mem_cons_self ..
      · exact List.mem_cons_of_mem _ (i1 y hy).1
    · rcases List.mem_cons.1 hx with rfl | hx
      · exact ⟨_, List.mem_cons_self .., hL.refl hp⟩
      · rcases i3 x hx with h | ⟨y, hy, h⟩
        · exact ⟨p, List.mem_cons_self .., h⟩
        · exact ⟨y, List.mem_cons_of_mem _ hy, h⟩
    · rcases List.mem_cons.1 hy with rfl | hy
      · rcases List.mem_cons.1 hx with rfl | hx
        · exact .inl rfl
        · rcases hs1.1 x hx with h | h
          · omega
          · exact .inr h.2
      · exact i4 y hy x hx e

/-- two that rise, in one; of two alike the first list's -/
def mrg (κ : α → α → Int) : List α → List α → List α
  | [], b => b
  | x :: a, [] => x :: a
  | x :: a, y :: b => if κ x y < 0 then x :: mrg κ a (y :: b) else if κ x y = 0 then x :: mrg κ a b else y :: mrg κ (x :: a) b
termination_by a b => a.length + b.length
theorem mrg_nil {a : List α} : mrg κ a [] = a := by cases a <;> simp [mrg]
theorem mrg_ok (hL : Lin κ P) : ∀ (n : Nat) (A B : List α), A.length + B.length ≤ n → A.Pairwise (fun a b => κ a b < 0) → B.Pairwise (fun a b => κ a b < 0) → (∀ x ∈ A, P x) → (∀ x ∈ B, P x) →
    (∀ y, y ∈ mrg κ A B ↔ y ∈ A ∨ (y ∈ B ∧ ∀ x ∈ A, κ x y ≠ 0)) ∧ (mrg κ A B).Pairwise fun a b => κ a b < 0
  | n, [], B, _, _, hB, _, _ => by
    simp only [mrg]
    exact ⟨fun y => ⟨fun h => .inr ⟨h, fun x hx => (by cases hx)⟩, fun h => h.elim (fun h => by cases h) fun h => h.1⟩, hB⟩
  | n, x :: A, [], _, hA, _, _, _ => by
    simp only [mrg]
    exact ⟨fun y => ⟨.inl, fun h => h.elim id fun h => by cases h.1⟩, hA⟩
  | 0, x :: A, y :: B, h, _, _, _, _ => by simp at h
  | n + 1, x :: A, y :: B, hn, hA, hB, hPA, hPB => by
    simp only [List.length_cons] at hn
    have hA1 := List.pairwise_cons.1 hA
    have hB1 := List.pairwise_cons.1 hB
    have hx := hPA x (List.mem_cons_self ..)
    have hy := hPB y (List.mem_cons_self ..)
    have hPA1 : ∀ x ∈ A, P x := fun z hz => hPA z (List.mem_cons_of_mem _ hz)
    have hPB1 : ∀ x ∈ B, P x := fun z hz => hPB z (List.mem_cons_of_mem _ hz)
    have han := hL.anti x y hx hy
    rw [mrg]
    by_cases h1 : κ x y < 0
    · rw [if_pos h1]
      obtain ⟨m, p⟩ := mrg_ok hL n A (y :: B) (by simp only [List.length_cons]; omega) hA1.2 hB hPA1 hPB
      have low : ∀ z ∈ y :: B, κ x z < 0 := fun z hz => by
        rcases List.mem_cons.1 hz with rfl | hz
        · exact h1
        · exact (hL.tr x y z hx hy (hPB1 z hz) (by omega) (by have := hB1.1 z hz; omega)).2 (.inl h1)
      refine ⟨fun z => ?_, List.pairwise_cons.2 ⟨fun z hz => ?_, p⟩⟩
      · rw [List.mem_cons, m z]
        refine ⟨fun h => ?_, fun h => ?_⟩
        · rcases h with rfl | h | ⟨h, h2⟩
          · exact .inl (List.mem_cons_self ..)
          · exact .inl (List.mem_cons_of_mem _ h)
          · refine .inr ⟨h, fun u hu => ?_⟩
            rcases List.mem_cons.1 hu with rfl | hu
            · have := low z h; omega
            · exact h2 u hu
        · rcases h with h | ⟨h, h2⟩
          · rcases List.mem_cons.1 h with rfl | h
            · exact .inl rfl
            · exact .inr (.inl h)
          · exact .inr (.inr ⟨h, fun u hu => h2 u (List.mem_cons_of_mem _ hu)⟩)
      · rcases (m z).1 hz with h | h
        · exact hA1.1 z h
        · exact low z h.1
    · rw [if_neg h1]
      by_cases h2 : κ x y = 0
      · rw [if_pos h2]
        obtain ⟨m, p⟩ := mrg_ok hL n A B (by omega) hA1.2 hB1.2 hPA1 hPB1
        have low : ∀ z ∈ B, κ x z < 0 := fun z hz => by
          rw [hL.l0 hx hy (hPB1 z hz) h2]; exact hB1.1 z hz
        refine ⟨fun z => ?_, List.pairwise_cons.2 ⟨fun z hz => ?_, p⟩⟩
        · rw [List.mem_cons, m z]
          refine ⟨fun h => ?_, fun h => ?_⟩
          · rcases h with rfl | h | ⟨h, h3⟩
            · exact .inl (List.mem_cons_self ..)
            · exact .inl (List.mem_cons_of_mem _ h)
            · refine .inr ⟨List.mem_cons_of_mem _ h, fun u hu => ?_⟩
              rcases List.mem_cons.1 hu with rfl | hu
              · have := low z h; omega
              · exact h3 u hu
          · rcases h with h | ⟨h, h3⟩
            · rcases List.mem_cons.1 h with rfl | h
              · exact .inl rfl
              · exact .inr (.inl h)
            · rcases List.mem_cons.1 h with rfl | h
              · exact absurd h2 (h3 x (List.mem_cons_self ..))
              · exact .inr (.inr ⟨h, fun u hu => h3 u (List.mem_cons_of_mem _ hu)⟩)
        · rcases (m z).1 hz with h | h
          · exact hA1.1 z h
          · exact low z h.1
      · rw [if_neg h2]
        have h3 : κ y x < 0 := by omega
        obtain ⟨m, p⟩ := mrg_ok hL n (x :: A) B (by simp only [List.length_cons]; omega) hA hB1.2 hPA hPB1
        have low : ∀ z ∈ x :: A, κ y z < 0 := fun z hz => by
          rcases List.mem_cons.1 hz with rfl | hz
          · exact h3
          · exact (hL.tr y x z hy hx (hPA1 z hz) (by omega) (by have := hA1.1 z hz; omega)).2 (.inl h3)
        refine ⟨fun z => ?_, List.pairwise_cons.2 ⟨fun z hz => ?_, p⟩⟩
        · rw [List.mem_cons, m z]
          refine ⟨fun h => ?_, fun h => ?_⟩
          · rcases h with rfl | h | ⟨h, h4⟩
            · refine .inr ⟨List.mem_cons_self .., fun u hu e => ?_⟩
              have := low u hu
              have := hL.anti z u hy (hPA u hu)
              omega
            · exact .inl h
            · exact .inr ⟨List.mem_cons_of_mem _ h, h4⟩
          · rcases h with h | ⟨h, h4⟩
            · exact .inr (.inl h)
            · rcases List.mem_cons.1 h with rfl | h
              · exact .inl rfl
              · exact .inr (.inr ⟨h, h4⟩)
        · rcases (m z).1 hz with h | h
          · exact low z h
          · exact hB1.1 z h.1
theorem Rep.mrg (hL : Lin κ P) {L M A B : List α} (hP : ∀ x ∈ L ++ M, P x) (hi : ∀ x ∈ L, ∀ y ∈ M, ι x < ι y) (ha : Rep κ ι L A) (hb : Rep κ ι M B) : Rep κ ι (L ++ M) (Sx.mrg κ A B) := by
  have hPL : ∀ x ∈ L, P x := fun x hx => hP x (List.mem_append_left _ hx)
  have hPM : ∀ x ∈ M, P x := fun x hx => hP x (List.mem_append_right _ hx)
  obtain ⟨m, p⟩ := mrg_ok hL _ A B (Nat.le_refl _) ha.asc hb.asc (fun x hx => hPL x (ha.sub x hx)) (fun x hx => hPM x (hb.sub x hx))
  refine ⟨p, fun y hy => ?_, fun x hx => ?_, fun y hy x hx e => ?_⟩
  · rcases (m y).1 hy with h | h
    · exact List.mem_append_left _ (ha.sub y h)
    · exact List.mem_append_right _ (hb.sub y h.1)
  · rcases List.mem_append.1 hx with hx | hx
    · obtain ⟨y, hy, e⟩ := ha.all x hx
      exact ⟨y, (m y).2 (.inl hy), e⟩
    · obtain ⟨y, hy, e⟩ := hb.all x hx
      by_cases h : ∀ z ∈ A, κ z y ≠ 0
      · exact ⟨y, (m y).2 (.inr ⟨hy, h⟩), e⟩
      · simp only [Classical.not_forall] at h
        obtain ⟨z, hz, h⟩ := h
        have h : κ z y = 0 := Classical.not_not.1 h
        exact ⟨z, (m z).2 (.inl hz), by rw [hL.l0 (hPL z (ha.sub z hz)) (hPM y (hb.sub y hy)) (hPM x hx) h]; exact e⟩
  · rcases (m y).1 hy with h | ⟨h, h2⟩
    · rcases List.mem_append.1 hx with hx | hx
      · exact ha.fst y h x hx e
      · exact .inr (hi y (ha.sub y h) x hx)
    · rcases List.mem_append.1 hx with hx | hx
      · obtain ⟨z, hz, e2⟩ := ha.all x hx
        have hyP := hPM y (hb.sub y h)
        have e3 := hL.anti y x hyP (hPL x hx)
        have := hL.l0 (hPL z (ha.sub z hz)) (hPL x hx) hyP e2
        exact absurd (by omega) (h2 z hz)
      · exact hb.fst y h x hx e
theorem mrg_map {κ' : β → β → Int} {f : α → β} (h : ∀ a b, κ a b = κ' (f a) (f b)) : ∀ (n : Nat) (A B : List α), A.length + B.length ≤ n → (mrg κ A B).map f = mrg κ' (A.map f) (B.map f)
  | n, [], B, _ => by simp [mrg]
  | n, x :: A, [], _ => by simp [mrg]
  | 0, x :: A, y :: B, hn => by simp at hn
  | n + 1, x :: A, y :: B, hn => by
    simp only [List.length_cons] at hn
    have i1 := mrg_map h n A (y :: B) (by simp only [List.length_cons]; omega)
    have i2 := mrg_map h n A B (by omega)
    have i3 := mrg_map h n (x :: A) B (by simp only [List.length_cons]; omega)
    simp only [List.map_cons] at i1 i3 ⊢
    rw [mrg, mrg, ← h x y]
    split
    · rw [List.map_cons, i1]
    · split
      · rw [List.map_cons, i2]
      · rw [List.map_cons, i3]
theorem mrg_len : ∀ (n : Nat) (A B : List α), A.length + B.length ≤ n → (mrg κ A B).length ≤ A.length + B.length
  | n, [], B, _ => by simp [mrg]
  | n, x :: A, [], _ => by simp [mrg]
  | 0, x :: A, y :: B, hn => by simp at hn
  | n + 1, x :: A, y :: B, hn => by
    simp only [List.length_cons] at hn
    have i1 := mrg_len n A (y :: B) (by simp only [List.length_cons]; omega)
    have i2 := mrg_len n A B (by omega)
    have i3 := mrg_len n (x :: A) B (by simp only [List.length_cons]; omega)
    simp only [List.length_cons] at i1 i3 ⊢
    rw [mrg]
    split
    · simp only [List.length_cons]; omega
    · split <;> simp only [List.length_cons] <;> omega
/-- sorted by halves -/
def msort (κ : α → α → Int) : Nat → List α → List α
  | 0, _ => []
  | n + 1, l => if l.length ≤ 1 then l else mrg κ (msort κ n (l.take (l.length / 2))) (msort κ n (l.drop (l.length / 2)))
theorem msort_rep (hL : Lin κ P) : ∀ (n : Nat) (L : List α), L.length ≤ n → (∀ x ∈ L, P x) → (L.Pairwise fun x y => ι x < ι y) → Rep κ ι L (msort κ n L)
  | 0, L, hn, _, _ => by
    have : L = [] := List.length_eq_zero_iff.1 (by omega)
    subst this
    exact ⟨.nil, fun y hy => hy, fun x hx => (by cases hx), fun y hy => (by cases hy)⟩
  | n + 1, L, hn, hP, hi => by
    rw [msort]
    split
    · rename_i h
      match L, h with
      | [], _ => exact ⟨.nil, fun y hy => hy, fun x hx => (by cases hx), fun y hy => (by cases hy)⟩
      | [x], _ =>
        refine ⟨List.pairwise_cons.2 ⟨fun y hy => (by cases hy), .nil⟩, fun y hy => hy, fun z hz => ⟨z, hz, hL.refl (hP z hz)⟩, fun y hy z hz _ => ?_⟩
        rw [List.mem_singleton] at hy hz
        rw [hy, hz]; exact .inl rfl
    · rename_i h
      obtain ⟨q1, q2, q3⟩ := pw_split hi (L.length / 2)
      have e : L.take (L.length / 2) ++ L.drop (L.length / 2) = L := List.take_append_drop ..
      have r := Rep.mrg (ι := ι) hL (L := L.take (L.length / 2)) (M := L.drop (L.length / 2)) (by rw [e]; exact hP) q3
        (msort_rep hL n _ (by rw [List.length_take]; omega) (fun x hx => hP x (mem_take hx)) q1)
        (msort_rep hL n _ (by rw [List.length_drop]; omega) (fun x hx => hP x (mem_drop hx)) q2)
      rw [e] at r
      exact r
theorem msort_map {κ' : β → β → Int} {f : α → β} (h : ∀ a b, κ a b = κ' (f a) (f b)) : ∀ (n : Nat) (L : List α), (msort κ n L).map f = msort κ' n (L.map f)
  | 0, L => rfl
  | n + 1, L => by
    rw [msort, msort, List.length_map]
    split
    · rfl
    · rw [mrg_map h _ _ _ (Nat.le_refl _), msort_map h n, msort_map h n, List.map_take, List.map_drop]
theorem msort_len : ∀ (n : Nat) (L : List α), (msort κ n L).length ≤ L.length
  | 0, L => by simp [msort]
  | n + 1, L => by
    rw [msort]
    split
    · exact Nat.le_refl _
    · have h := mrg_len (κ := κ) _ (msort κ n (L.take (L.length / 2))) (msort κ n (L.drop (L.length / 2))) (Nat.le_refl _)
      have h1 := msort_len n (L.take (L.length / 2))
      have h2 := msort_len n (L.drop (L.length / 2))
      rw [List.length_take] at h1
      rw [List.length_drop] at h2
      omega
end
end Sx
end

noncomputable section
set_option linter.unusedVariables false
set_option linter.unusedSimpArgs false
namespace Sx
open Go Go.Proofs
def Heap.new (H H2 : Heap) : Heap := fun x => if (H x).isSome then none else H2 x
theorem Heap.new_some {H H2 : Heap} {x : Nat} {e : Bool × GO} (h : H2 x = some e) (hn : H x = none) : Heap.new H H2 x = some e := by
  unfold Heap.new; rw [hn]; exact h
theorem Heap.new_inv {H H2 : Heap} {x : Nat} {e : Bool × GO} (h : Heap.new H H2 x = some e) : H x = none ∧ H2 x = some e := by
  unfold Heap.new at h
  cases hx : H x with
  | none => rw [hx] at h; exact ⟨rfl, h⟩
  | some y => rw [hx] at h; cases h
theorem Heap.new_le (H H2 : Heap) : (Heap.new H H2).le H2 := fun x e h => (Heap.new_inv h).2

/-- a row of values that may be written over, with all that is in it: its blocks are N's; k deep at most -/
def Sp (N : Nat → Prop) (H : Heap) : Nat → Sl → Prop
  | 0, t => t.len = 0
  | k + 1, t => t.len = 0 ∨ ∃ (b : Nat) (xs : List TV) (sp : List Value), N b ∧ t.p = some (b, 0) ∧ t.x = none ∧ H b = some (true, .row (xs.flatMap T_api_Value.c ++ sp)) ∧ (t.len ≤ xs.length ∧ xs.length ≤ 1000000) ∧ ∀ x ∈ xs, Sp N H k x.L
section
variable {N M : Nat → Prop} {H H2 : Heap}
theorem Sp.nil (k : Nat) {t : Sl} (h : t.len = 0) : Sp N H k t := by
  cases k with
  | zero => exact h
  | succ k => exact .inl h
theorem Sp.mono : ∀ {k : Nat} {t : Sl}, Sp N H k t → Sp N H (k + 1) t
  | 0, t, h => .inl h
  | k + 1, t, .inl h => .inl h
  | k + 1, t, .inr ⟨b, xs, sp, h1, h2, h3, h4, h5, h6⟩ => .inr ⟨b, xs, sp, h1, h2, h3, h4, h5, fun x hx => Sp.mono (h6 x hx)⟩
theorem Sp.up {k m : Nat} {t : Sl} (h : Sp N H k t) (hk : k ≤ m) : Sp N H m t := by
  induction hk with
  | refl => exact h
  | step _ ih => exact ih.mono
theorem Sp.to (h : ∀ b e, N b → H b = some e → M b ∧ H2 b = some e) : ∀ {k : Nat} {t : Sl}, Sp N H k t → Sp M H2 k t
  | 0, t, h0 => h0
  | k + 1, t, .inl h0 => .inl h0
  | k + 1, t, .inr ⟨b, xs, sp, h1, h2, h3, h4, h5, h6⟩ => .inr ⟨b, xs, sp, (h b _ h1 h4).1, h2, h3, (h b _ h1 h4).2, h5, fun x hx => Sp.to h (h6 x hx)⟩
theorem Sp.all : ∀ {xs : List TV}, (∀ x ∈ xs, ∃ k, Sp N H k x.L) → ∃ k, ∀ x ∈ xs, Sp N H k x.L
  | [], _ => ⟨0, fun x hx => by cases hx⟩
  | y :: xs, h => by
    obtain ⟨k, hk⟩ := h y (List.mem_cons_self ..)
    obtain ⟨m, hm⟩ := Sp.all (xs := xs) fun x hx => h x (List.mem_cons_of_mem _ hx)
    refine ⟨max k m, fun x hx => ?_⟩
    rcases List.mem_cons.1 hx with rfl | hx
    · exact hk.up (Nat.le_max_left ..)
    · exact (hm x hx).up (Nat.le_max_right ..)

/-- what a copy is -/
structure Made (H H2 : Heap) (l : List V) (t : Sl) : Prop where
  le : H.le H2
  row : VRow (Heap.new H H2) t l
  sp : ∃ k, Sp (fun b => H b = none) H2 k t
theorem Made.row2 {l : List V} {t : Sl} (h : Made H H2 l t) : VRow H2 t l := h.row.le (Heap.new_le _ _)
theorem Made.up {H3 : Heap} {l : List V} {t : Sl} (h : Made H H2 l t) (hle : H2.le H3) : Made H H3 l t := by
  refine ⟨h.le.trans hle, h.row.le fun x e hx => ?_, ?_⟩
  · obtain ⟨a, b⟩ := Heap.new_inv hx
    exact Heap.new_some (hle _ _ b) a
  · obtain ⟨k, hk⟩ := h.sp
    exact ⟨k, hk.to fun b e h he => ⟨h, hle b e he⟩⟩
theorem Made.down {H0 : Heap} {l : List V} {t : Sl} (h : Made H H2 l t) (hle : H0.le H) : Made H0 H2 l t := by
  refine ⟨hle.trans h.le, h.row.le fun x e hx => ?_, ?_⟩
  · obtain ⟨a, b⟩ := Heap.new_inv hx
    exact Heap.new_some b (hle.none a)
  · obtain ⟨k, hk⟩ := h.sp
    exact ⟨k, hk.to fun b e h he => ⟨hle.none h, he⟩⟩
theorem Made.nil {H : Heap} {t : Sl} (h : t.len = 0) : Made H H [] t := ⟨Heap.le.refl _, ⟨[], .inl rfl, by simpa using h, trivial⟩, 0, h⟩

theorem vsizes_len : ∀ l : List V, l.length ≤ vsizes l
  | [] => Nat.le_refl _
  | v :: l => by
    have := vsizes_len l
    have hv : vsize v = vsizes v.l + 1 := by cases v; rfl
    simp only [vsizes, List.length_cons]; omega
theorem flat4 : ∀ xs : List TV, (xs.flatMap T_api_Value.c).length = xs.length * 4
  | [] => rfl
  | x :: xs => by rw [List.flatMap_cons, List.length_append, flat4 xs, TV.c_len, List.length_cons]; omega
theorem set_L {t : Sl} {sp : List Value} : ∀ (xs : List TV) (i : Nat) (hi : i < xs.length), ((xs.flatMap T_api_Value.c) ++ sp).set (i * 4 + 3) (slv t) = (xs.set i { xs[i] with L := t }).flatMap T_api_Value.c ++ sp
  | [], i, hi => by simp at hi
  | x :: xs, 0, hi => by
    simp only [List.flatMap_cons, List.getElem_cons_zero, List.set_cons_zero]
    rfl
  | x :: xs, i + 1, hi => by
    have ih := set_L (t := t) (sp := sp) xs i (by simpa using hi)
    simp only [List.flatMap_cons, List.set_cons_succ, List.getElem_cons_succ, List.append_assoc]
    have e : (i + 1) * 4 + 3 = (T_api_Value.c x).length + (i * 4 + 3) := by rw [TV.c_len]; omega
    rw [← ih, e, List.set_append_right _ _ (Nat.le_add_right ..), Nat.add_sub_cancel_left]
/-- the copy's loop: what stands in the copy's block b over B -/
structure Ow (A H B : Heap) (b i : Nat) (l : List V) (xs ys : List TV) : Prop where
  le : H.le B
  ale : A.le B
  nb : B b = none
  len : ys.length = l.length
  xlen : xs.length = l.length
  old : VsAre A l xs
  rest : ∀ j, i ≤ j → ys[j]? = xs[j]?
  done : ∀ (j : Nat) (v : V) (x : TV), j < i → l[j]? = some v → ys[j]? = some x → VIs (Heap.new H B) v x ∧ ∃ k, Sp (fun c => H c = none) B k x.L
theorem Ow.step {A B B2 : Heap} {b i : Nat} {l : List V} {xs ys : List TV} {sp : List Value} {t : Sl} (h : Ow A H B b i l xs ys) (hi : i < l.length) (hi2 : i < ys.length)
    (hm : Made (B.put b (.row (ys.flatMap T_api_Value.c ++ sp))) B2 l[i].l t) :
    Ow A H (B2.del b) b (i + 1) l xs (ys.set i { ys[i] with L := t }) ∧ B2.put b (.row (((ys.set i { ys[i] with L := t }).flatMap T_api_Value.c) ++ sp)) = (B2.del b).put b (.row (((ys.set i { ys[i] with L := t }).flatMap T_api_Value.c) ++ sp)) := by
  have hb : B.le (B2.del b) := fun x e hx => by
    have hne : x ≠ b := fun e' => by rw [e', h.nb] at hx; cases hx
    rw [Heap.del_ne _ hne]
    exact hm.le _ _ (by rw [Heap.put_ne _ _ _ hne]; exact hx)
  have hnn : (Heap.new H B).le (Heap.new H (B2.del b)) := fun x e hx => by
    obtain ⟨a, c⟩ := Heap.new_inv hx
    exact Heap.new_some (hb _ _ c) a
  have hPN : ∀ c, (B.put b (.row (ys.flatMap T_api_Value.c ++ sp))) c = none → H c = none ∧ c ≠ b := fun c hc => by
    have hne : c ≠ b := fun e' => by rw [e', Heap.put_same] at hc; cases hc
    rw [Heap.put_ne _ _ _ hne] at hc
    exact ⟨h.le.none hc, hne⟩
  refine ⟨⟨h.le.trans hb, h.ale.trans hb, Heap.del_same .., by rw [List.length_set]; exact h.len, h.xlen, h.old, fun j hj => ?_, fun j v x hj hv hx => ?_⟩, ?_⟩
  · rw [List.getElem?_set_ne (by omega)]; exact h.rest j (by omega)
  · by_cases hji : j = i
    · subst hji
      rw [List.getElem?_set_self hi2] at hx
      have hx := Option.some.inj hx
      rw [List.getElem?_eq_getElem hi] at hv
      have hv := Option.some.inj hv
      subst hx; subst hv
      have hxi := h.rest j (Nat.le_refl _)
      rw [List.getElem?_eq_getElem hi2] at hxi
      have hold := VIs_iff.1 (h.old.get j _ _ (List.getElem?_eq_getElem hi) hxi.symm)
      refine ⟨VIs_iff.2 ⟨hold.1, hold.2.1, hold.2.2.1, hm.row.le fun c e hc => ?_⟩, ?_⟩
      · obtain ⟨a1, a2⟩ := Heap.new_inv hc
        obtain ⟨a3, a4⟩ := hPN c a1
        exact Heap.new_some (by rw [Heap.del_ne _ a4]; exact a2) a3
      · obtain ⟨k, hk⟩ := hm.sp
        refine ⟨k, hk.to fun c e hc he => ⟨(hPN c hc).1, ?_⟩⟩
        rw [Heap.del_ne _ (hPN c hc).2]; exact he
    · rw [List.getElem?_set_ne (by omega)] at hx
      obtain ⟨d1, k, d2⟩ := h.done j v x (by omega) hv hx
      exact ⟨d1.le hnn, k, d2.to fun c e h he => ⟨h, hb c e he⟩⟩
  · funext x
    by_cases hx : x = b
    · subst hx; rw [Heap.put_same, Heap.put_same]
    · rw [Heap.put_ne _ _ _ hx, Heap.put_ne _ _ _ hx, Heap.del_ne _ hx]
theorem Ow.fin {A B : Heap} {b n cap : Nat} {l : List V} {xs ys : List TV} {sp : List Value} (h : Ow A H B b n l xs ys) (hn : n = l.length) (hb : H b = none) (hz : l.length ≤ 1000000) :
    Made H (B.put b (.row (ys.flatMap T_api_Value.c ++ sp))) l (Sl.of (some (b, 0)) n cap) := by
  have hBP : B.le (B.put b (.row (ys.flatMap T_api_Value.c ++ sp))) := Heap.le_put h.nb
  have hnn : (Heap.new H B).le (Heap.new H (B.put b (.row (ys.flatMap T_api_Value.c ++ sp)))) := fun x e hx => by
    obtain ⟨a, c⟩ := Heap.new_inv hx
    exact Heap.new_some (hBP _ _ c) a
  refine ⟨h.le.trans hBP, ⟨ys, .inr ⟨rfl, _, rfl, rds_row (Heap.new_some (Heap.put_same ..) hb) fun j v hj => ?_⟩, ?_, VsAre.of h.len.symm fun i v x hv hx => ?_⟩, ?_⟩
  · rw [Nat.zero_add, List.getElem?_append_left (List.getElem?_eq_some_iff.1 hj).1]; exact hj
  · show n = _; rw [hn, h.len]
  · exact (h.done i v x (by rw [hn]; exact (List.getElem?_eq_some_iff.1 hv).1) hv hx).1.le hnn
  · obtain ⟨k, hk⟩ : ∃ k, ∀ x ∈ ys, Sp (fun c => H c = none) B k x.L := Sp.all fun x hx => by
      obtain ⟨j, hj, e⟩ := List.getElem_of_mem hx
      have hl : j < l.length := by rw [← h.len]; exact hj
      exact (h.done j l[j] x (by omega) (List.getElem?_eq_getElem hl) (by rw [List.getElem?_eq_getElem hj, e])).2
    refine ⟨k + 1, .inr ⟨b, ys, sp, hb, rfl, rfl, Heap.put_same .., ⟨by show n ≤ _; rw [hn, h.len]; exact Nat.le_refl _, by rw [h.len]; exact hz⟩, fun x hx => (hk x hx).to fun c e h he => ⟨h, hBP c e he⟩⟩⟩
/-- a list that grows: what is made in it stands beside its own block -/
structure Od (H B : Heap) (l : List V) (s : Sl) (ys : List TV) : Prop where
  own : OwnF H B 4 s (ys.flatMap T_api_Value.c)
  le : ys.length ≤ l.length
  done : ∀ (j : Nat) (v : V) (x : TV), l[j]? = some v → ys[j]? = some x → VIs (Heap.new H (B.off s)) v x ∧ ∃ k, Sp (fun c => H c = none) (B.off s) k x.L
theorem Od.nil {l : List V} : Od H H l Sl.nil [] := ⟨OwnF.nil H 4, Nat.zero_le _, fun j v x _ hx => by simp at hx⟩
theorem Od.step {B B2 B3 B4 : Heap} {g : GO} {b : Nat} {l : List V} {s r t : Sl} {ys : List TV} {x : TV} (h : Od H B l s ys) (hb : B b = none) (hi : ys.length < l.length) (hm : Made (B.put b g) B2 l[ys.length].l t)
    (hx : x.Kind = l[ys.length].k ∧ x.N = l[ys.length].n ∧ x.S = l[ys.length].s) (hL : x.L = t) (h3 : Heap.but b B2 B3) (h4 : OwnF (B3.off s) B4 4 r (ys.flatMap T_api_Value.c ++ T_api_Value.c x)) : Od H B4 l r (ys ++ [x]) := by
  have hB2 : B.le B2 := (Heap.le_put hb).trans hm.le
  have hHb : H b = none := h.own.le.none hb
  have hB3 : H.le B3 := Heap.le.of_but (h.own.le.trans hB2) h3 hHb
  have hoff : (B.off s).le (B3.off s) := fun c e hc => by
    have hc' := Heap.off_le _ _ _ _ hc
    have hne : c ≠ b := fun e' => by rw [e', hb] at hc'; cases hc'
    refine Heap.off_some (h3 _ _ hne (hB2 _ _ hc')) fun p hp e' => ?_
    have := Heap.off_fresh s B p hp
    rw [e', hc] at this; cases this
  have h34 : (B3.off s).le (B4.off r) := Heap.le_off h4.le h4.fresh
  have hch : ∀ c e, (B.put b g) c = none → B2 c = some e → H c = none ∧ (B4.off r) c = some e := fun c e hn he => by
    have hne : c ≠ b := fun e' => by rw [e', Heap.put_same] at hn; cases hn
    rw [Heap.put_ne _ _ _ hne] at hn
    refine ⟨h.own.le.none hn, h34 _ _ (Heap.off_some (h3 _ _ hne he) fun p hp e' => ?_)⟩
    obtain ⟨g', hg'⟩ := h.own.own.mine hp
    rw [e', hn] at hg'; cases hg'
  have hnn : (Heap.new H (B.off s)).le (Heap.new H (B4.off r)) := fun c e hc => by
    obtain ⟨a1, a2⟩ := Heap.new_inv hc
    exact Heap.new_some (h34 _ _ (hoff _ _ a2)) a1
  refine ⟨?_, by rw [List.length_append]; exact hi, fun j v y hv hy => ?_⟩
  · have e : (ys ++ [x]).flatMap T_api_Value.c = ys.flatMap T_api_Value.c ++ T_api_Value.c x := by rw [List.flatMap_append, List.flatMap_singleton]
    rw [e]
    exact h4.down (Heap.le_off hB3 h.own.fresh)
  · by_cases hj : j < ys.length
    · rw [List.getElem?_append_left hj] at hy
      obtain ⟨d1, k, d2⟩ := h.done j v y hv hy
      exact ⟨d1.le hnn, k, d2.to fun c e h he => ⟨h, h34 _ _ (hoff _ _ he)⟩⟩
    · have hjl := (List.getElem?_eq_some_iff.1 hy).1
      rw [List.length_append, List.length_singleton] at hjl
      have hje : j = ys.length := by omega
      subst hje
      rw [List.getElem?_append_right (Nat.le_refl _), Nat.sub_self] at hy
      simp only [List.getElem?_cons_zero, Option.some.injEq] at hy
      rw [List.getElem?_eq_getElem hi] at hv
      have hv := Option.some.inj hv
      subst hy; subst hv
      refine ⟨VIs_iff.2 ⟨hx.1, hx.2.1, hx.2.2, ?_⟩, ?_⟩
      · rw [hL]
        refine hm.row.le fun c e hc => ?_
        obtain ⟨a1, a2⟩ := Heap.new_inv hc
        obtain ⟨a3, a4⟩ := hch c e a1 a2
        exact Heap.new_some a4 a3
      · obtain ⟨k, hk⟩ := hm.sp
        rw [hL]
        exact ⟨k, hk.to fun c e h he => hch c e h he⟩
theorem Od.fin {B : Heap} {l : List V} {s : Sl} {ys : List TV} (h : Od H B l s ys) (hn : ys.length = l.length) (hz : l.length ≤ 1000000) : Made H B l s := by
  have hnn : (Heap.new H (B.off s)).le (Heap.new H B) := fun x e hx => by
    obtain ⟨a, c⟩ := Heap.new_inv hx
    exact Heap.new_some (Heap.off_le _ _ _ _ c) a
  have hf := flat4 ys
  obtain ⟨o1, o2, o3, o4⟩ := h.own.own
  have hlen : s.len = ys.length := by omega
  have hvs : VsAre (Heap.new H B) l ys := VsAre.of hn.symm fun i v x hv hx => (h.done i v x hv hx).1.le hnn
  refine ⟨h.own.le, ⟨ys, ?_, hlen, hvs⟩, ?_⟩
  · rcases o4 with ⟨p0, c0⟩ | ⟨b, sp, hp, hb, hc⟩
    · left
      have : ys.length = 0 := by omega
      rw [List.length_eq_zero_iff.1 this]; rfl
    · refine .inr ⟨o2, _, hp, rds_row (Heap.new_some hb (h.own.fresh _ hp)) fun j v hj => ?_⟩
      rw [Nat.zero_add, List.getElem?_append_left (List.getElem?_eq_some_iff.1 hj).1]; exact hj
  · obtain ⟨k, hk⟩ : ∃ k, ∀ x ∈ ys, Sp (fun c => H c = none) B k x.L := Sp.all fun x hx => by
      obtain ⟨j, hj, e⟩ := List.getElem_of_mem hx
      have hl : j < l.length := by rw [← hn]; exact hj
      obtain ⟨_, k, hk⟩ := h.done j l[j] x (List.getElem?_eq_getElem hl) (by rw [List.getElem?_eq_getElem hj, e])
      exact ⟨k, hk.to fun c e h he => ⟨h, Heap.off_le _ _ _ _ he⟩⟩
    refine ⟨k + 1, ?_⟩
    rcases o4 with ⟨p0, c0⟩ | ⟨b, sp, hp, hb, hc⟩
    · exact .inl (by omega)
    · exact .inr ⟨b, ys, sp, h.own.fresh _ hp, hp, o2, hb, ⟨by omega, by omega⟩, hk⟩
/-- a list of rows that grows, each a copy -/
structure Og (H B : Heap) (ls : List (List V)) (s : Sl) (ys : List Sl) : Prop where
  own : OwnF H B 1 s (ys.map slv)
  le : ys.length ≤ ls.length
  done : ∀ (j : Nat) (l : List V) (y : Sl), ls[j]? = some l → ys[j]? = some y → Made H (B.off s) l y
theorem Og.nil {ls : List (List V)} : Og H H ls Sl.nil [] := ⟨OwnF.nil H 1, Nat.zero_le _, fun j l y _ hy => by simp at hy⟩
theorem Made.off {B : Heap} {l : List V} {s t : Sl} (h : Made B H2 l t) (hle : H.le B) (hf : Fresh H s) (hs : ∀ p, s.p = some p → ∃ g, B p.1 = some (true, g)) : Made H (H2.off s) l t := by
  have hne : ∀ c, B c = none → ∀ p, s.p = some p → p.1 ≠ c := fun c hc p hp e => by
    obtain ⟨g, hg⟩ := hs p hp
    rw [e, hc] at hg; cases hg
  refine ⟨Heap.le_off (hle.trans h.le) hf, h.row.le fun c e hc => ?_, ?_⟩
  · obtain ⟨a, b⟩ := Heap.new_inv hc
    exact Heap.new_some (Heap.off_some b (hne c a)) (hle.none a)
  · obtain ⟨k, hk⟩ := h.sp
    exact ⟨k, hk.to fun c e hc he => ⟨hle.none hc, Heap.off_some he (hne c hc)⟩⟩
theorem Og.step {B B2 B4 : Heap} {ls : List (List V)} {s r t : Sl} {ys : List Sl} (h : Og H B ls s ys) (hi : ys.length < ls.length) (hm : Made B B2 ls[ys.length] t) (h4 : OwnF (B2.off s) B4 1 r (ys.map slv ++ [slv t])) : Og H B4 ls r (ys ++ [t]) := by
  have hoff : H.le (B2.off s) := Heap.le_off (h.own.le.trans hm.le) h.own.fresh
  have h34 : (B2.off s).le (B4.off r) := Heap.le_off h4.le h4.fresh
  have h12 : (B.off s).le (B2.off s) := Heap.le_off ((Heap.off_le s B).trans hm.le) (Heap.off_fresh s B)
  refine ⟨?_, by rw [List.length_append]; exact hi, fun j l y hl hy => ?_⟩
  · have e : (ys ++ [t]).map slv = ys.map slv ++ [slv t] := by simp
    rw [e]; exact h4.down hoff
  · by_cases hj : j < ys.length
    · rw [List.getElem?_append_left hj] at hy
      exact (h.done j l y hl hy).up (h12.trans h34)
    · have hjl := (List.getElem?_eq_some_iff.1 hy).1
      rw [List.length_append, List.length_singleton] at hjl
      have hje : j = ys.length := by omega
      subst hje
      rw [List.getElem?_append_right (Nat.le_refl _), Nat.sub_self] at hy
      simp only [List.getElem?_cons_zero, Option.some.injEq] at hy
      rw [List.getElem?_eq_getElem hi] at hl
      have hl := Option.some.inj hl
      subst hy; subst hl
      exact (hm.off h.own.le h.own.fresh fun p hp => h.own.own.mine hp).up h34
/-- rows in order, each once, in memory of their own -/
structure Srt (H H2 : Heap) (ls : List (List V)) (t : Sl) (A : List (Sl × (List V × Nat))) : Prop where
  own : OwnF H H2 1 t (A.map fun e => slv e.1)
  row : ∀ e ∈ A, Made H (H2.off t) e.2.1 e.1
  rep : Rep (fun a b => cmpR a.1 b.1) (fun a => a.2) ls.zipIdx (A.map fun e => e.2)
  few : A.length ≤ ls.length

theorem splice_c {y : TV} : ∀ (xs : List TV) (sp : List Value) (i : Nat), ∃ (xs1 : List TV) (sp1 : List Value), splice (xs.flatMap T_api_Value.c ++ sp) (i * 4) (T_api_Value.c y) = xs1.flatMap T_api_Value.c ++ sp1 ∧ xs1.length = xs.length ∧ ∀ x ∈ xs1, x ∈ xs ∨ x = y
  | [], sp, i => ⟨[], splice sp (i * 4) (T_api_Value.c y), rfl, rfl, fun x hx => by cases hx⟩
  | x :: xs, sp, 0 => ⟨y :: xs, sp, rfl, rfl, fun z hz => by
      rcases List.mem_cons.1 hz with rfl | hz
      · exact .inr rfl
      · exact .inl (List.mem_cons_of_mem _ hz)⟩
  | x :: xs, sp, i + 1 => by
    obtain ⟨xs1, sp1, h1, h2, h3⟩ := splice_c (y := y) xs sp i
    refine ⟨x :: xs1, sp1, ?_, by simp [h2], fun z hz => ?_⟩
    · rw [List.flatMap_cons, List.flatMap_cons, List.append_assoc, List.append_assoc, ← h1]
      have e : (i + 1) * 4 = (T_api_Value.c x).length + i * 4 := by rw [TV.c_len]; omega
      unfold splice
      rw [e, List.take_length_add_append, Nat.add_assoc, List.drop_length_add_append]
      simp only [List.append_assoc]
    · rcases List.mem_cons.1 hz with rfl | hz
      · exact .inl (List.mem_cons_self ..)
      · exact (h3 z hz).imp (List.mem_cons_of_mem _) id
/-- a value written over in a row keeps all rows such -/
theorem Sp.put {b i : Nat} {cs : List Value} {y : TV} (hb : H b = some (true, .row cs)) (hy : y.L.len = 0) : ∀ {k : Nat} {t : Sl}, Sp N H k t → Sp N (H.put b (.row (splice cs (i * 4) (T_api_Value.c y)))) k t
  | 0, t, h => h
  | k + 1, t, .inl h => .inl h
  | k + 1, t, .inr ⟨c, xs, sp, h1, h2, h3, h4, h5, h6⟩ => by
    by_cases hc : c = b
    · subst hc
      rw [h4] at hb
      injection hb with hb; injection hb with _ hb; injection hb with hb
      subst hb
      obtain ⟨xs1, sp1, e1, e2, e3⟩ := splice_c (y := y) xs sp i
      refine .inr ⟨c, xs1, sp1, h1, h2, h3, by rw [Heap.put_same, e1], by rw [e2]; exact h5, fun x hx => ?_⟩
      rcases e3 x hx with hx | rfl
      · exact Sp.put h4 hy (h6 x hx)
      · exact Sp.nil k hy
    · exact .inr ⟨c, xs, sp, h1, h2, h3, by rw [Heap.put_ne _ _ _ hc]; exact h4, h5, fun x hx => Sp.put hb hy (h6 x hx)⟩
end
end Sx
end

noncomputable section
set_option linter.unusedVariables false
set_option linter.unusedSimpArgs false
namespace Sx
open Go Go.Proofs
section
variable {C : Ctx} {H : Heap}
theorem clone_ok {t : Sl} {xs : List TV} {K : Sl → Heap → Prop} (hr : rdsl H t (xs.flatMap T_api_Value.c)) (hl : t.len = xs.length) (h0 : t.len ≠ 0) (hs : t.len ≤ 1000000)
    (k : ∀ b sp cap B, H.le B → B b = none → t.len ≤ cap → K (Sl.of (some (b, 0)) t.len cap) (B.put b (.row (xs.flatMap T_api_Value.c ++ sp)))) : c_slices_Clone_api_Value_api_Value C t K H := by
  apply ad_slices_Clone_api_Value_api_Value
  unfold sh_slices_Clone_api_Value_api_Value
  have hf := flat4 xs
  have hnil : Sl.isNil t = false := by
    rcases hr with h | ⟨hx, p, hp, _⟩
    · rw [h] at hf; simp at hf; omega
    · unfold Sl.isNil; rw [hp]; rfl
  refine ift_neg hnil ?_
  intro b2 n2
  have hle := Heap.le_put n2 (g := .row []) (m := true)
  refine ⟨xs.flatMap T_api_Value.c, rdsl_le hle hr, ?_, [], .inl rfl, ?_, ?_, ?_, ?_, fun hfit => ?_, fun hgrow b cap hb hcap => ?_⟩
  · intro u hu
    obtain ⟨x, _, hx⟩ := List.mem_flatMap.1 hu
    simp only [T_api_Value.c, List.mem_cons, List.not_mem_nil, or_false] at hx
    rcases hx with rfl | rfl | rfl | rfl <;> rfl
  · rfl
  · rw [hf, hl]; rfl
  · show (0 + t.len) * 56 ≤ _; omega
  · show 0 + t.len ≤ _; omega
  · exfalso
    have : 0 + t.len ≤ 0 := hfit
    omega
  · have e : (0 : Nat) + t.len = t.len := Nat.zero_add _
    have hc2 : 0 + t.len ≤ cap := hcap
    have := k b (zeros (T_api_Value.c T_api_Value.zero) (cap - (0 + t.len))) cap _ hle hb (by omega)
    show K (Sl.of (some (b, 0)) (0 + t.len) cap) _
    rw [e] at this ⊢
    exact this
theorem own_ok {A : Heap} {l : List V} {t : Sl} {H : Heap} {K : Sl → Heap → Prop} (hv : VRow A t l) (hle : A.le H) (hz : vsizes l ≤ 1000000) (k : ∀ t2 H2, Made H H2 l t2 → K t2 H2) : c_value_own C t K H := by
  have main : ∀ v : V, ∀ (A : Heap) (t : Sl) (H : Heap) (K : Sl → Heap → Prop), VRow A t v.l → A.le H → vsizes v.l ≤ 1000000 → (∀ t2 H2, Made H H2 v.l t2 → K t2 H2) → c_value_own C t K H := by
    refine fun v => V.rec_ (P := fun v => ∀ (A : Heap) (t : Sl) (H : Heap) (K : Sl → Heap → Prop), VRow A t v.l → A.le H → vsizes v.l ≤ 1000000 → (∀ t2 H2, Made H H2 v.l t2 → K t2 H2) → c_value_own C t K H) (fun v ih => ?_) v
    intro A t H K hv hle hz k
    apply ad_value_own
    unfold sh_value_own
    have hl := hv.len
    have hll := vsizes_len v.l
    refine ift.of (fun h => ?_) (fun h => ?_)
    · simp only [beq_iff_eq] at h
      have : v.l = [] := List.length_eq_zero_iff.1 (by omega)
      refine k _ _ ?_
      rw [this]; exact Made.nil rfl
    · simp only [beq_eq_false_iff_ne] at h
      obtain ⟨xs, r1, r2, r3⟩ := hv
      refine clone_ok (rdsl_le hle r1) r2 (by omega) (by omega) fun b sp cap B hB nb hcap => ?_
      rw [hl] at hcap ⊢
      refine ⟨fun x D => ∃ (i : Nat) (ys : List TV) (E : Heap), x = (i : Int) ∧ i ≤ v.l.length ∧ D = E.put b (.row (ys.flatMap T_api_Value.c ++ sp)) ∧ Ow A H E b i v.l xs ys, fun x _ => v.l.length - x.toNat,
        ⟨0, xs, B, rfl, Nat.zero_le _, rfl, hB, hle.trans hB, nb, by omega, by omega, r3, fun _ _ => rfl, fun j v x hj => by omega⟩, ?_⟩
      rintro _ D ⟨i, ys, E, rfl, hi, rfl, ho⟩
      have hlen : (Sl.of (some (b, 0)) v.l.length cap).len = v.l.length := rfl
      refine ift.of (fun h => ?_) (fun h => ?_)
      · have hlt : i < v.l.length := by have := of_decide_eq_true h; omega
        have hi2 : i < ys.length := by rw [ho.len]; exact hlt
        have hyx := ho.rest i (Nat.le_refl _)
        rw [List.getElem?_eq_getElem hi2] at hyx
        have hold := VIs_iff.1 (ho.old.get i _ _ (List.getElem?_eq_getElem hlt) hyx.symm)
        have hmem := List.getElem_mem hlt
        have hsz := vsize_mem hmem
        have hszl : vsize v.l[i] = vsizes v.l[i].l + 1 := by cases v.l[i]; rfl
        have e0 : 0 + ((i : Int).toNat) * 4 + 3 = i * 4 + 3 := by omega
        have hf := flat4 ys
        refine ⟨(b, 0), rfl, rfl, by omega, by rw [hlen]; omega, ?_⟩
        refine ⟨ys[i].L, ?_, ?_⟩
        · show rd _ (b, 0 + ((i : Int).toNat) * 4 + 3) = _
          rw [e0, rd_same, List.getElem?_append_left (by omega)]
          exact flat_get T_api_Value.c 4 TV.c_len ys i _ (List.getElem?_eq_getElem hi2) 3 _ rfl
        · refine ih _ hmem A _ _ _ hold.2.2.2 (ho.ale.trans (Heap.le_put ho.nb)) (by omega) fun t2 H2 hm => ?_
          obtain ⟨s1, s2⟩ := ho.step hlt hi2 hm
          refine ⟨(b, 0), rfl, rfl, by omega, by rw [hlen]; omega, ?_⟩
          refine ⟨_, hm.le _ _ (Heap.put_same ..), ?_, ?_⟩
          · show 0 + ((i : Int).toNat) * 4 + 3 < _
            rw [e0, List.length_append, hf]; omega
          · show _ ∧ _
            have e1 : (b, 0 + ((i : Int).toNat) * 4 + 3).2 = i * 4 + 3 := e0
            rw [w_i64 (by omega) (by omega)]
            refine ⟨⟨i + 1, _, _, by omega, by omega, ?_, s1⟩, by first | omega | (dsimp only; omega)⟩
            rw [← s2, ← set_L ys i hi2]
            show H2.put b (.row ((List.flatMap T_api_Value.c ys ++ sp).set (0 + ((i : Int).toNat) * 4 + 3) (slv t2))) = _
            rw [e0]
      · have hie : i = v.l.length := by have := of_decide_eq_false h; omega
        refine k _ _ ?_
        have := ho.fin (sp := sp) (cap := cap) hie (ho.le.none ho.nb) (by omega)
        rw [hie] at this
        exact this
  exact main (.mk 0 0 [] l) A t H K hv hle hz k
end
end Sx
end

noncomputable section
set_option linter.unusedVariables false
set_option linter.unusedSimpArgs false
namespace Sx.SR
open Go Go.Proofs Sx
abbrev TE := Sl
abbrev cE (x : TE) : List Value := [slv x]
abbrev argE (x : TE) : Value := slv x
abbrev LDX (H : Heap) (p : Nat × Nat) (K : TE → Prop) : Prop := ldL H p K
def enc {G : Type} (e : TE × G) : List Value := cE e.1
section
variable {G : Type}
def arr (H0 : Heap) (b : Nat) (sp : List Value) (L : List (TE × G)) : Heap := H0.put b (.row (L.flatMap enc ++ sp))
structure Sls (s : Sl) (b n : Nat) : Prop where
  p : s.p = some (b, 0)
  x : s.x = none
  len : s.len = n
  small : n ≤ 140737488355328
theorem enc_len (e : TE × G) : (enc e).length = 1 := rfl
theorem flat_len : ∀ A : List (TE × G), (A.flatMap enc).length = A.length * 1
  | [] => rfl
  | e :: A => by rw [List.flatMap_cons, List.length_append, enc_len, flat_len A, List.length_cons]; omega
theorem cell_at {A R : List (TE × G)} {x : TE × G} {sp : List Value} {j : Nat} (hj : j < 1) : ((A ++ x :: R).flatMap enc ++ sp)[A.length * 1 + j]? = (cE x.1)[j]? := by
  have hl := flat_len A
  have e : (cE x.1).length = 1 := rfl
  have h : (A ++ x :: R).flatMap enc ++ sp = A.flatMap enc ++ (cE x.1 ++ (R.flatMap enc ++ sp)) := by
    rw [List.flatMap_append, List.flatMap_cons]; simp only [enc, List.append_assoc]
  rw [h, List.getElem?_append_right (by omega), List.getElem?_append_left (by omega)]
  congr 1; omega
variable {H0 R : Heap} {b n : Nat} {sp : List Value} {s : Sl} {C : Ctx} {L A D : List (TE × G)} {x y : TE × G} {i : Int}
theorem ixp {K : Nat × Nat → Prop} {k : Nat} (hs : Sls s b n) (hi : i = (k : Int)) (hk : k < n) (h : K (b, 0)) : ixa s i K :=
  ⟨(b, 0), hs.p, hs.x, by omega, by rw [hs.len]; omega, h⟩
theorem ldx {K : TE → Prop} (hL : L = A ++ x :: D) (hi : i = (A.length : Int)) (k : K x.1) : LDX (arr H0 b sp L) ((b, 0).1, (b, 0).2 + i.toNat * 1) K := by
  subst hL; subst hi
  rw [Int.toNat_natCast]
  refine ⟨x.1, ?_, k⟩
  have := cell_at (A := A) (R := D) (x := x) (sp := sp) (j := 0) (by omega)
  rw [Nat.add_zero] at this
  show rd (arr H0 b sp (A ++ x :: D)) (b, 0 + A.length * 1) = _
  unfold arr
  simp only [rd, Heap.put_same, GO.cells?, Nat.zero_add, this]; rfl
theorem stx0 {K : Heap → Prop} (hL : L = A ++ x :: D) (hi : i = (A.length : Int)) (k : K (arr H0 b sp (A ++ y :: D))) : stT ((b, 0).1, (b, 0).2 + i.toNat * 1) (cE y.1) K (arr H0 b sp L) := by
  subst hL; subst hi
  rw [Int.toNat_natCast]
  have hl := flat_len A
  have e2 : (cE x.1).length = 1 := rfl
  have e3 : (cE y.1).length = 1 := rfl
  have h : ∀ z : TE × G, (A ++ z :: D).flatMap enc ++ sp = A.flatMap enc ++ (cE z.1 ++ (D.flatMap enc ++ sp)) := fun z => by
    rw [List.flatMap_append, List.flatMap_cons]; simp only [enc, List.append_assoc]
  refine ⟨_, Heap.put_same .., ?_, ?_⟩
  · rw [h]; simp only [List.length_append, hl, e2]; show 0 + A.length * 1 + (cE y.1).length ≤ _; rw [e3]; omega
  · have e : (arr H0 b sp (A ++ x :: D)).put b (.row (splice ((A ++ x :: D).flatMap enc ++ sp) (0 + A.length * 1) (cE y.1))) = arr H0 b sp (A ++ y :: D) := by
      unfold arr
      rw [Heap.put_put, h x, h y, Nat.zero_add]
      congr 2
      unfold splice
      rw [← hl, List.take_left, ← List.drop_drop, List.drop_left, e3, ← e2, List.drop_left, List.append_assoc]
    exact e.symm ▸ k
theorem st_of {p : Nat × Nat} {v : Value} {K : Heap → Prop} {H : Heap} (h : stT p [v] K H) : Sx.st p v K H := by
  obtain ⟨c, h1, h2, h3⟩ := h
  have h4 : p.2 < c.length := by simp at h2; omega
  exact ⟨c, h1, h4, by rw [← splice_one h4]; exact h3⟩
theorem stx {K : Heap → Prop} (hL : L = A ++ x :: D) (hi : i = (A.length : Int)) (k : K (arr H0 b sp (A ++ y :: D))) : Sx.st ((b, 0).1, (b, 0).2 + i.toNat * 1) (slv y.1) K (arr H0 b sp L) := st_of (stx0 hL hi k)
theorem nole (B : Heap) : Heap.le (fun _ => none) B := fun _ _ h => by cases h
/-- data[lo], data[hi] = data[hi], data[lo] -/
theorem swp1 {B : List (TE × G)} {lo hi : Int} {J : Unit → Heap → Prop} (hs : Sls s b n) (hn : A.length + 1 + B.length < n) (hL : L = A ++ x :: (B ++ y :: D)) (hlo : lo = (A.length : Int)) (hhi : hi = ((A.length + 1 + B.length : Nat) : Int)) (k : J () (arr H0 b sp (A ++ y :: (B ++ x :: D)))) :
    dr (arr H0 b sp L) fun Hs => ixa s hi fun p => ixa s lo fun q =>
      (LDX (arr H0 b sp L) (p.1, p.2 + hi.toNat * 1) fun u => Heap.le Hs (arr H0 b sp L) ∧ LDX (arr H0 b sp L) (q.1, q.2 + lo.toNat * 1) fun v => Heap.le Hs (arr H0 b sp L) ∧
        ixa s lo fun p27 => Sx.st (p27.1, p27.2 + lo.toNat * 1) (slv u)  (fun H33 => Heap.le Hs H33 ∧ ixa s hi fun p34 => Sx.st (p34.1, p34.2 + hi.toNat * 1) (slv v)  (fun H39 => J () H39) H33) (arr H0 b sp L)) ∧
      (LDX (arr H0 b sp L) (q.1, q.2 + lo.toNat * 1) fun v => Heap.le Hs (arr H0 b sp L) ∧ LDX (arr H0 b sp L) (p.1, p.2 + hi.toNat * 1) fun u => Heap.le Hs (arr H0 b sp L) ∧
        ixa s lo fun p27 => Sx.st (p27.1, p27.2 + lo.toNat * 1) (slv u)  (fun H33 => Heap.le Hs H33 ∧ ixa s hi fun p34 => Sx.st (p34.1, p34.2 + hi.toNat * 1) (slv v)  (fun H39 => J () H39) H33) (arr H0 b sp L)) := by
  have e : L = (A ++ x :: B) ++ y :: D := by rw [hL]; simp
  have e' : A ++ y :: (B ++ y :: D) = (A ++ y :: B) ++ y :: D := by simp
  have hh : hi = (((A ++ x :: B).length : Nat) : Int) := by rw [hhi]; simp; omega
  have hh' : hi = (((A ++ y :: B).length : Nat) : Int) := by rw [hhi]; simp; omega
  have k' : J () (arr H0 b sp ((A ++ y :: B) ++ x :: D)) := by simpa using k
  have fin : ixa s lo fun p27 => (fun (u v : TE) => Sx.st (p27.1, p27.2 + lo.toNat * 1) (slv u)  (fun H33 => Heap.le (fun _ => none) H33 ∧ ixa s hi fun p34 => Sx.st (p34.1, p34.2 + hi.toNat * 1) (slv v)  (fun H39 => J () H39) H33) (arr H0 b sp L)) y.1 x.1 :=
    ixp hs hlo (by omega) (stx hL hlo ⟨nole _, ixp hs hhi (by omega) (stx e' hh' k')⟩)
  exact ⟨fun _ => none, nole _, ixp hs hhi (by omega) (ixp hs hlo (by omega) ⟨ldx e hh ⟨nole _, ldx hL hlo ⟨nole _, fin⟩⟩, ldx hL hlo ⟨nole _, ldx e hh ⟨nole _, fin⟩⟩⟩)⟩
/-- data[hi], data[lo] = data[lo], data[hi] -/
theorem swp2 {B : List (TE × G)} {lo hi : Int} {J : Unit → Heap → Prop} (hs : Sls s b n) (hn : A.length + 1 + B.length < n) (hL : L = A ++ x :: (B ++ y :: D)) (hlo : lo = (A.length : Int)) (hhi : hi = ((A.length + 1 + B.length : Nat) : Int)) (k : J () (arr H0 b sp (A ++ y :: (B ++ x :: D)))) :
    dr (arr H0 b sp L) fun Hs => ixa s lo fun p => ixa s hi fun q =>
      (LDX (arr H0 b sp L) (p.1, p.2 + lo.toNat * 1) fun u => Heap.le Hs (arr H0 b sp L) ∧ LDX (arr H0 b sp L) (q.1, q.2 + hi.toNat * 1) fun v => Heap.le Hs (arr H0 b sp L) ∧
        ixa s hi fun p27 => Sx.st (p27.1, p27.2 + hi.toNat * 1) (slv u)  (fun H33 => Heap.le Hs H33 ∧ ixa s lo fun p34 => Sx.st (p34.1, p34.2 + lo.toNat * 1) (slv v)  (fun H39 => J () H39) H33) (arr H0 b sp L)) ∧
      (LDX (arr H0 b sp L) (q.1, q.2 + hi.toNat * 1) fun v => Heap.le Hs (arr H0 b sp L) ∧ LDX (arr H0 b sp L) (p.1, p.2 + lo.toNat * 1) fun u => Heap.le Hs (arr H0 b sp L) ∧
        ixa s hi fun p27 => Sx.st (p27.1, p27.2 + hi.toNat * 1) (slv u)  (fun H33 => Heap.le Hs H33 ∧ ixa s lo fun p34 => Sx.st (p34.1, p34.2 + lo.toNat * 1) (slv v)  (fun H39 => J () H39) H33) (arr H0 b sp L)) := by
  have e : L = (A ++ x :: B) ++ y :: D := by rw [hL]; simp
  have e' : (A ++ x :: B) ++ x :: D = A ++ x :: (B ++ x :: D) := by simp
  have hh : hi = (((A ++ x :: B).length : Nat) : Int) := by rw [hhi]; simp; omega
  have fin : ixa s hi fun p27 => (fun (u v : TE) => Sx.st (p27.1, p27.2 + hi.toNat * 1) (slv u)  (fun H33 => Heap.le (fun _ => none) H33 ∧ ixa s lo fun p34 => Sx.st (p34.1, p34.2 + lo.toNat * 1) (slv v)  (fun H39 => J () H39) H33) (arr H0 b sp L)) x.1 y.1 :=
    ixp hs hhi (by omega) (stx e hh ⟨nole _, ixp hs hlo (by omega) (stx e' hlo k)⟩)
  exact ⟨fun _ => none, nole _, ixp hs hlo (by omega) (ixp hs hhi (by omega) ⟨ldx hL hlo ⟨nole _, ldx e hh ⟨nole _, fin⟩⟩, ldx e hh ⟨nole _, ldx hL hlo ⟨nole _, fin⟩⟩⟩)⟩

/-- what compares -/
structure CmpF (C : Ctx) (R : Heap) (f : Value) (P : TE × G → Prop) (κ : TE × G → TE × G → Int) : Prop where
  ok : ∀ A : Heap, R.le A → ∀ x y, P x → P y → ∀ Φ : Value → Heap → Prop, Φ (.int .i64 (κ x y)) A → callU Tryz.prog C f [argE x.1, argE y.1] A Φ
/-- where it is sorted -/
structure Where (C : Ctx) (H0 R : Heap) (s : Sl) (b n : Nat) (f : Value) (P : TE × G → Prop) (κ : TE × G → TE × G → Int) : Prop where
  s : Sls s b n
  le : R.le H0
  rb : R b = none
  f : CmpF C R f P κ
  lin : Lin κ P
variable {f : Value} {P : TE × G → Prop} {κ : TE × G → TE × G → Int} {ι : TE × G → Nat}
theorem Where.arr (h : Where C H0 R s b n f P κ) (sp : List Value) (L : List (TE × G)) : R.le (arr H0 b sp L) := fun z e hz => by
  have : z ≠ b := fun e' => by rw [e', h.rb] at hz; cases hz
  unfold SR.arr
  rw [Heap.put_ne _ _ _ this]; exact h.le _ _ hz
theorem cmp0 {A2 D2 : List (TE × G)} {j : Int} {Ψ : Int → Heap → Prop} (h : Where C H0 R s b n f P κ) (hl : L.length = n) (h1 : L = A ++ x :: D) (hi : i = (A.length : Int)) (h2 : L = A2 ++ y :: D2) (hj : j = (A2.length : Int)) (hx : P x) (hy : P y) (k : Ψ (κ x y) (arr H0 b sp L)) :
    ixa s i fun p => LDX (arr H0 b sp L) (p.1, p.2 + i.toNat * 1) fun u => ixa s j fun q => LDX (arr H0 b sp L) (q.1, q.2 + j.toNat * 1) fun v =>
      callU Tryz.prog C f [argE u, argE v] (arr H0 b sp L) (fun v H => ∃ r : Int, v = .int .i64 r ∧ Heap.le (arr H0 b sp L) H ∧ Ψ r H) := by
  have l1 : A.length < n := by rw [← hl, h1]; simp
  have l2 : A2.length < n := by rw [← hl, h2]; simp
  exact ixp h.s hi l1 (ldx h1 hi (ixp h.s hj l2 (ldx h2 hj (h.f.ok _ (h.arr sp L) x y hx hy _ ⟨_, rfl, Heap.le.refl _, k⟩))))

theorem ins_ok {X : List (TE × G)} {a e : Int} {K : Heap → Prop} (h : Where C H0 R s b n f P κ) (ha : a = (A.length : Int)) (he : e = ((A.length + X.length : Nat) : Int)) (hn : A.length + X.length + D.length = n) (hP : ∀ x ∈ X, P x) (hι : X.Pairwise fun x y => ι x < ι y)
    (k : ∀ Z : List (TE × G), Z.Perm X → Z.Pairwise (Bf κ ι) → K (arr H0 b sp (A ++ Z ++ D))) : c_slices_insertionSortCmpFunc_api_Value C s a e f K (arr H0 b sp (A ++ X ++ D)) := by
  have hsm := h.s.small
  subst ha; subst he
  apply ad_slices_insertionSortCmpFunc_api_Value
  unfold sh_slices_insertionSortCmpFunc_api_Value
  rw [w_i64 (by omega) (by omega)]
  by_cases hX : X = []
  · subst hX
    refine ⟨fun x B => x = (A.length : Int) + 1 ∧ B = arr H0 b sp (A ++ [] ++ D), fun _ _ => 0, ⟨rfl, rfl⟩, ?_⟩
    rintro x B ⟨rfl, rfl⟩
    exact ift_neg (decide_eq_false (by simp; omega)) (k [] (.refl _) .nil)
  obtain ⟨x0, X', rfl⟩ := List.exists_cons_of_ne_nil hX
  refine ⟨fun x B => ∃ Z Y0 Y : List (TE × G), x0 :: X' = Y0 ++ Y ∧ Z.Perm Y0 ∧ Z.Pairwise (Bf κ ι) ∧ 1 ≤ Z.length ∧ x = ((A.length + Z.length : Nat) : Int) ∧ B = arr H0 b sp (A ++ Z ++ Y ++ D), fun x _ => A.length + (x0 :: X').length - x.toNat,
    ⟨[x0], [x0], X', rfl, .refl _, List.pairwise_singleton _ _, by simp, by simp, by simp⟩, ?_⟩
  rintro x B ⟨Z, Y0, Y, hX, hp, hz, h1, rfl, rfl⟩
  have hpl := hp.length_eq
  have hxl : (x0 :: X').length = Y0.length + Y.length := by rw [hX, List.length_append]
  have hιY : Y0.Pairwise (fun x y => ι x < ι y) ∧ Y.Pairwise (fun x y => ι x < ι y) ∧ ∀ x ∈ Y0, ∀ y ∈ Y, ι x < ι y := by rw [hX] at hι; exact List.pairwise_append.1 hι
  refine ift.of (fun hc => ?_) (fun hc => ?_)
  · have hc := of_decide_eq_true hc
    cases Y with
    | nil => simp only [List.length_nil] at hxl; omega
    | cons y Y' =>
    have hPZ : ∀ z ∈ Z, P z := fun z hz => hP z (by rw [hX]; exact List.mem_append_left _ (hp.mem_iff.1 hz))
    have hPy : P y := hP y (by rw [hX]; simp)
    have hιz : ∀ z ∈ Z, ι z < ι y := fun z hz => hιY.2.2 z (hp.mem_iff.1 hz) y (List.mem_cons_self ..)
    refine ⟨fun j B => ∃ Z1 Z2 : List (TE × G), Z = Z1 ++ Z2 ∧ (∀ z ∈ Z2, κ y z < 0) ∧ j = ((A.length + Z1.length : Nat) : Int) ∧ B = arr H0 b sp (A ++ Z1 ++ y :: (Z2 ++ Y' ++ D)), fun j _ => j.toNat,
      ⟨Z, [], by simp, fun z hz => (by cases hz), rfl, by simp⟩, ?_⟩
    rintro j B ⟨Z1, Z2, hZ, hy2, rfl, rfl⟩
    have hZl : Z.length = Z1.length + Z2.length := by rw [hZ, List.length_append]
    simp only [List.length_cons] at hxl hn
    refine ⟨fun c B => B = arr H0 b sp (A ++ Z1 ++ y :: (Z2 ++ Y' ++ D)) ∧ (c = true → ∃ Z1' z, Z1 = Z1' ++ [z] ∧ κ y z < 0) ∧ (c = false → Z1 = [] ∨ ∃ Z1' z, Z1 = Z1' ++ [z] ∧ ¬ κ y z < 0), ⟨_, Heap.le.refl _, ift.of (fun hj => ?_) (fun hj => ?_)⟩, ?_⟩
    · have hj := of_decide_eq_true hj
      have hne : Z1 ≠ [] := fun e => by subst e; simp at hj
      obtain ⟨Z1', z, rfl⟩ := snoc_of hne
      have hzl1 : (Z1' ++ [z]).length = Z1'.length + 1 := by simp
      rw [hzl1] at hZl
      have ew : w .i64 (((A.length + (Z1' ++ [z]).length : Nat) : Int) - 1) = ((A.length + Z1'.length : Nat) : Int) := by
        rw [hzl1, w_i64 (by omega) (by omega)]; omega
      rw [ew]
      refine cmp0 h ?_ (A := A ++ (Z1' ++ [z])) (x := y) (D := Z2 ++ Y' ++ D) rfl (by simp) (A2 := A ++ Z1') (y := z) (D2 := y :: (Z2 ++ Y' ++ D)) (by simp) (by simp) hPy (hPZ z (by rw [hZ]; simp)) ⟨rfl, fun hd => ⟨_, _, rfl, of_decide_eq_true hd⟩, fun hd => .inr ⟨_, _, rfl, of_decide_eq_false hd⟩⟩
      simp only [List.length_append, List.length_cons, List.length_nil] at hZl ⊢
      omega
    · have hj := of_decide_eq_false hj
      have hz1 : Z1 = [] := List.length_eq_zero_iff.1 (by omega)
      exact ⟨rfl, fun hd => (by cases hd), fun _ => .inl hz1⟩
    · rintro c B ⟨rfl, ht, hff⟩
      refine ift.of (fun hc => ?_) (fun hc => ?_)
      · obtain ⟨Z1', z, rfl, hlt⟩ := ht hc
        have hzl1 : (Z1' ++ [z]).length = Z1'.length + 1 := by simp
        rw [hzl1] at hZl
        have ew : w .i64 (((A.length + (Z1' ++ [z]).length : Nat) : Int) - 1) = ((A.length + Z1'.length : Nat) : Int) := by
          rw [hzl1, w_i64 (by omega) (by omega)]; omega
        rw [ew]
        refine ⟨fun _ B => B = arr H0 b sp ((A ++ Z1') ++ y :: ([] ++ z :: (Z2 ++ Y' ++ D))), ?_, ?_⟩
        · show dr _ _
          refine swp2 (J := fun _ B => B = arr H0 b sp ((A ++ Z1') ++ y :: ([] ++ z :: (Z2 ++ Y' ++ D)))) h.s (A := A ++ Z1') (x := z) (B := []) (y := y) (D := Z2 ++ Y' ++ D) ?_ ?_ ?_ ?_ ?_
          · simp only [List.length_append, List.length_nil]; omega
          · simp
          · simp
          · simp; omega
          · rfl
        rintro _ B rfl
        refine ⟨⟨Z1', z :: Z2, by rw [hZ]; simp, fun u hu => ?_, rfl, by simp⟩, ?_⟩
        · rcases List.mem_cons.1 hu with rfl | hu
          · exact hlt
          · exact hy2 u hu
        · simp only [List.length_append, List.length_singleton]; omega
      · rw [w_i64 (by omega) (by omega)]
        have hz' : (Z1 ++ Z2).Pairwise (Bf κ ι) := hZ ▸ hz
        refine ⟨⟨Z1 ++ y :: Z2, Y0 ++ [y], Y', by rw [hX]; simp, ?_, ?_, by simp; omega, by simp; omega, by simp⟩, by simp only [List.length_cons]; omega⟩
        · have : (Z1 ++ y :: Z2).Perm (y :: (Z1 ++ Z2)) := List.perm_middle
          refine this.trans ?_
          rw [← hZ]
          exact (List.Perm.cons y hp).trans (List.perm_append_comm (l₁ := [y]))
        · refine ins2 h.lin hz' hPy (fun x hx => hPZ x (by rw [hZ]; exact hx)) ?_ hy2 (fun x hx => hιz x (by rw [hZ]; exact hx))
          rcases hff hc with rfl | ⟨Z1', z, rfl, hnl⟩
          · intro x hx; cases hx
          · intro x hx
            rcases List.mem_append.1 hx with hx | hx
            · have hm1 : x ∈ Z := by rw [hZ]; simp [hx]
              have hm2 : z ∈ Z := by rw [hZ]; simp
              have hb : Bf κ ι x z := (List.pairwise_append.1 (List.pairwise_append.1 hz').1).2.2 x hx z (List.mem_singleton.2 rfl)
              have a1 := h.lin.anti y z hPy (hPZ z hm2)
              have a2 := h.lin.anti y x hPy (hPZ x hm1)
              have := (h.lin.tr x z y (hPZ x hm1) (hPZ z hm2) hPy hb.le (by omega)).1
              omega
            · rw [List.mem_singleton.1 hx]; exact hnl
  · have hc := of_decide_eq_false hc
    simp only [List.length_cons] at hxl hc
    have hY : Y = [] := List.length_eq_zero_iff.1 (by omega)
    subst hY
    rw [List.append_nil] at hX ⊢
    exact k Z (hX ▸ hp) hz
theorem swap_ok {X M Y : List (TE × G)} {a c m : Int} {K : Heap → Prop} (h : Sls s b n) (hn : A.length + X.length + M.length + Y.length + D.length = n) (hxy : X.length = Y.length) (ha : a = (A.length : Int)) (hc : c = ((A.length + X.length + M.length : Nat) : Int)) (hm : m = (X.length : Int))
    (k : K (arr H0 b sp (A ++ Y ++ M ++ X ++ D))) : c_slices_swapRangeCmpFunc_api_Value C s a c m f K (arr H0 b sp (A ++ X ++ M ++ Y ++ D)) := by
  have hsm := h.small
  subst ha; subst hc; subst hm
  apply ad_slices_swapRangeCmpFunc_api_Value
  unfold sh_slices_swapRangeCmpFunc_api_Value
  refine ⟨fun x B => ∃ i : Nat, x = (i : Int) ∧ i ≤ X.length ∧ B = arr H0 b sp (A ++ (Y.take i ++ X.drop i) ++ M ++ (X.take i ++ Y.drop i) ++ D), fun x _ => X.length - x.toNat, ⟨0, rfl, Nat.zero_le _, by simp⟩, ?_⟩
  rintro x B ⟨i, rfl, hi, rfl⟩
  refine ift.of (fun hlt => ?_) (fun hlt => ?_)
  · have hlt : i < X.length := by have := of_decide_eq_true hlt; omega
    have hlt2 : i < Y.length := by omega
    have w1 : w .i64 (((A.length + X.length + M.length : Nat) : Int) + (i : Int)) = ((A.length + X.length + M.length + i : Nat) : Int) := by rw [w_i64 (by omega) (by omega)]; omega
    have w2 : w .i64 ((A.length : Int) + (i : Int)) = ((A.length + i : Nat) : Int) := by rw [w_i64 (by omega) (by omega)]; omega
    rw [w1, w2]
    have dx := List.drop_eq_getElem_cons hlt
    have dy := List.drop_eq_getElem_cons hlt2
    have tx : X.take (i + 1) = X.take i ++ [X[i]] := by rw [List.take_add_one, List.getElem?_eq_getElem hlt]; rfl
    have ty : Y.take (i + 1) = Y.take i ++ [Y[i]] := by rw [List.take_add_one, List.getElem?_eq_getElem hlt2]; rfl
    have l1 : (Y.take i).length = i := by rw [List.length_take]; omega
    have l2 : (X.take i).length = i := by rw [List.length_take]; omega
    have l3 : (X.drop (i + 1)).length = X.length - (i + 1) := List.length_drop ..
    have l4 : (Y.drop (i + 1)).length = Y.length - (i + 1) := List.length_drop ..
    refine ⟨fun _ B => B = arr H0 b sp ((A ++ Y.take i) ++ Y[i] :: ((X.drop (i + 1) ++ M ++ X.take i) ++ X[i] :: (Y.drop (i + 1) ++ D))), ?_, ?_⟩
    · show dr _ _
      refine swp1 (J := fun _ B => B = arr H0 b sp ((A ++ Y.take i) ++ Y[i] :: ((X.drop (i + 1) ++ M ++ X.take i) ++ X[i] :: (Y.drop (i + 1) ++ D)))) h (A := A ++ Y.take i) (x := X[i]) (y := Y[i]) (B := X.drop (i + 1) ++ M ++ X.take i) (D := Y.drop (i + 1) ++ D) ?_ ?_ ?_ ?_ rfl
      · simp only [List.length_append, l1, l2, l3]; omega
      · rw [dx, dy]; simp only [List.append_assoc, List.cons_append]
      · simp only [List.length_append, l1]
      · simp only [List.length_append, l1, l2, l3]; omega
    rintro _ B rfl
    rw [w_i64 (by omega) (by omega)]
    refine ⟨⟨i + 1, by omega, by omega, ?_⟩, by first | omega | (dsimp only; omega)⟩
    rw [tx, ty]; simp only [List.append_assoc, List.cons_append, List.nil_append, List.singleton_append]
  · have hie : i = X.length := by have := of_decide_eq_false hlt; omega
    subst hie
    rw [List.take_length, List.drop_length, hxy, List.take_length, List.drop_length, List.append_nil, List.append_nil]
    exact k
theorem rot_ok {X Y : List (TE × G)} {a m e : Int} {K : Heap → Prop} (h : Sls s b n) (hn : A.length + X.length + Y.length + D.length = n) (hX : X ≠ []) (hY : Y ≠ []) (ha : a = (A.length : Int)) (hm : m = ((A.length + X.length : Nat) : Int)) (he : e = ((A.length + X.length + Y.length : Nat) : Int))
    (k : K (arr H0 b sp (A ++ Y ++ X ++ D))) : c_slices_rotateCmpFunc_api_Value C s a m e f K (arr H0 b sp (A ++ X ++ Y ++ D)) := by
  have hsm := h.small
  have px : 0 < X.length := List.length_pos_iff.2 hX
  have py : 0 < Y.length := List.length_pos_iff.2 hY
  subst ha; subst hm; subst he
  apply ad_slices_rotateCmpFunc_api_Value
  unfold sh_slices_rotateCmpFunc_api_Value
  have w1 : w .i64 (((A.length + X.length : Nat) : Int) - (A.length : Int)) = ((X.length : Nat) : Int) := by rw [w_i64 (by omega) (by omega)]; omega
  have w2 : w .i64 (((A.length + X.length + Y.length : Nat) : Int) - ((A.length + X.length : Nat) : Int)) = ((Y.length : Nat) : Int) := by rw [w_i64 (by omega) (by omega)]; omega
  rw [w1, w2]
  refine ⟨fun x B => ∃ P U V S : List (TE × G), x = (((U.length : Nat) : Int), ((V.length : Nat) : Int)) ∧ B = arr H0 b sp (P ++ U ++ V ++ S) ∧ A ++ Y ++ X ++ D = P ++ V ++ U ++ S ∧ P.length + U.length = A.length + X.length ∧ P.length + U.length + V.length + S.length = n ∧ 0 < U.length ∧ 0 < V.length,
    fun x _ => x.1.toNat + x.2.toNat, ⟨A, X, Y, D, rfl, rfl, rfl, rfl, by omega, px, py⟩, ?_⟩
  rintro x B ⟨P, U, V, S, rfl, rfl, hT, hl, hl2, pu, pv⟩
  have w3 : w .i64 (((A.length + X.length : Nat) : Int) - ((U.length : Nat) : Int)) = ((P.length : Nat) : Int) := by rw [w_i64 (by omega) (by omega)]; omega
  dsimp only
  rw [w3]
  refine ift.of (fun hne => ?_) (fun heq => ?_)
  · have hne : U.length ≠ V.length := fun e => by rw [e] at hne; simp at hne
    refine ift.of (fun hgt => ?_) (fun hgt => ?_)
    · have hgt : V.length < U.length := by have := of_decide_eq_true hgt; omega
      -- U = U1 ++ U2
      have hU : U = U.take V.length ++ U.drop V.length := (List.take_append_drop ..).symm
      have l1 : (U.take V.length).length = V.length := by rw [List.length_take]; omega
      have l2 : (U.drop V.length).length = U.length - V.length := List.length_drop ..
      generalize U.take V.length = U1 at *
      generalize U.drop V.length = U2 at *
      subst hU
      simp only [List.length_append] at hl hl2 pu hne hgt
      have e0 : P ++ (U1 ++ U2) ++ V ++ S = P ++ U1 ++ U2 ++ V ++ S := by simp only [List.append_assoc]
      rw [e0]
      refine swap_ok h (A := P) (X := U1) (M := U2) (Y := V) (D := S) (by omega) (by omega) rfl (by omega) (by omega) ?_
      rw [w_i64 (by simp only [List.length_append]; omega) (by simp only [List.length_append]; omega)]
      refine ⟨⟨P ++ V, U2, U1, S, ?_, by simp only [List.append_assoc], by rw [hT]; simp only [List.append_assoc], by simp only [List.length_append]; omega, by simp only [List.length_append]; omega, by omega, by omega⟩, ?_⟩
      · simp only [List.length_append, Prod.mk.injEq]; omega
      · simp only [List.length_append]; omega
    · have hgt : U.length < V.length := by have := of_decide_eq_false hgt; omega
      have hV : V = V.take (V.length - U.length) ++ V.drop (V.length - U.length) := (List.take_append_drop ..).symm
      have l1 : (V.take (V.length - U.length)).length = V.length - U.length := by rw [List.length_take]; omega
      have l2 : (V.drop (V.length - U.length)).length = U.length := by rw [List.length_drop]; omega
      have w4 : w .i64 (w .i64 (((A.length + X.length : Nat) : Int) + ((V.length : Nat) : Int)) - ((U.length : Nat) : Int)) = ((P.length + U.length + (V.length - U.length) : Nat) : Int) := by
        rw [w_i64 (x := ((A.length + X.length : Nat) : Int) + ((V.length : Nat) : Int)) (by omega) (by omega), w_i64 (by omega) (by omega)]; omega
      rw [w4]
      generalize V.take (V.length - U.length) = V1 at *
      generalize V.drop (V.length - U.length) = V2 at *
      have l3 : V.length = V1.length + V2.length := by omega
      have e0 : P ++ U ++ V ++ S = P ++ U ++ V1 ++ V2 ++ S := by rw [hV]; simp only [List.append_assoc]
      rw [e0]
      refine swap_ok h (A := P) (X := U) (M := V1) (Y := V2) (D := S) (by omega) (by omega) rfl (by omega) rfl ?_
      rw [w_i64 (by omega) (by omega)]
      refine ⟨⟨P, V2, V1, U ++ S, ?_, by simp only [List.append_assoc], by rw [hT, hV]; simp only [List.append_assoc], by omega, by simp only [List.length_append]; omega, by omega, by omega⟩, ?_⟩
      · simp only [Prod.mk.injEq]; omega
      · first | omega | (dsimp only; omega)
  · have heq : U.length = V.length := by
      have : ((U.length : Nat) : Int) = ((V.length : Nat) : Int) := by simpa using heq
      omega
    have e0 : P ++ U ++ V ++ S = P ++ U ++ [] ++ V ++ S := by simp only [List.append_assoc, List.nil_append]
    rw [e0]
    refine swap_ok h (A := P) (X := U) (M := []) (Y := V) (D := S) (by simp only [List.length_nil]; omega) heq rfl (by simp only [List.length_nil]; omega) rfl ?_
    rw [hT] at k
    simpa only [List.append_assoc, List.nil_append] using k
theorem pr {a b c d : Int} (h1 : a = c) (h2 : b = d) : (a, b) = (c, d) := by rw [h1, h2]
theorem idx_ok {a f x c : Nat} (hc : c < f) (h1 : a + x ≤ 281474976710656) (h2 : f ≤ 281474976710656) : w .i64 (((a + f + (a + x) - 1 : Nat) : Int) - ((a + c : Nat) : Int)) = ((a + x + (f - 1 - c) : Nat) : Int) := by
  have e1 : a + f + (a + x) - 1 = a + x + (f - 1 - c) + (a + c) := by omega
  rw [e1, w_i64 (by omega) (by omega)]; omega
/-- what is found by halving -/
theorem sym_key (h : Where C H0 R s b n f P κ) : ∀ (N : Nat) {X Y A D : List (TE × G)} {a m e : Int} {K : Heap → Prop}, X.length + Y.length ≤ N → X ≠ [] → Y ≠ [] → a = (A.length : Int) → m = ((A.length + X.length : Nat) : Int) → e = ((A.length + X.length + Y.length : Nat) : Int) → A.length + X.length + Y.length + D.length = n →
      (∀ x ∈ X ++ Y, P x) → X.Pairwise (Bf κ ι) → Y.Pairwise (Bf κ ι) → (∀ x ∈ X, ∀ y ∈ Y, ι x < ι y) → (∀ Z : List (TE × G), Z.Perm (X ++ Y) → Z.Pairwise (Bf κ ι) → K (arr H0 b sp (A ++ Z ++ D))) → c_slices_symMergeCmpFunc_api_Value C s a m e f K (arr H0 b sp (A ++ X ++ Y ++ D)) := by
  have hsm := h.s.small
  intro N
  induction N with
  | zero => intro X Y A D a m e K hN hX; have := List.length_pos_iff.2 hX; omega
  | succ N ih =>
  intro X Y A D a m e K hN hX hY ha hm he hn hP sX sY hι k
  have px : 0 < X.length := List.length_pos_iff.2 hX
  have py : 0 < Y.length := List.length_pos_iff.2 hY
  have hPX : ∀ x ∈ X, P x := fun x hx => hP x (List.mem_append_left _ hx)
  have hPY : ∀ y ∈ Y, P y := fun y hy => hP y (List.mem_append_right _ hy)
  subst ha; subst hm; subst he
  apply ad_slices_symMergeCmpFunc_api_Value
  unfold sh_slices_symMergeCmpFunc_api_Value
  have w1 : w .i64 (((A.length + X.length : Nat) : Int) - (A.length : Int)) = ((X.length : Nat) : Int) := by rw [w_i64 (by omega) (by omega)]; omega
  have w2 : w .i64 (((A.length + X.length + Y.length : Nat) : Int) - ((A.length + X.length : Nat) : Int)) = ((Y.length : Nat) : Int) := by rw [w_i64 (by omega) (by omega)]; omega
  rw [w1, w2]
  refine ift.of (fun hone => ?_) (fun hone => ?_)
  · -- one ahead of many
    have hx1 : X.length = 1 := by
      have : ((X.length : Nat) : Int) = 1 := by simpa using hone
      omega
    obtain ⟨x, rfl⟩ := List.length_eq_one_iff.1 hx1
    have hPx : P x := hPX x (List.mem_cons_self ..)
    refine ⟨fun y B => B = arr H0 b sp (A ++ [x] ++ Y ++ D) ∧ ∃ i j : Nat, y = (((A.length + 1 + i : Nat) : Int), ((A.length + 1 + j : Nat) : Int)) ∧ i ≤ j ∧ j ≤ Y.length ∧ (∀ y ∈ Y.take i, κ y x < 0) ∧ (∀ y ∈ Y.drop j, ¬ κ y x < 0), fun y _ => (y.2 - y.1).toNat,
      ⟨rfl, 0, Y.length, by simp, Nat.zero_le _, Nat.le_refl _, fun y hy => by simp at hy, fun y hy => by simp at hy⟩, ?_⟩
    rintro _ B ⟨rfl, i, j, rfl, hij, hj, hlo, hhi⟩
    dsimp only
    refine ift.of (fun hlt => ?_) (fun hlt => ?_)
    · have hlt : i < j := by have := of_decide_eq_true hlt; omega
      rw [half_ok (by omega)]
      have hh : (A.length + 1 + i + (A.length + 1 + j)) / 2 = A.length + 1 + (i + j) / 2 := by omega
      rw [hh]
      have hc1 : i ≤ (i + j) / 2 := by omega
      have hc2 : (i + j) / 2 < j := by omega
      generalize (i + j) / 2 = c at *
      have hcl : c < Y.length := by omega
      have hPc := hPY _ (List.getElem_mem hcl)
      have hpm := pw_mid sY hcl
      have eY := eq_mid hcl
      have lt : (Y.take c).length = c := by rw [List.length_take]; omega
      refine ⟨_, Heap.le.refl _, ?_⟩
      refine cmp0 h (by simp only [List.length_append]; omega) (A := A ++ [x] ++ Y.take c) (x := Y[c]) (D := Y.drop (c + 1) ++ D) ?_ ?_ (A2 := A) (y := x) (D2 := Y ++ D) (by simp) rfl hPc hPx ?_
      · conv => lhs; rw [eY]
        simp only [List.append_assoc, List.cons_append]
      · simp only [List.length_append, List.length_singleton, lt]
      refine ift.of (fun hd => ?_) (fun hd => ?_)
      · have hd := of_decide_eq_true hd
        rw [w_i64 (by omega) (by omega)]
        refine ⟨⟨rfl, c + 1, j, pr (by omega) (by omega), by omega, hj, fun y hy => ?_, hhi⟩, by first | omega | (dsimp only; omega)⟩
        rw [List.take_add_one, List.getElem?_eq_getElem hcl, Option.toList_some] at hy
        rcases List.mem_append.1 hy with hy | hy
        · exact (h.lin.tr y Y[c] x (hPY y (mem_take hy)) hPc hPx (hpm.1 y hy).le (by omega)).2 (.inr hd)
        · rw [List.mem_singleton.1 hy]; exact hd
      · have hd := of_decide_eq_false hd
        refine ⟨⟨rfl, i, c, rfl, hc1, by omega, hlo, fun y hy => ?_⟩, by first | omega | (dsimp only; omega)⟩
        rw [List.drop_eq_getElem_cons hcl] at hy
        rcases List.mem_cons.1 hy with rfl | hy
        · exact hd
        · intro hyx
          have hb := (hpm.2 y hy).le
          exact hd ((h.lin.tr Y[c] y x hPc (hPY y (mem_drop hy)) hPx hb (by omega)).2 (.inr hyx))
    · have hij : i = j := by have := of_decide_eq_false hlt; omega
      subst hij
      have w3 : w .i64 (((A.length + 1 + i : Nat) : Int) - 1) = ((A.length + i : Nat) : Int) := by rw [w_i64 (by omega) (by omega)]; omega
      have hY12 : Y = Y.take i ++ Y.drop i := (List.take_append_drop ..).symm
      have l1 : (Y.take i).length = i := by rw [List.length_take]; omega
      have l2 : (Y.drop i).length = Y.length - i := List.length_drop ..
      have fin : K (arr H0 b sp (A ++ (Y.take i ++ x :: Y.drop i) ++ D)) := by
        refine k _ ?_ (ins1 h.lin (by rw [← hY12]; exact sY) hPx (by rw [← hY12]; exact hPY) hlo hhi (by rw [← hY12]; exact fun y hy => hι x (List.mem_cons_self ..) y hy))
        have p1 : (Y.take i ++ x :: Y.drop i).Perm (x :: (Y.take i ++ Y.drop i)) := List.perm_middle
        rw [← hY12] at p1
        exact p1
      generalize Y.take i = Y1 at *
      generalize Y.drop i = Y2 at *
      subst hY12
      rw [w3]
      refine ⟨fun y B => ∃ U V : List (TE × G), Y1 = U ++ V ∧ y = ((A.length + U.length : Nat) : Int) ∧ B = arr H0 b sp (A ++ U ++ x :: (V ++ Y2 ++ D)), fun y _ => A.length + i - y.toNat, ⟨[], Y1, rfl, by simp, by simp only [List.append_assoc, List.cons_append, List.nil_append, List.append_nil, List.singleton_append]⟩, ?_⟩
      rintro y B ⟨U, V, rfl, rfl, rfl⟩
      simp only [List.length_append] at l1 hn hj
      refine ift.of (fun hlt => ?_) (fun hlt => ?_)
      · have hlt := of_decide_eq_true hlt
        cases V with
        | nil => simp only [List.length_nil] at l1; omega
        | cons v V =>
        simp only [List.length_cons] at l1 hn
        have w4 : w .i64 (((A.length + U.length : Nat) : Int) + 1) = ((A.length + U.length + 1 : Nat) : Int) := by rw [w_i64 (by omega) (by omega)]; omega
        rw [w4]
        refine ⟨fun _ B => B = arr H0 b sp ((A ++ U) ++ v :: ([] ++ x :: (V ++ Y2 ++ D))), ?_, ?_⟩
        · show dr _ _
          refine swp1 (J := fun _ B => B = arr H0 b sp ((A ++ U) ++ v :: ([] ++ x :: (V ++ Y2 ++ D)))) h.s (A := A ++ U) (x := x) (B := []) (y := v) (D := V ++ Y2 ++ D) ?_ ?_ ?_ ?_ rfl
          · first | (simp only [List.length_append, List.length_nil]; done) | (simp only [List.length_append, List.length_nil]; omega)
          · simp only [List.append_assoc, List.cons_append, List.nil_append]
          · simp only [List.length_append]
          · first | (simp only [List.length_append, List.length_nil]; done) | (simp only [List.length_append, List.length_nil]; omega)
        rintro _ B rfl
        refine ⟨⟨U ++ [v], V, by simp, by simp only [List.length_append, List.length_singleton]; omega, by simp only [List.append_assoc, List.cons_append, List.nil_append, List.singleton_append]⟩, by first | omega | (dsimp only; omega)⟩
      · have hlt := of_decide_eq_false hlt
        have hV : V = [] := List.length_eq_zero_iff.1 (by omega)
        subst hV
        simpa only [List.append_assoc, List.cons_append, List.nil_append, List.append_nil] using fin
  refine ift.of (fun hone2 => ?_) (fun hone2 => ?_)
  · -- many ahead of one
    have hy1 : Y.length = 1 := by
      have : ((Y.length : Nat) : Int) = 1 := by simpa using hone2
      omega
    obtain ⟨y, rfl⟩ := List.length_eq_one_iff.1 hy1
    have hPy : P y := hPY y (List.mem_cons_self ..)
    refine ⟨fun z B => B = arr H0 b sp (A ++ X ++ [y] ++ D) ∧ ∃ i j : Nat, z = (((A.length + i : Nat) : Int), ((A.length + j : Nat) : Int)) ∧ i ≤ j ∧ j ≤ X.length ∧ (∀ x ∈ X.take i, ¬ κ y x < 0) ∧ (∀ x ∈ X.drop j, κ y x < 0), fun z _ => (z.2 - z.1).toNat,
      ⟨rfl, 0, X.length, by simp, Nat.zero_le _, Nat.le_refl _, fun y hy => by simp at hy, fun y hy => by simp at hy⟩, ?_⟩
    rintro _ B ⟨rfl, i, j, rfl, hij, hj, hlo, hhi⟩
    dsimp only
    refine ift.of (fun hlt => ?_) (fun hlt => ?_)
    · have hlt : i < j := by have := of_decide_eq_true hlt; omega
      rw [half_ok (by omega)]
      have hh : (A.length + i + (A.length + j)) / 2 = A.length + (i + j) / 2 := by omega
      rw [hh]
      have hc1 : i ≤ (i + j) / 2 := by omega
      have hc2 : (i + j) / 2 < j := by omega
      generalize (i + j) / 2 = c at *
      have hcl : c < X.length := by omega
      have hPc := hPX _ (List.getElem_mem hcl)
      have hpm := pw_mid sX hcl
      have eX := eq_mid hcl
      have lt : (X.take c).length = c := by rw [List.length_take]; omega
      refine ⟨_, Heap.le.refl _, ?_⟩
      refine cmp0 h (by simp only [List.length_append]; omega) (A := A ++ X) (x := y) (D := D) (by simp) (by simp) (A2 := A ++ X.take c) (y := X[c]) (D2 := X.drop (c + 1) ++ [y] ++ D) ?_ ?_ hPy hPc ?_
      · conv => lhs; rw [eX]
        simp only [List.append_assoc, List.cons_append]
      · simp only [List.length_append, lt]
      refine ift.of (fun hd => ?_) (fun hd => ?_)
      · have hd : ¬ κ y X[c] < 0 := by simpa using hd
        rw [w_i64 (by omega) (by omega)]
        refine ⟨⟨rfl, c + 1, j, pr (by omega) (by omega), by omega, hj, fun x hx => ?_, hhi⟩, by first | omega | (dsimp only; omega)⟩
        rw [List.take_add_one, List.getElem?_eq_getElem hcl, Option.toList_some] at hx
        rcases List.mem_append.1 hx with hx | hx
        · intro hyx
          exact hd ((h.lin.tr y x X[c] hPy (hPX x (mem_take hx)) hPc (by omega) (hpm.1 x hx).le).2 (.inl hyx))
        · rw [List.mem_singleton.1 hx]; exact hd
      · have hd : κ y X[c] < 0 := by simpa using hd
        refine ⟨⟨rfl, i, c, rfl, hc1, by omega, hlo, fun x hx => ?_⟩, by first | omega | (dsimp only; omega)⟩
        rw [List.drop_eq_getElem_cons hcl] at hx
        rcases List.mem_cons.1 hx with rfl | hx
        · exact hd
        · exact (h.lin.tr y X[c] x hPy hPc (hPX x (mem_drop hx)) (by omega) (hpm.2 x hx).le).2 (.inl hd)
    · have hij : i = j := by have := of_decide_eq_false hlt; omega
      subst hij
      have hX12 : X = X.take i ++ X.drop i := (List.take_append_drop ..).symm
      have l1 : (X.take i).length = i := by rw [List.length_take]; omega
      have fin : K (arr H0 b sp (A ++ (X.take i ++ y :: X.drop i) ++ D)) := by
        refine k _ ?_ (ins2 h.lin (by rw [← hX12]; exact sX) hPy (by rw [← hX12]; exact hPX) hlo hhi (by rw [← hX12]; exact fun x hx => hι x hx y (List.mem_cons_self ..)))
        have p1 : (X.take i ++ y :: X.drop i).Perm (y :: (X.take i ++ X.drop i)) := List.perm_middle
        rw [← hX12] at p1
        exact p1.trans (List.perm_append_comm (l₁ := [y]))
      generalize X.take i = X1 at *
      generalize X.drop i = X2 at *
      subst hX12
      refine ⟨fun z B => ∃ U V : List (TE × G), X2 = U ++ V ∧ z = ((A.length + i + U.length : Nat) : Int) ∧ B = arr H0 b sp (A ++ X1 ++ U ++ y :: (V ++ D)), fun z _ => z.toNat, ⟨X2, [], by simp, by simp only [List.length_append]; omega, by simp only [List.append_assoc, List.cons_append, List.nil_append, List.append_nil, List.singleton_append]⟩, ?_⟩
      rintro z B ⟨U, V, rfl, rfl, rfl⟩
      simp only [List.length_append, List.length_singleton] at l1 hn hj
      refine ift.of (fun hlt => ?_) (fun hlt => ?_)
      · have hlt := of_decide_eq_true hlt
        have hne : U ≠ [] := fun e => by subst e; simp at hlt
        obtain ⟨U', u, rfl⟩ := snoc_of hne
        simp only [List.length_append, List.length_singleton] at hn hlt ⊢
        have w4 : w .i64 (((A.length + i + (U'.length + 1) : Nat) : Int) - 1) = ((A.length + i + U'.length : Nat) : Int) := by rw [w_i64 (by omega) (by omega)]; omega
        rw [w4]
        refine ⟨fun _ B => B = arr H0 b sp ((A ++ X1 ++ U') ++ y :: ([] ++ u :: (V ++ D))), ?_, ?_⟩
        · show dr _ _
          refine swp2 (J := fun _ B => B = arr H0 b sp ((A ++ X1 ++ U') ++ y :: ([] ++ u :: (V ++ D)))) h.s (A := A ++ X1 ++ U') (x := u) (B := []) (y := y) (D := V ++ D) ?_ ?_ ?_ ?_ rfl
          · first | (simp only [List.length_append, List.length_nil]; done) | (simp only [List.length_append, List.length_nil]; omega)
          · simp only [List.append_assoc, List.cons_append, List.nil_append]
          · simp only [List.length_append]; omega
          · first | (simp only [List.length_append, List.length_nil]; done) | (simp only [List.length_append, List.length_nil]; omega)
        rintro _ B rfl
        refine ⟨⟨U', u :: V, by simp, rfl, by simp only [List.append_assoc, List.cons_append, List.nil_append]⟩, by first | omega | (dsimp only; omega)⟩
      · have hlt := of_decide_eq_false hlt
        have hU : U = [] := List.length_eq_zero_iff.1 (by omega)
        subst hU
        simpa only [List.append_assoc, List.cons_append, List.nil_append, List.append_nil] using fin
  -- many and many
  have hx2 : X.length ≠ 1 := fun e => by rw [e] at hone; simp at hone
  have hy2 : Y.length ≠ 1 := fun e => by rw [e] at hone2; simp at hone2
  clear hone hone2
  have hmid : w .i64 (sShr .u64 (w .u64 (w .i64 ((A.length : Int) + ((A.length + X.length + Y.length : Nat) : Int)))) 1) = ((A.length + (X.length + Y.length) / 2 : Nat) : Int) := by
    rw [half_ok (by omega)]; omega
  rw [hmid]
  have hf1 : 2 ≤ (X.length + Y.length) / 2 := by omega
  have hf2 : 2 * ((X.length + Y.length) / 2) ≤ X.length + Y.length := by omega
  have hf3 : X.length + Y.length ≤ 2 * ((X.length + Y.length) / 2) + 1 := by omega
  generalize (X.length + Y.length) / 2 = F at *
  have wn : w .i64 (((A.length + F : Nat) : Int) + ((A.length + X.length : Nat) : Int)) = ((A.length + F + (A.length + X.length) : Nat) : Int) := by rw [w_i64 (by omega) (by omega)]; omega
  have wp : w .i64 (((A.length + F + (A.length + X.length) : Nat) : Int) - 1) = ((A.length + F + (A.length + X.length) - 1 : Nat) : Int) := by rw [w_i64 (by omega) (by omega)]; omega
  rw [wn, wp]
  have ws : w .i64 (((A.length + F + (A.length + X.length) : Nat) : Int) - ((A.length + X.length + Y.length : Nat) : Int)) = ((A.length + F : Nat) : Int) - ((Y.length : Nat) : Int) := by rw [w_i64 (by omega) (by omega)]; omega
  rw [ws]
  -- from where to where
  refine ⟨fun x B => B = arr H0 b sp (A ++ X ++ Y ++ D) ∧ ∃ lo hi : Nat, x = (((A.length + lo : Nat) : Int), ((A.length + hi : Nat) : Int)) ∧ lo ≤ hi ∧ hi ≤ X.length ∧ hi ≤ F ∧ F ≤ lo + Y.length ∧ (lo = 0 ∨ F = lo + Y.length) ∧ (hi = X.length ∨ hi = F), ift.of (fun hgt => ?_) (fun hgt => ?_), ?_⟩
  · have hgt := of_decide_eq_true hgt
    exact ⟨rfl, F - Y.length, F, pr (by omega) (by omega), by omega, by omega, by omega, by omega, .inr (by omega), .inr rfl⟩
  · have hgt := of_decide_eq_false hgt
    exact ⟨rfl, 0, X.length, pr (by omega) (by omega), by omega, by omega, by omega, by omega, .inl rfl, .inl rfl⟩
  rintro _ B ⟨rfl, lo, hi, rfl, hlh, hhX, hhF, hFl, hlo, hhi⟩
  have idx : ∀ c : Nat, c < X.length → c < F → F < c + 1 + Y.length → F - 1 - c < Y.length := fun c _ _ _ => by omega
  refine ⟨fun x B => B = arr H0 b sp (A ++ X ++ Y ++ D) ∧ ∃ i j : Nat, x = (((A.length + i : Nat) : Int), ((A.length + j : Nat) : Int)) ∧ lo ≤ i ∧ i ≤ j ∧ j ≤ hi ∧
      (lo < i → ∃ x y, X[i - 1]? = some x ∧ Y[F - i]? = some y ∧ ¬ κ y x < 0) ∧ (j < hi → ∃ x y, X[j]? = some x ∧ Y[F - 1 - j]? = some y ∧ κ y x < 0), fun x _ => (x.2 - x.1).toNat,
    ⟨rfl, lo, hi, rfl, Nat.le_refl _, hlh, Nat.le_refl _, fun hh => absurd hh (Nat.lt_irrefl _), fun hh => absurd hh (Nat.lt_irrefl _)⟩, ?_⟩
  rintro _ B ⟨rfl, i, j, rfl, hli, hij, hjh, hA, hB⟩
  dsimp only
  refine ift.of (fun hlt => ?_) (fun hlt => ?_)
  · have hlt : i < j := by have := of_decide_eq_true hlt; omega
    rw [half_ok (by omega)]
    have hh : (A.length + i + (A.length + j)) / 2 = A.length + (i + j) / 2 := by omega
    rw [hh]
    have hc1 : i ≤ (i + j) / 2 := by omega
    have hc2 : (i + j) / 2 < j := by omega
    generalize (i + j) / 2 = c at *
    have hcX : c < X.length := by omega
    have hcY : F - 1 - c < Y.length := by omega
    have wq : w .i64 (((A.length + F + (A.length + X.length) - 1 : Nat) : Int) - ((A.length + c : Nat) : Int)) = ((A.length + X.length + (F - 1 - c) : Nat) : Int) := by
        have hcF : c < F := by omega
        exact idx_ok hcF (by omega) (by omega)
    rw [wq]
    have eX := eq_mid hcX
    have eY := eq_mid hcY
    have ltX : (X.take c).length = c := by rw [List.length_take]; omega
    have ltY : (Y.take (F - 1 - c)).length = F - 1 - c := by rw [List.length_take]; omega
    refine ⟨_, Heap.le.refl _, ?_⟩
    refine cmp0 h (by simp only [List.length_append]; omega) (A := A ++ X ++ Y.take (F - 1 - c)) (x := Y[F - 1 - c]) (D := Y.drop (F - 1 - c + 1) ++ D) ?_ ?_ (A2 := A ++ X.take c) (y := X[c]) (D2 := X.drop (c + 1) ++ Y ++ D) ?_ ?_ (hPY _ (List.getElem_mem hcY)) (hPX _ (List.getElem_mem hcX)) ?_
    · conv => lhs; rw [eY]
      simp only [List.append_assoc, List.cons_append]
    · simp only [List.length_append, ltY]
    · conv => lhs; rw [eX]
      simp only [List.append_assoc, List.cons_append]
    · simp only [List.length_append, ltX]
    refine ift.of (fun hd => ?_) (fun hd => ?_)
    · have hd : ¬ κ Y[F - 1 - c] X[c] < 0 := by simpa using hd
      rw [w_i64 (by omega) (by omega)]
      refine ⟨⟨rfl, c + 1, j, pr (by omega) (by omega), by omega, by omega, hjh, fun _ => ⟨X[c], Y[F - 1 - c], List.getElem?_eq_getElem hcX, ?_, hd⟩, hB⟩, by first | omega | (dsimp only; omega)⟩
      rw [show F - (c + 1) = F - 1 - c by omega]; exact List.getElem?_eq_getElem hcY
    · have hd : κ Y[F - 1 - c] X[c] < 0 := by simpa using hd
      exact ⟨⟨rfl, i, c, rfl, hli, hc1, by omega, hA, fun _ => ⟨X[c], Y[F - 1 - c], List.getElem?_eq_getElem hcX, List.getElem?_eq_getElem hcY, hd⟩⟩, by first | omega | (dsimp only; omega)⟩
  · have hij : i = j := by have := of_decide_eq_false hlt; omega
    subst hij
    have we : w .i64 (((A.length + F + (A.length + X.length) : Nat) : Int) - ((A.length + i : Nat) : Int)) = ((A.length + X.length + (F - i) : Nat) : Int) := by rw [w_i64 (by omega) (by omega)]; omega
    rw [we]
    have hFi : F - i ≤ Y.length := by omega
    have spX := pw_split sX i
    have spY := pw_split sY (F - i)
    have eX : X = X.take i ++ X.drop i := (List.take_append_drop ..).symm
    have eY : Y = Y.take (F - i) ++ Y.drop (F - i) := (List.take_append_drop ..).symm
    have l1 : (X.take i).length = i := by rw [List.length_take]; omega
    have l2 : (X.drop i).length = X.length - i := List.length_drop ..
    have l3 : (Y.take (F - i)).length = F - i := by rw [List.length_take]; omega
    have l4 : (Y.drop (F - i)).length = Y.length - (F - i) := List.length_drop ..
    -- what is ahead stands ahead
    have c1 : ∀ x ∈ X.take i, ∀ y ∈ Y.drop (F - i), Bf κ ι x y := by
      intro x hx y hy
      rcases Nat.lt_or_ge lo i with hlt | hge
      · obtain ⟨x0, y0, hx0, hy0, hn0⟩ := hA hlt
        have hx0l : i - 1 < X.length := by omega
        obtain ⟨hy0l, hy0e⟩ := List.getElem?_eq_some_iff.1 hy0
        obtain ⟨_, hx0e⟩ := List.getElem?_eq_some_iff.1 hx0
        have m1 : x0 ∈ X := hx0e ▸ List.getElem_mem hx0l
        have m2 : y0 ∈ Y := hy0e ▸ List.getElem_mem hy0l
        have a1 : κ x x0 ≤ 0 := by
          have hx' : x ∈ X.take (i - 1 + 1) := by rw [show i - 1 + 1 = i by omega]; exact hx
          rw [List.take_add_one, hx0, Option.toList_some] at hx'
          rcases List.mem_append.1 hx' with hx' | hx'
          · have := ((pw_mid sX hx0l).1 x hx').le; rw [hx0e] at this; exact this
          · rw [List.mem_singleton.1 hx', h.lin.refl (hPX x0 m1)]; omega
        have a2 : κ y0 y ≤ 0 := by
          rw [List.drop_eq_getElem_cons hy0l, hy0e] at hy
          rcases List.mem_cons.1 hy with rfl | hy
          · rw [h.lin.refl (hPY y m2)]; omega
          · have := ((pw_mid sY hy0l).2 y hy).le; rw [hy0e] at this; exact this
        have a3 := h.lin.anti y0 x0 (hPY y0 m2) (hPX x0 m1)
        have a4 := (h.lin.tr x x0 y0 (hPX x (mem_take hx)) (hPX x0 m1) (hPY y0 m2) a1 (by omega)).1
        have a5 := (h.lin.tr x y0 y (hPX x (mem_take hx)) (hPY y0 m2) (hPY y (mem_drop hy)) a4 a2).1
        exact Bf.of a5 (hι x (mem_take hx) y (mem_drop hy))
      · rcases hlo with h0 | h0
        · have : i = 0 := by omega
          rw [this] at hx; simp at hx
        · have : (Y.drop (F - i)).length = 0 := by omega
          rw [List.length_eq_zero_iff.1 this] at hy; cases hy
    have c2 : ∀ y ∈ Y.take (F - i), ∀ x ∈ X.drop i, Bf κ ι y x := by
      intro y hy x hx
      rcases Nat.lt_or_ge i hi with hlt | hge
      · obtain ⟨x0, y0, hx0, hy0, hn0⟩ := hB hlt
        obtain ⟨hy0l, hy0e⟩ := List.getElem?_eq_some_iff.1 hy0
        obtain ⟨hx0l, hx0e⟩ := List.getElem?_eq_some_iff.1 hx0
        have m1 : x0 ∈ X := hx0e ▸ List.getElem_mem hx0l
        have m2 : y0 ∈ Y := hy0e ▸ List.getElem_mem hy0l
        have a1 : κ y y0 ≤ 0 := by
          have hy' : y ∈ Y.take (F - 1 - i + 1) := by rw [show F - 1 - i + 1 = F - i by omega]; exact hy
          rw [List.take_add_one, hy0, Option.toList_some] at hy'
          rcases List.mem_append.1 hy' with hy' | hy'
          · have := ((pw_mid sY hy0l).1 y hy').le; rw [hy0e] at this; exact this
          · rw [List.mem_singleton.1 hy', h.lin.refl (hPY y0 m2)]; omega
        have a2 : κ x0 x ≤ 0 := by
          rw [List.drop_eq_getElem_cons hx0l, hx0e] at hx
          rcases List.mem_cons.1 hx with rfl | hx
          · rw [h.lin.refl (hPX x m1)]; omega
          · have := ((pw_mid sX hx0l).2 x hx).le; rw [hx0e] at this; exact this
        have a4 := (h.lin.tr y y0 x0 (hPY y (mem_take hy)) (hPY y0 m2) (hPX x0 m1) a1 (by omega)).2 (.inr hn0)
        exact .inl ((h.lin.tr y x0 x (hPY y (mem_take hy)) (hPX x0 m1) (hPX x (mem_drop hx)) (by omega) a2).2 (.inl a4))
      · rcases hhi with h0 | h0
        · have : (X.drop i).length = 0 := by omega
          rw [List.length_eq_zero_iff.1 this] at hx; cases hx
        · have : F - i = 0 := by omega
          rw [this] at hy; simp at hy
    have hP1 : ∀ x ∈ X.take i ++ Y.take (F - i), P x := fun x hx => by
      rcases List.mem_append.1 hx with hx | hx
      · exact hPX x (mem_take hx)
      · exact hPY x (mem_take hx)
    have hP2 : ∀ x ∈ X.drop i ++ Y.drop (F - i), P x := fun x hx => by
      rcases List.mem_append.1 hx with hx | hx
      · exact hPX x (mem_drop hx)
      · exact hPY x (mem_drop hx)
    have ι1 : ∀ x ∈ X.take i, ∀ y ∈ Y.take (F - i), ι x < ι y := fun x hx y hy => hι x (mem_take hx) y (mem_take hy)
    have ι2 : ∀ x ∈ X.drop i, ∀ y ∈ Y.drop (F - i), ι x < ι y := fun x hx y hy => hι x (mem_drop hx) y (mem_drop hy)
    have k2 : ∀ Z1 Z2 : List (TE × G), Z1.Perm (X.take i ++ Y.take (F - i)) → Z1.Pairwise (Bf κ ι) → Z2.Perm (X.drop i ++ Y.drop (F - i)) → Z2.Pairwise (Bf κ ι) → K (arr H0 b sp (A ++ (Z1 ++ Z2) ++ D)) := by
      intro Z1 Z2 p1 s1 p2 s2
      refine k _ ?_ (List.pairwise_append.2 ⟨s1, s2, fun u hu v hv => ?_⟩)
      · have p3 := p1.append p2
        refine p3.trans ?_
        conv => rhs; rw [eX, eY]
        simp only [List.append_assoc]
        refine List.Perm.append_left _ ?_
        rw [← List.append_assoc, ← List.append_assoc]
        exact List.Perm.append_right _ List.perm_append_comm
      · rcases List.mem_append.1 (p1.mem_iff.1 hu) with hu | hu
        · rcases List.mem_append.1 (p2.mem_iff.1 hv) with hv | hv
          · exact spX.2.2 u hu v hv
          · exact c1 u hu v hv
        · rcases List.mem_append.1 (p2.mem_iff.1 hv) with hv | hv
          · exact c2 u hu v hv
          · exact spY.2.2 u hu v hv
    generalize X.take i = X1 at *
    generalize X.drop i = X2 at *
    generalize Y.take (F - i) = Y1 at *
    generalize Y.drop (F - i) = Y2 at *
    have hlX : X.length = X1.length + X2.length := by rw [eX, List.length_append]
    have hlY : Y.length = Y1.length + Y2.length := by rw [eY, List.length_append]
    refine ⟨fun _ B => B = arr H0 b sp (A ++ X1 ++ Y1 ++ X2 ++ Y2 ++ D), ift.of (fun hr => ?_) (fun hr => ?_), ?_⟩
    · simp only [Bool.and_eq_true, decide_eq_true_eq] at hr
      have e0 : A ++ X ++ Y ++ D = (A ++ X1) ++ X2 ++ Y1 ++ (Y2 ++ D) := by rw [eX, eY]; simp only [List.append_assoc]
      rw [e0]
      refine rot_ok h.s (A := A ++ X1) (X := X2) (Y := Y1) (D := Y2 ++ D) (by simp only [List.length_append]; omega) (fun e => by rw [e] at hlX; simp only [List.length_nil] at hlX; omega) (fun e => by rw [e] at l3; simp only [List.length_nil] at l3; omega) (by simp only [List.length_append]; omega) (by simp only [List.length_append]; omega) (by simp only [List.length_append]; omega) ?_
      simp only [List.append_assoc]
    · simp only [Bool.and_eq_false_iff, decide_eq_false_iff_not] at hr
      rw [eX, eY]
      rcases hr with hr | hr
      · have : X2 = [] := List.length_eq_zero_iff.1 (by omega)
        subst this
        simp only [List.append_assoc, List.nil_append, List.append_nil]
      · have : Y1 = [] := List.length_eq_zero_iff.1 (by omega)
        subst this
        simp only [List.append_assoc, List.nil_append, List.append_nil]
    rintro _ B rfl
    refine ⟨fun _ B => ∃ Z1 : List (TE × G), Z1.Perm (X1 ++ Y1) ∧ Z1.Pairwise (Bf κ ι) ∧ B = arr H0 b sp (A ++ Z1 ++ X2 ++ Y2 ++ D), ift.of (fun hr => ?_) (fun hr => ?_), ?_⟩
    · simp only [Bool.and_eq_true, decide_eq_true_eq] at hr
      have e0 : A ++ X1 ++ Y1 ++ X2 ++ Y2 ++ D = A ++ X1 ++ Y1 ++ (X2 ++ Y2 ++ D) := by simp only [List.append_assoc]
      rw [e0]
      refine ih (X := X1) (Y := Y1) (A := A) (D := X2 ++ Y2 ++ D) (by omega) (fun e => by rw [e] at l1; simp only [List.length_nil] at l1; omega) (fun e => by rw [e] at l3; simp only [List.length_nil] at l3; omega) rfl (by omega) (by omega) (by simp only [List.length_append]; omega) hP1 spX.1 spY.1 ι1 fun Z p1 s1 => ⟨Z, p1, s1, by simp only [List.append_assoc]⟩
    · simp only [Bool.and_eq_false_iff, decide_eq_false_iff_not] at hr
      refine ⟨X1 ++ Y1, .refl _, ?_, by simp only [List.append_assoc]⟩
      rcases hr with hr | hr
      · have : X1 = [] := List.length_eq_zero_iff.1 (by omega)
        subst this
        exact spY.1
      · have : Y1 = [] := List.length_eq_zero_iff.1 (by omega)
        subst this
        rw [List.append_nil]; exact spX.1
    rintro _ B ⟨Z1, p1, s1, rfl⟩
    have hz1 := p1.length_eq
    rw [List.length_append] at hz1
    refine ift.of (fun hr => ?_) (fun hr => ?_)
    · simp only [Bool.and_eq_true, decide_eq_true_eq] at hr
      have e0 : A ++ Z1 ++ X2 ++ Y2 ++ D = (A ++ Z1) ++ X2 ++ Y2 ++ D := by simp only [List.append_assoc]
      rw [e0]
      refine ih (X := X2) (Y := Y2) (A := A ++ Z1) (D := D) (by omega) (fun e => by rw [e] at hlX; simp only [List.length_nil] at hlX; omega) (fun e => by rw [e] at l4; simp only [List.length_nil] at l4; omega) (by simp only [List.length_append]; omega) (by simp only [List.length_append]; omega) (by simp only [List.length_append]; omega) (by simp only [List.length_append]; omega) hP2 spX.2.1 spY.2.1 ι2 fun Z p2 s2 => ?_
      have := k2 Z1 Z p1 s1 p2 s2
      simpa only [List.append_assoc] using this
    · simp only [Bool.and_eq_false_iff, decide_eq_false_iff_not] at hr
      have s2 : (X2 ++ Y2).Pairwise (Bf κ ι) := by
        rcases hr with hr | hr
        · have : X2 = [] := List.length_eq_zero_iff.1 (by omega)
          subst this
          exact spY.2.1
        · have : Y2 = [] := List.length_eq_zero_iff.1 (by omega)
          subst this
          rw [List.append_nil]; exact spX.2.1
      have := k2 Z1 (X2 ++ Y2) p1 s1 (.refl _) s2
      simpa only [List.append_assoc] using this
theorem sym_ok (h : Where C H0 R s b n f P κ) {X Y A D : List (TE × G)} {a m e : Int} {K : Heap → Prop} (hX : X ≠ []) (hY : Y ≠ []) (ha : a = (A.length : Int)) (hm : m = ((A.length + X.length : Nat) : Int)) (he : e = ((A.length + X.length + Y.length : Nat) : Int)) (hn : A.length + X.length + Y.length + D.length = n)
    (hP : ∀ x ∈ X ++ Y, P x) (sX : X.Pairwise (Bf κ ι)) (sY : Y.Pairwise (Bf κ ι)) (hι : ∀ x ∈ X, ∀ y ∈ Y, ι x < ι y)
    (k : ∀ Z : List (TE × G), Z.Perm (X ++ Y) → Z.Pairwise (Bf κ ι) → K (arr H0 b sp (A ++ Z ++ D))) : c_slices_symMergeCmpFunc_api_Value C s a m e f K (arr H0 b sp (A ++ X ++ Y ++ D)) :=
  sym_key h _ (Nat.le_refl _) hX hY ha hm he hn hP sX sY hι k
theorem stb_ok (h : Where C H0 R s b n f P κ) {L0 : List (TE × G)} {K : Heap → Prop} (hn : L0.length = n) (hP : ∀ x ∈ L0, P x) (hι : L0.Pairwise fun x y => ι x < ι y)
    (k : ∀ Z : List (TE × G), Z.Perm L0 → Z.Pairwise (Bf κ ι) → K (arr H0 b sp Z)) : c_slices_stableCmpFunc_api_Value C s (n : Int) f K (arr H0 b sp L0) := by
  have hsm := h.s.small
  apply ad_slices_stableCmpFunc_api_Value
  unfold sh_slices_stableCmpFunc_api_Value
  refine ⟨fun x B => ∃ D0 R0 D : List (TE × G), L0 = D0 ++ R0 ∧ D.length = D0.length ∧ x = (((D.length : Nat) : Int), ((D.length + 20 : Nat) : Int)) ∧ B = arr H0 b sp (D ++ R0) ∧ ∀ Z', Ch κ ι 20 Z' R0 → Ch κ ι 20 (D ++ Z') L0, fun x _ => n - x.1.toNat,
    ⟨[], L0, [], rfl, rfl, rfl, rfl, fun Z' hz => hz⟩, ?_⟩
  rintro _ B ⟨D0, R0, D, hL, hD, rfl, rfl, hc⟩
  have hl : D.length + R0.length = n := by rw [← hn, hL, List.length_append, hD]
  have hP0 : ∀ x ∈ R0, P x := fun x hx => hP x (by rw [hL]; exact List.mem_append_right _ hx)
  have hι0 : R0.Pairwise fun x y => ι x < ι y := by rw [hL] at hι; exact (List.pairwise_append.1 hι).2.1
  dsimp only
  refine ift.of (fun hle => ?_) (fun hle => ?_)
  · have hle := of_decide_eq_true hle
    have hR : R0 = R0.take 20 ++ R0.drop 20 := (List.take_append_drop ..).symm
    have l1 : (R0.take 20).length = 20 := by rw [List.length_take]; omega
    have hι1 := (pw_split hι0 20).1
    have hP1 : ∀ x ∈ R0.take 20, P x := fun x hx => hP0 x (mem_take hx)
    generalize R0.take 20 = X at *
    generalize R0.drop 20 = R1 at *
    subst hR
    rw [List.length_append] at hl
    rw [w_i64 (by omega) (by omega)]
    have e0 : D ++ (X ++ R1) = D ++ X ++ R1 := by simp only [List.append_assoc]
    rw [e0]
    refine ins_ok h (A := D) (X := X) (D := R1) rfl (by omega) (by omega) hP1 hι1 fun Z p1 s1 => ?_
    have hz := p1.length_eq
    refine ⟨⟨D0 ++ X, R1, D ++ Z, by rw [hL]; simp only [List.append_assoc], by simp only [List.length_append]; omega, ?_, rfl, fun Z' hz' => ?_⟩, ?_⟩
    · exact pr (by simp only [List.length_append]; omega) (by simp only [List.length_append]; omega)
    · rw [List.append_assoc]
      exact hc _ (.cons l1 p1 s1 hz')
    · first | omega | (dsimp only; omega)
  · have hle := of_decide_eq_false hle
    have e0 : D ++ R0 = D ++ R0 ++ [] := by simp only [List.append_nil]
    rw [e0]
    refine ins_ok h (A := D) (X := R0) (D := []) rfl (by omega) (by simp only [List.length_nil]; omega) hP0 hι0 fun Z p1 s1 => ?_
    rw [List.append_nil]
    have hch := hc Z (.last (by omega) p1 s1)
    clear hc e0 hle hι0 hP0 hl hD hL
    generalize D ++ Z = Z at hch
    refine ⟨fun x B => ∃ (bs : Nat) (Z : List (TE × G)), x = (bs : Int) ∧ 1 ≤ bs ∧ bs ≤ 281474976710656 ∧ B = arr H0 b sp Z ∧ Ch κ ι bs Z L0, fun x _ => n - x.toNat, ⟨20, Z, rfl, by omega, by omega, rfl, hch⟩, ?_⟩
    rintro _ B ⟨bs, Z, rfl, hb1, hb2, rfl, hch⟩
    refine ift.of (fun hlt => ?_) (fun hlt => ?_)
    · have hlt : bs < n := by have := of_decide_eq_true hlt; omega
      have w2 : w .i64 (2 * (bs : Int)) = ((2 * bs : Nat) : Int) := by rw [w_i64 (by omega) (by omega)]; omega
      rw [w2]
      refine ⟨fun x B => ∃ D R D0 R0 : List (TE × G), L0 = D0 ++ R0 ∧ D.length = D0.length ∧ x = (((D.length : Nat) : Int), ((D.length + 2 * bs : Nat) : Int)) ∧ B = arr H0 b sp (D ++ R) ∧ Ch κ ι bs R R0 ∧ ∀ Z', Ch κ ι (2 * bs) Z' R0 → Ch κ ι (2 * bs) (D ++ Z') L0, fun x _ => n - x.1.toNat,
        ⟨[], Z, [], L0, rfl, rfl, pr rfl (by simp), rfl, hch, fun Z' hz => hz⟩, ?_⟩
      rintro _ B ⟨D, R, D0, R0, hL, hD, rfl, rfl, hR, hc⟩
      have hl : D.length + R0.length = n := by rw [← hn, hL, List.length_append, hD]
      have hP0 : ∀ x ∈ R0, P x := fun x hx => hP x (by rw [hL]; exact List.mem_append_right _ hx)
      have hι0 : R0.Pairwise fun x y => ι x < ι y := by rw [hL] at hι; exact (List.pairwise_append.1 hι).2.1
      have hrl := hR.perm.length_eq
      dsimp only
      have wa : w .i64 ((D.length : Int) + (bs : Int)) = ((D.length + bs : Nat) : Int) := by rw [w_i64 (by omega) (by omega)]; omega
      rw [wa]
      refine ift.of (fun hle => ?_) (fun hle => ?_)
      · have hle := of_decide_eq_true hle
        obtain ⟨X, R1, X0, R2, rfl, rfl, lx, px, sx, hR2⟩ := hR.big (by omega)
        rw [List.length_append] at hl
        obtain ⟨Y, R1, Y0, R2, rfl, rfl, ly, py, sy, hR3⟩ := hR2.big (by omega)
        rw [List.length_append] at hl
        have hxl := px.length_eq
        have hyl := py.length_eq
        have hr3 := hR3.perm.length_eq
        have wb : w .i64 (((D.length + 2 * bs : Nat) : Int) + ((2 * bs : Nat) : Int)) = ((D.length + 2 * bs + 2 * bs : Nat) : Int) := by rw [w_i64 (by omega) (by omega)]; omega
        rw [wb]
        have e0 : D ++ (X ++ (Y ++ R1)) = D ++ X ++ Y ++ R1 := by simp only [List.append_assoc]
        rw [e0]
        have hιx := List.pairwise_append.1 hι0
        refine sym_ok h (A := D) (X := X) (Y := Y) (D := R1) (fun e => by rw [e] at hxl; simp only [List.length_nil] at hxl; omega) (fun e => by rw [e] at hyl; simp only [List.length_nil] at hyl; omega) rfl (by omega) (by omega) (by omega) (fun x hx => ?_) sx sy (fun x hx y hy => hιx.2.2 x (px.mem_iff.1 hx) y (List.mem_append_left _ (py.mem_iff.1 hy))) fun Z1 p1 s1 => ?_
        · rcases List.mem_append.1 hx with hx | hx
          · exact hP0 x (List.mem_append_left _ (px.mem_iff.1 hx))
          · exact hP0 x (List.mem_append_right _ (List.mem_append_left _ (py.mem_iff.1 hx)))
        · have hz := p1.length_eq
          rw [List.length_append] at hz
          refine ⟨⟨D ++ Z1, R1, D0 ++ X0 ++ Y0, R2, by rw [hL]; simp only [List.append_assoc], by simp only [List.length_append]; omega, ?_, rfl, hR3, fun Z' hz' => ?_⟩, ?_⟩
          · exact pr (by simp only [List.length_append]; omega) (by simp only [List.length_append]; omega)
          · rw [List.append_assoc]
            refine hc _ ?_
            rw [← List.append_assoc]
            exact .cons (by rw [List.length_append]; omega) (p1.trans (px.append py)) s1 hz'
          · first | omega | (dsimp only; omega)
      · have hle := of_decide_eq_false hle
        refine ⟨fun _ B => ∃ Z : List (TE × G), B = arr H0 b sp Z ∧ Ch κ ι (2 * bs) Z L0, ift.of (fun hlt2 => ?_) (fun hlt2 => ?_), ?_⟩
        · have hlt2 := of_decide_eq_true hlt2
          obtain ⟨X, Y, X0, Y0, rfl, rfl, lx, px, sx, hR2⟩ := hR.big (by omega)
          rw [List.length_append] at hl
          have hxl := px.length_eq
          have hyl := hR2.perm.length_eq
          have sy := hR2.small (by omega)
          have hιx := List.pairwise_append.1 hι0
          have e0 : D ++ (X ++ Y) = D ++ X ++ Y ++ [] := by simp only [List.append_assoc, List.append_nil]
          rw [e0]
          refine sym_ok h (A := D) (X := X) (Y := Y) (D := []) (fun e => by rw [e] at hxl; simp only [List.length_nil] at hxl; omega) (fun e => by rw [e] at hyl; simp only [List.length_nil] at hyl; omega) rfl (by omega) (by omega) (by simp only [List.length_nil]; omega) (fun x hx => ?_) sx sy (fun x hx y hy => hιx.2.2 x (px.mem_iff.1 hx) y (hR2.perm.mem_iff.1 hy)) fun Z1 p1 s1 => ?_
          · rcases List.mem_append.1 hx with hx | hx
            · exact hP0 x (List.mem_append_left _ (px.mem_iff.1 hx))
            · exact hP0 x (List.mem_append_right _ (hR2.perm.mem_iff.1 hx))
          · refine ⟨D ++ Z1, by rw [List.append_nil], hc _ (.last (by rw [List.length_append]; omega) (p1.trans (px.append hR2.perm)) s1)⟩
        · have hlt2 := of_decide_eq_false hlt2
          exact ⟨D ++ R, rfl, hc _ (.last (by omega) hR.perm (hR.all (by omega) (by omega)))⟩
        · rintro _ B ⟨Z, rfl, hz⟩
          rw [w_i64 (by omega) (by omega)]
          exact ⟨⟨2 * bs, Z, by omega, by omega, by omega, rfl, hz⟩, by omega⟩
    · have hlt : n ≤ bs := by have := of_decide_eq_false hlt; omega
      exact k Z hch.perm (hch.all (by omega) (by omega))
theorem sort_ok (h : Where C H0 R s b n f P κ) {L0 : List (TE × G)} {K : Heap → Prop} (hn : L0.length = n) (hP : ∀ x ∈ L0, P x) (hι : L0.Pairwise fun x y => ι x < ι y)
    (k : ∀ Z : List (TE × G), Z.Perm L0 → Z.Pairwise (Bf κ ι) → K (arr H0 b sp Z)) : c_slices_SortStableFunc_api_Value_api_Value C s f K (arr H0 b sp L0) := by
  apply ad_slices_SortStableFunc_api_Value_api_Value
  unfold sh_slices_SortStableFunc_api_Value_api_Value
  rw [h.s.len]
  exact stb_ok h hn hP hι k
end
end Sx.SR
end

noncomputable section
set_option linter.unusedVariables false
set_option linter.unusedSimpArgs false
namespace Sx.SR
open Go Go.Proofs Sx
section
variable {G : Type} {H0 R : Heap} {b n : Nat} {sp : List Value} {s : Sl} {C : Ctx} {L A D : List (TE × G)} {x y : TE × G} {i : Int} {P : TE × G → Prop} {κ : TE × G → TE × G → Int} {f : Value}
/-- what tells whether two are alike -/
structure EqF (C : Ctx) (R : Heap) (f : Value) (P : TE × G → Prop) (κ : TE × G → TE × G → Int) : Prop where
  ok : ∀ A : Heap, R.le A → ∀ x y, P x → P y → ∀ Φ : Value → Heap → Prop, Φ (.bool (κ x y == 0)) A → callU Tryz.prog C f [argE x.1, argE y.1] A Φ
theorem arr_le (hle : R.le H0) (rb : R b = none) (sp : List Value) (L : List (TE × G)) : R.le (arr H0 b sp L) := fun z e hz => by
  have : z ≠ b := fun e' => by rw [e', rb] at hz; cases hz
  unfold arr
  rw [Heap.put_ne _ _ _ this]; exact hle _ _ hz
theorem ldr {q : Nat} {K : TE → Prop} (hL : L = A ++ x :: D) (hq : q = A.length) (k : K x.1) : ldL (arr H0 b sp L) (b, q) K := by
  have := ldx (H0 := H0) (b := b) (sp := sp) (K := K) (i := (A.length : Int)) hL rfl k
  rw [Int.toNat_natCast, Nat.mul_one, Nat.zero_add] at this
  rw [hq]; exact this
theorem arr_cut {Q X : List (TE × G)} {k : Nat} (hk : k = Q.length) (zs : List Value) (hz : zs.length = X.length) : (arr H0 b sp (Q ++ X)).put b (.row (splice ((Q ++ X).flatMap enc ++ sp) k zs)) = arr H0 b (zs ++ sp) Q := by
  unfold arr
  rw [Heap.put_put]
  have e1 : (Q ++ X).flatMap enc ++ sp = Q.flatMap enc ++ (X.flatMap enc ++ sp) := by rw [List.flatMap_append, List.append_assoc]
  have e2 : k = (Q.flatMap enc).length := by rw [flat_len]; omega
  have e3 : zs.length = (X.flatMap enc).length := by rw [flat_len]; omega
  rw [e1]
  unfold splice
  rw [e2, List.take_left, ← List.drop_drop, List.drop_left, e3, List.drop_left, List.append_assoc]
theorem compact_ok {Z : List (TE × G)} {K : Sl → Heap → Prop} (hs : Sls s b n) (hcap : n ≤ s.cap) (hle : R.le H0) (rb : R b = none) (hf : EqF C R f P κ) (hn : Z.length = n) (hP : ∀ x ∈ Z, P x)
    (k : ∀ sp2 : List Value, (cmpct κ Z).length + sp2.length = Z.length + sp.length → K ⟨some (b, 0), (cmpct κ Z).length, s.cap, none⟩ (arr H0 b sp2 (cmpct κ Z))) : c_slices_CompactFunc_api_Value_api_Value C s f K (arr H0 b sp Z) := by
  have hsm := hs.small
  have hse : s = ⟨some (b, 0), n, s.cap, none⟩ := by
    obtain ⟨p, l, c, x⟩ := s
    have h1 := hs.p; have h2 := hs.x; have h3 := hs.len
    simp only at h1 h2 h3
    subst h1; subst h2; subst h3; rfl
  apply ad_slices_CompactFunc_api_Value_api_Value
  unfold sh_slices_CompactFunc_api_Value_api_Value
  rw [hs.len]
  refine ift.of (fun h => ?_) (fun h => ?_)
  · have h : n < 2 := by have := of_decide_eq_true h; omega
    have e : cmpct κ Z = Z := by
      match Z, hn with
      | [], _ => rfl
      | [z], _ => rfl
      | _ :: _ :: _, hn => simp at hn; omega
    have := k sp (by rw [e])
    rw [e, hn, ← hse] at this
    exact this
  have h : 2 ≤ n := by have := of_decide_eq_false h; omega
  obtain ⟨z, Z', hZ⟩ := List.exists_cons_of_ne_nil (fun e => by rw [e] at hn; simp at hn; omega : Z ≠ [])
  refine ⟨fun x B => ∃ pre p rest, Z = pre ++ p :: rest ∧ cmpct κ (pre ++ [p]) = pre ++ [p] ∧ x = ((pre.length + 1 : Nat) : Int) ∧ B = arr H0 b sp Z, fun x _ => n - x.toNat, ⟨[], z, Z', hZ, rfl, rfl, rfl⟩, ?_⟩
  rintro x B ⟨pre, p, rest, hZe, hc, rfl, rfl⟩
  have hl : n = pre.length + (rest.length + 1) := by rw [← hn, hZe, List.length_append, List.length_cons]
  refine ift.of (fun hx => ?_) (fun hx => ?_)
  · cases rest with
    | nil => have := of_decide_eq_true hx; simp only [List.length_nil] at hl; omega
    | cons y rest =>
    simp only [List.length_cons] at hl
    have w1 : w .i64 (((pre.length + 1 : Nat) : Int) - 1) = (pre.length : Int) := by rw [w_i64 (by omega) (by omega)]; omega
    have hZ2 : Z = (pre ++ [p]) ++ y :: rest := by rw [hZe]; simp
    have hl1 : (pre ++ [p]).length = pre.length + 1 := by simp
    rw [w1]
    have hPp : P p := hP p (by rw [hZe]; simp)
    have hPy : P y := hP y (by rw [hZe]; simp)
    refine ⟨_, Heap.le.refl _, ixp hs rfl (by omega) (ldx hZ2 (by rw [hl1]) (ixp hs rfl (by omega) (ldx hZe rfl (hf.ok _ (arr_le hle rb sp Z) y p hPy hPp _ ⟨_, rfl, Heap.le.refl _, ?_⟩))))⟩
    refine ift.of (fun h0 => ?_) (fun h0 => ?_)
    · have h0 : κ y p = 0 := by simpa using h0
      have hne : ¬ ((s.cap : Int) = ((pre.length + 1 : Nat) : Int)) := by omega
      refine ⟨by omega, by omega, by omega, by omega, _, rfl, ?_⟩
      rw [if_neg hne, hs.p]
      have hx0 : (if (s.cap : Int) = ((pre.length + 1 : Nat) : Int) ∨ ((pre.length + 1 : Nat) : Int).toNat * 1 = 0 then s.x else none) = none := by
        rw [hs.x]; split <;> rfl
      rw [hx0]
      have hoff : (0 + ((pre.length + 1 : Nat) : Int).toNat * 1) = pre.length + 1 := by omega
      have hlen : ((n : Int) - ((pre.length + 1 : Nat) : Int)).toNat = n - (pre.length + 1) := by omega
      simp only [Option.map_some, hoff, hlen]
      generalize ((s.cap : Int) - ((pre.length + 1 : Nat) : Int)).toNat = cp
      refine ⟨fun x B => ∃ (pre2 M rest2 : List (TE × G)) (p2 : TE × G), Z = pre2 ++ p2 :: rest2 ∧ pre.length + 1 ≤ pre2.length ∧ x = (((cmpct κ (pre2 ++ [p2])).length : Int), ((pre2.length - pre.length : Nat) : Int)) ∧ (cmpct κ (pre2 ++ [p2])).length + M.length = pre2.length ∧ B = arr H0 b sp (cmpct κ (pre2 ++ [p2]) ++ M ++ p2 :: rest2), fun x _ => n - x.2.toNat,
        ⟨pre ++ [p], [], rest, y, hZ2, by simp, ?_, ?_, ?_⟩, ?_⟩
      · have e : cmpct κ (pre ++ [p] ++ [y]) = pre ++ [p] := by rw [List.append_assoc]; show cmpct κ (pre ++ [p, y]) = _; rw [cmpct_snoc, if_pos h0, hc, List.append_nil]
        rw [e, hl1, Nat.add_sub_cancel_left]; rfl
      · have e : cmpct κ (pre ++ [p] ++ [y]) = pre ++ [p] := by rw [List.append_assoc]; show cmpct κ (pre ++ [p, y]) = _; rw [cmpct_snoc, if_pos h0, hc, List.append_nil]
        rw [e]; simp
      · have e : cmpct κ (pre ++ [p] ++ [y]) = pre ++ [p] := by rw [List.append_assoc]; show cmpct κ (pre ++ [p, y]) = _; rw [cmpct_snoc, if_pos h0, hc, List.append_nil]
        rw [e, List.append_nil, ← hZ2]
      rintro x B ⟨pre2, M, rest2, p2, hZ3, hp2, rfl, hM, rfl⟩
      have hl2 : n = pre2.length + (rest2.length + 1) := by rw [← hn, hZ3, List.length_append, List.length_cons]
      dsimp only
      refine ift.of (fun hx2 => ?_) (fun hx2 => ?_)
      · cases rest2 with
        | nil => have := of_decide_eq_true hx2; simp only [List.length_nil] at hl2; omega
        | cons y2 rest3 =>
        simp only [List.length_cons] at hl2
        have w2 : w .i64 (((pre2.length - pre.length : Nat) : Int) - 1) = ((pre2.length - pre.length - 1 : Nat) : Int) := by rw [w_i64 (by omega) (by omega)]; omega
        have w3 : w .i64 (((pre2.length - pre.length : Nat) : Int) + 1) = ((pre2.length + 1 - pre.length : Nat) : Int) := by rw [w_i64 (by omega) (by omega)]; omega
        have hPp2 : P p2 := hP p2 (by rw [hZ3]; simp)
        have hPy2 : P y2 := hP y2 (by rw [hZ3]; simp)
        have hsn := cmpct_snoc (κ := κ) (x := p2) (y := y2) pre2
        generalize hQ : cmpct κ (pre2 ++ [p2]) = Q at *
        rw [w2]
        have tix : ∀ {K : Nat × Nat → Prop} {q : Nat}, q < n - (pre.length + 1) → K (b, pre.length + 1) → ixa ⟨some (b, pre.length + 1), n - (pre.length + 1), cp, none⟩ (q : Int) K := fun {K q} hq hk => ⟨_, rfl, rfl, by omega, by show (q : Int) < ((n - (pre.length + 1) : Nat) : Int); omega, hk⟩
        have hA1 : Q ++ M ++ p2 :: y2 :: rest3 = (Q ++ M ++ [p2]) ++ y2 :: rest3 := by simp
        have hA1l : (Q ++ M ++ [p2]).length = pre2.length + 1 := by simp only [List.length_append, List.length_singleton]; omega
        have hA2l : (Q ++ M).length = pre2.length := by simp only [List.length_append]; omega
        refine ⟨fun x B => ∃ (c : Bool) (N : List (TE × G)), c = (κ y2 p2 == 0) ∧ x = ((if c then Q else Q ++ [y2]).length : Int) ∧ (if c then Q else Q ++ [y2]).length + N.length = pre2.length + 1 ∧ B = arr H0 b sp ((if c then Q else Q ++ [y2]) ++ N ++ y2 :: rest3), ?_, ?_⟩
        · refine ⟨_, Heap.le.refl _, tix (by omega) (ldr hA1 ?_ (tix (by omega) (ldr (D := y2 :: rest3) rfl ?_ (hf.ok _ (arr_le hle rb sp _) y2 p2 hPy2 hPp2 _ ⟨_, rfl, Heap.le.refl _, ?_⟩))))⟩
          · rw [hA1l]; show pre.length + 1 + ((pre2.length - pre.length : Nat) : Int).toNat * 1 = _; omega
          · rw [hA2l]; show pre.length + 1 + ((pre2.length - pre.length - 1 : Nat) : Int).toNat * 1 = _; omega
          refine ift.of (fun h3 => ?_) (fun h3 => ?_)
          · have h3 : (κ y2 p2 == 0) = false := by simpa using h3
            refine tix (by omega) (ldr hA1 ?_ ?_)
            · rw [hA1l]; show pre.length + 1 + ((pre2.length - pre.length : Nat) : Int).toNat * 1 = _; omega
            obtain ⟨m, M2, hm⟩ := List.exists_cons_of_ne_nil (by simp : M ++ [p2] ≠ [])
            have hml : M.length + 1 = M2.length + 1 := by have := congrArg List.length hm; simpa using this
            have hA3 : Q ++ M ++ p2 :: y2 :: rest3 = Q ++ m :: (M2 ++ y2 :: rest3) := by
              rw [hA1, List.append_assoc Q, hm]; simp
            refine ixp hs rfl (by omega) (stx hA3 rfl ?_)
            refine ⟨false, M2, h3.symm, ?_, ?_, ?_⟩
            · rw [w_i64 (by omega) (by omega)]; simp
            · simp only [Bool.false_eq_true, if_false, List.length_append, List.length_singleton]; omega
            · simp only [Bool.false_eq_true, if_false, List.append_assoc, List.cons_append, List.nil_append]
          · have h3 : (κ y2 p2 == 0) = true := by simpa using h3
            refine ⟨true, M ++ [p2], h3.symm, rfl, ?_, ?_⟩
            · simp only [if_true, List.length_append, List.length_singleton]; omega
            · simp only [if_true, List.append_assoc, List.cons_append, List.nil_append]
        · rintro x B ⟨c, N, hcc, rfl, hN, rfl⟩
          rw [w3]
          have hQ2 : cmpct κ (pre2 ++ [p2] ++ [y2]) = if c then Q else Q ++ [y2] := by
            rw [List.append_assoc]
            show cmpct κ (pre2 ++ [p2, y2]) = _
            rw [hsn, hcc]
            by_cases h0 : κ y2 p2 = 0 <;> simp [h0]
          refine ⟨⟨pre2 ++ [p2], N, rest3, y2, by rw [hZ3]; simp, by simp; omega, ?_, ?_, ?_⟩, ?_⟩
          · rw [hQ2, List.length_append, List.length_singleton]
          · rw [hQ2, hN]; simp
          · rw [hQ2]
          · first | omega | (dsimp only; omega)
      · have hr : rest2 = [] := List.length_eq_zero_iff.1 (by have := of_decide_eq_false hx2; omega)
        subst hr
        simp only [List.length_nil] at hl2
        rw [← hZ3] at hM ⊢
        have hq0 : (cmpct κ Z).length ≤ pre2.length := by omega
        generalize hQ : cmpct κ Z = Q at *
        have hne2 : ¬ ((s.cap : Int) = (Q.length : Int)) := by omega
        refine ⟨by omega, by omega, by omega, by omega, _, rfl, ?_⟩
        rw [if_neg hne2, hs.p]
        have hx1 : (if (s.cap : Int) = (Q.length : Int) ∨ (Q.length : Int).toNat * 1 = 0 then s.x else none) = none := by
          rw [hs.x]; split <;> rfl
        rw [hx1]
        have hfl := flat_len (Q ++ M ++ [p2])
        simp only [List.length_append, List.length_singleton] at hfl
        refine .inr ⟨(b, 0 + (Q.length : Int).toNat * 1), _, rfl, rfl, Heap.put_same .., ?_, ?_⟩
        · show 0 + (Q.length : Int).toNat * 1 + ((n : Int) - (Q.length : Int)).toNat * 1 ≤ _
          rw [List.length_append, hfl]; omega
        have hcut := arr_cut (H0 := H0) (b := b) (sp := sp) (Q := Q) (X := M ++ [p2]) (k := 0 + (Q.length : Int).toNat * 1) (by omega) (zeros [slv Sl.nil] ((n : Int) - (Q.length : Int)).toNat) (by rw [zeros_length]; simp; omega)
        rw [← List.append_assoc] at hcut
        show slL _ _ _ _ _ _
        refine ⟨by omega, by omega, by omega, by omega, _, rfl, ?_⟩
        have hne3 : ¬ ((s.cap : Int) = 0) := by omega
        rw [if_neg hne3, hs.p]
        have hx2 : (if (s.cap : Int) = 0 ∨ (0 : Int).toNat * 1 = 0 then s.x else none) = none := by
          rw [hs.x]; split <;> rfl
        rw [hx2]
        have hl9 : ((Q.length : Int) - 0).toNat = Q.length := by omega
        have hl8 : ((s.cap : Int) - 0).toNat = s.cap := by omega
        simp only [Option.map_some, hl9, hl8]
        have := k (zeros [slv Sl.nil] ((n : Int) - (Q.length : Int)).toNat ++ sp) (by rw [List.length_append, zeros_length, hn]; simp; omega)
        rw [← hcut] at this
        exact this
    · have h0 : κ y p ≠ 0 := by simpa using h0
      rw [w_i64 (by omega) (by omega)]
      refine ⟨⟨pre ++ [p], y, rest, hZ2, ?_, by rw [hl1]; omega, rfl⟩, by first | omega | (dsimp only; omega)⟩
      rw [List.append_assoc]
      show cmpct κ (pre ++ [p, y]) = _
      rw [cmpct_snoc, if_neg h0, hc, List.append_assoc]
  · have hr : rest = [] := List.length_eq_zero_iff.1 (by have := of_decide_eq_false hx; omega)
    subst hr
    rw [← hZe] at hc
    have := k sp (by rw [hc])
    rw [hc, hn, ← hse] at this
    exact this
/-- nothing to sort -/
theorem sort_nil {H : Heap} {K : Heap → Prop} (h : s.len = 0) (k : K H) : c_slices_SortStableFunc_api_Value_api_Value C s f K H := by
  apply ad_slices_SortStableFunc_api_Value_api_Value
  unfold sh_slices_SortStableFunc_api_Value_api_Value
  rw [h]
  apply ad_slices_stableCmpFunc_api_Value
  unfold sh_slices_stableCmpFunc_api_Value
  refine ⟨fun x B => x = (0, 20) ∧ B = H, fun _ _ => 0, ⟨rfl, rfl⟩, ?_⟩
  rintro _ B ⟨rfl, rfl⟩
  refine ift_neg rfl ?_
  apply ad_slices_insertionSortCmpFunc_api_Value
  unfold sh_slices_insertionSortCmpFunc_api_Value
  refine ⟨fun x D => x = 1 ∧ D = B, fun _ _ => 0, ⟨rfl, rfl⟩, ?_⟩
  rintro _ D ⟨rfl, hD⟩
  subst hD
  refine ift_neg rfl ?_
  refine ⟨fun x E => x = 20 ∧ E = D, fun _ _ => 0, ⟨rfl, rfl⟩, ?_⟩
  rintro _ E ⟨rfl, hE⟩
  subst hE
  exact ift_neg rfl k
theorem compact_nil {H : Heap} {K : Sl → Heap → Prop} (h : s.len = 0) (k : K s H) : c_slices_CompactFunc_api_Value_api_Value C s f K H := by
  apply ad_slices_CompactFunc_api_Value_api_Value
  unfold sh_slices_CompactFunc_api_Value_api_Value
  rw [h]
  exact ift_pos rfl k
end
end Sx.SR
end

