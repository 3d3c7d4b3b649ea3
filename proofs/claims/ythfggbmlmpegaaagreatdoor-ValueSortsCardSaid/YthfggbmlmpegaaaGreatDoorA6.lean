/-
  Texts of this family, one behind the other: ValS, ShowQ, BldB, ShowP, AwkP, Awk, ValN2, RefS, ValH, LawSorts.
-/
import Derived.Test.YthfggbmlmpegaaaGreatDoorA5
import Derived.Lib.ItoaNum
import Derived.Lib.ItoaLen
noncomputable section
set_option linter.unusedVariables false
set_option linter.unusedSimpArgs false
namespace Sx
open Go Go.Proofs
section
variable {α β : Type} {κ : α → α → Int} {ι : α → Nat} {κ' : β → β → Int} {ι' : β → Nat}
theorem Rep.map {f : α → β} (hk : ∀ a b, κ a b = κ' (f a) (f b)) (hi : ∀ a, ι a = ι' (f a)) {L A : List α} (h : Rep κ ι L A) : Rep κ' ι' (L.map f) (A.map f) := by
  refine ⟨List.pairwise_map.2 (h.asc.imp fun {a b} e => by rw [← hk]; exact e), fun y hy => ?_, fun x hx => ?_, fun y hy x hx e => ?_⟩
  · obtain ⟨z, hz, rfl⟩ := List.mem_map.1 hy
    exact List.mem_map.2 ⟨z, h.sub z hz, rfl⟩
  · obtain ⟨z, hz, rfl⟩ := List.mem_map.1 hx
    obtain ⟨y, hy, e⟩ := h.all z hz
    exact ⟨f y, List.mem_map.2 ⟨y, hy, rfl⟩, by rw [← hk]; exact e⟩
  · obtain ⟨z, hz, rfl⟩ := List.mem_map.1 hx
    obtain ⟨u, hu, rfl⟩ := List.mem_map.1 hy
    rcases h.fst u hu z hz (by rw [hk]; exact e) with e | e
    · exact .inl (by rw [e])
    · exact .inr (by rw [← hi, ← hi]; exact e)
theorem zipIdx_asc (L : List α) : L.zipIdx.Pairwise fun a b => a.2 < b.2 := by
  rw [List.pairwise_iff_getElem]
  intro i j hi hj h
  simp only [List.getElem_zipIdx]; omega
end
section
variable {C : Ctx} {H : Heap}
theorem cmpRows_call {R : Heap} {P : Sl × (List V × Nat) → Prop} (hP : ∀ e, P e → VRow R e.1 e.2.1 ∧ VBs e.2.1 ∧ e.2.1.length ≤ 140737488355328) {A : Heap} (hA : R.le A) {x y : Sl × (List V × Nat)} (hx : P x) (hy : P y) {K : Int → Heap → Prop} (k : K (cmpR x.2.1 y.2.1) A) :
    c_value_CmpRows C x.1 y.1 K A := by
  obtain ⟨x1, x2, x3⟩ := hP x hx
  obtain ⟨y1, y2, y3⟩ := hP y hy
  exact pCmpRows_ok (x1.le hA) (y1.le hA) x3 y3 x2 y2 k
theorem vsort_ok {A : Heap} {ls : List (List V)} {t : Sl} {K : Sl → Heap → Prop} (hv : VRows A t ls) (hle : A.le H) (hn : ls.length ≤ 1000) (hb : ∀ l ∈ ls, VBs l ∧ l.length ≤ 140737488355328 ∧ vsizes l ≤ 1000000)
    (k : ∀ t2 H2 A2, Srt H H2 ls t2 A2 → K t2 H2) : c_value_Sort C t K H := by
  apply ad_value_Sort
  unfold sh_value_Sort
  rw [hv.len]
  refine ⟨fun x D => ∃ (s : Sl) (ys : List Sl), x = (s, (ys.length : Int)) ∧ Og H D ls s ys, fun x _ => ls.length - x.2.toNat, ⟨Sl.nil, [], rfl, Og.nil⟩, ?_⟩
  rintro _ D ⟨s, ys, rfl, ho⟩
  refine ift.of (fun h => ?_) (fun h => ?_)
  · have hlt : ys.length < ls.length := by have := of_decide_eq_true h; dsimp only at this; omega
    have hleD := hle.trans ho.own.le
    refine hv.ld hleD rfl hlt fun x hx => own_ok hx hleD (hb _ (List.getElem_mem hlt)).2.2 fun t2 H2 hm => ?_
    have hsl : s.len = ys.length := by have := ho.own.own.1; simp at this; omega
    refine apd_ownF (zc := [slv Sl.nil]) (ho.own.own.le hm.le).off rfl (by dsimp only; omega) (by dsimp only; omega) fun r H3 h4 hr => ?_
    rw [w_i64 (by omega) (by omega)]
    refine ⟨⟨r, ys ++ [t2], by simp, ho.step hlt hm h4⟩, by first | omega | (dsimp only; omega)⟩
  have hyl : ys.length = ls.length := by have := of_decide_eq_false h; dsimp only at this; have := ho.le; omega
  obtain ⟨o1, o2, o3, o4⟩ := ho.own.own
  have hsl : s.len = ys.length := by simp at o1; omega
  rcases o4 with ⟨p0, c0⟩ | ⟨b, sp, hp, hbk, hc⟩
  · have h0 : s.len = 0 := by omega
    have hls : ls = [] := List.length_eq_zero_iff.1 (by omega)
    have hys : ys = [] := List.length_eq_zero_iff.1 (by omega)
    refine SR.sort_nil h0 (SR.compact_nil h0 (k _ _ [] ⟨?_, fun e he => (by cases he), ?_, ?_⟩))
    · have := ho.own; rw [hys] at this; exact this
    · rw [hls]; exact ⟨.nil, fun y hy => (by cases hy), fun x hx => (by cases hx), fun y hy => (by cases hy)⟩
    · exact Nat.zero_le _
  have hbF : H b = none := ho.own.fresh _ hp
  let H0 := D.off s
  have h0b : H0 b = none := Heap.off_fresh s D _ hp
  have hH0 : H.le H0 := Heap.le_off ho.own.le ho.own.fresh
  let L0 : List (Sl × (List V × Nat)) := ys.zip ls.zipIdx
  have hz1 : L0.map (fun e => e.1) = ys := List.map_fst_zip (by simp; omega)
  have hz2 : L0.map (fun e => e.2) = ls.zipIdx := List.map_snd_zip (by simp; omega)
  have hL0 : L0.length = ls.length := by have := congrArg List.length hz1; simp at this; omega
  have hflat : L0.flatMap SR.enc = ys.map slv := by
    have e : ∀ L : List (Sl × (List V × Nat)), L.flatMap SR.enc = (L.map (fun e => e.1)).map slv := fun L => by
      induction L with
      | nil => rfl
      | cons e L ih => rw [List.flatMap_cons, ih]; rfl
    rw [e, hz1]
  have hD : D = SR.arr H0 b sp L0 := by
    funext x
    by_cases hx : x = b
    · subst hx; unfold SR.arr; rw [Heap.put_same, hbk, hflat]
    · unfold SR.arr
      rw [Heap.put_ne _ _ _ hx]
      show D x = Heap.off s D x
      unfold Heap.off
      rw [if_neg]
      rw [hp]; simp; exact fun e => hx e.symm
  have hmem : ∀ e ∈ L0, Made H H0 e.2.1 e.1 ∧ e.2.1 ∈ ls := fun e he => by
    obtain ⟨i, hi, rfl⟩ := List.getElem_of_mem he
    have hi1 : i < ys.length := by omega
    have hi2 : i < ls.length := by omega
    have e1 : L0[i].1 = ys[i] := by show (ys.zip ls.zipIdx)[i].1 = _; rw [List.getElem_zip]
    have e2 : L0[i].2.1 = ls[i] := by show (ys.zip ls.zipIdx)[i].2.1 = _; rw [List.getElem_zip, List.getElem_zipIdx]
    rw [e1, e2]
    exact ⟨ho.done i _ _ (List.getElem?_eq_getElem hi2) (List.getElem?_eq_getElem hi1), List.getElem_mem hi2⟩
  let P : Sl × (List V × Nat) → Prop := fun e => VRow H0 e.1 e.2.1 ∧ VBs e.2.1 ∧ e.2.1.length ≤ 140737488355328
  have hP : ∀ e ∈ L0, P e := fun e he => by
    obtain ⟨m1, m2⟩ := hmem e he
    exact ⟨m1.row2, (hb _ m2).1, (hb _ m2).2.1⟩
  have hsls : SR.Sls s b ls.length := ⟨hp, o2, by omega, by omega⟩
  have hlin : Lin (fun a c : Sl × (List V × Nat) => cmpR a.2.1 c.2.1) P := (Lin.row.comp fun e : Sl × (List V × Nat) => e.2.1).sub fun _ _ => trivial
  have hι : L0.Pairwise fun x y => (fun e : Sl × (List V × Nat) => e.2.2) x < (fun e : Sl × (List V × Nat) => e.2.2) y := by
    have := zipIdx_asc ls
    rw [← hz2, List.pairwise_map] at this
    exact this
  rw [hD]
  refine SR.sort_ok (R := H0) (P := P) (κ := fun a c => cmpR a.2.1 c.2.1) (ι := fun e => e.2.2) ⟨hsls, Heap.le.refl _, h0b, ⟨fun B hB x y hx hy Φ hΦ => ?_⟩, hlin⟩ hL0 hP hι fun Z hZp hZs => ?_
  · have h : c_value_CmpRows C x.1 y.1 (fun r B => Φ (.int .i64 r) B) B := cmpRows_call (fun _ h => h) hB hx hy hΦ
    exact ⟨_, [], [], rfl, ok_value_CmpRows, Spec.mono h fun v B2 ⟨r, e, h⟩ => by rw [e]; exact h⟩
  have hZ : ∀ e ∈ Z, e ∈ L0 := fun e he => hZp.mem_iff.1 he
  have hPZ : ∀ e ∈ Z, P e := fun e he => hP e (hZ e he)
  have hrep := cmpct_ok hlin hZs hPZ
  refine SR.compact_ok (R := H0) (P := P) (κ := fun a c => cmpR a.2.1 c.2.1) hsls (by dsimp only; omega) (Heap.le.refl _) h0b ⟨fun B hB x y hx hy Φ hΦ => ?_⟩ (by rw [hZp.length_eq, hL0]) hPZ fun sp2 hsp => ?_
  · have h : c_value_Sort_1 C x.1 y.1 (fun r B => Φ (.bool r) B) B := by
      apply ad_value_Sort_1
      unfold sh_value_Sort_1
      exact cmpRows_call (fun _ h => h) hB hx hy hΦ
    exact ⟨_, [], [], rfl, ok_value_Sort_1, Spec.mono h fun v B2 ⟨r, e, h⟩ => by rw [e]; exact h⟩
  have hlz := hZp.length_eq
  have hcl := cmpct_len (κ := fun a c : Sl × (List V × Nat) => cmpR a.2.1 c.2.1) Z
  generalize hQ : cmpct (fun a c : Sl × (List V × Nat) => cmpR a.2.1 c.2.1) Z = Q at *
  have hfQ : Q.flatMap SR.enc = Q.map fun e => slv e.1 := by
    clear hrep hQ hsp hcl
    induction Q with
    | nil => rfl
    | cons e Q ih => rw [List.flatMap_cons, ih]; rfl
  have hup : H0.le ((SR.arr H0 b sp2 Q).off ⟨some (b, 0), Q.length, s.cap, none⟩) := fun x e hx => by
    have hne : x ≠ b := fun e' => by rw [e', h0b] at hx; cases hx
    refine Heap.off_some ?_ fun p hp' e' => ?_
    · unfold SR.arr; rw [Heap.put_ne _ _ _ hne]; exact hx
    · simp only [Option.some.injEq] at hp'
      subst hp'; exact hne e'.symm
  refine k _ _ Q ⟨⟨SR.arr_le hH0 hbF sp2 Q, ⟨by simp, rfl, by show Q.length ≤ s.cap; omega, .inr ⟨b, sp2, rfl, ?_, ?_⟩⟩, fun p hp' => ?_⟩, fun e he => ?_, ?_, by omega⟩
  · unfold SR.arr; rw [Heap.put_same, hfQ]
  · show s.cap * 1 ≤ _
    rw [List.length_append, List.length_map] at *
    omega
  · simp only [Option.some.injEq] at hp'
    subst hp'; exact hbF
  · exact (hmem e (hZ e (hrep.sub e he))).1.up hup
  · rw [← hz2]
    exact Rep.map (κ' := fun a b : List V × Nat => cmpR a.1 b.1) (ι' := fun a : List V × Nat => a.2) (f := fun e : Sl × (List V × Nat) => e.2) (fun _ _ => rfl) (fun _ => rfl) (hrep.perm hZp)
theorem Srt.rows {H2 : Heap} {ls : List (List V)} {t : Sl} {A : List (Sl × (List V × Nat))} (h : Srt H H2 ls t A) : VRows H2 t (A.map fun e => e.2.1) := by
  refine ⟨A.map fun e => e.1, ?_, by have := h.own.own.1; simp at this; simp; omega, by simp, fun i x l hx hl => ?_⟩
  · have := h.own.own.rdsl; rw [List.map_map]; exact this
  · rw [List.getElem?_map] at hx hl
    cases he : A[i]? with
    | none => rw [he] at hx; cases hx
    | some e =>
      rw [he] at hx hl
      simp only [Option.map_some, Option.some.injEq] at hx hl
      subst hx; subst hl
      exact (h.row e (List.mem_of_getElem? he)).row2.le (Heap.off_le _ _)
theorem Srt.mem {H2 : Heap} {ls : List (List V)} {t : Sl} {A : List (Sl × (List V × Nat))} (h : Srt H H2 ls t A) {l : List V} (hl : l ∈ A.map fun e => e.2.1) : l ∈ ls := by
  obtain ⟨e, he, rfl⟩ := List.mem_map.1 hl
  have := h.rep.sub e.2 (List.mem_map.2 ⟨e, he, rfl⟩)
  rw [List.mem_zipIdx_iff_getElem?] at this
  exact List.mem_of_getElem? this
theorem Srt.asc {H2 : Heap} {ls : List (List V)} {t : Sl} {A : List (Sl × (List V × Nat))} (h : Srt H H2 ls t A) : (A.map fun e => e.2.1).Pairwise fun a b => cmpR a b < 0 := by
  have := h.rep.asc
  rw [List.pairwise_map] at this ⊢
  exact this
end
end Sx
end

noncomputable section
set_option linter.unusedVariables false
set_option linter.unusedSimpArgs false
set_option maxRecDepth 10000
namespace Sx
open Go
def hexD (k : Nat) : UInt8 := if k < 10 then UInt8.ofNat (48 + k) else UInt8.ofNat (87 + k)
def qC (c : UInt8) : Str :=
  if c = 34 ∨ c = 92 then [92, c] else if c = 10 then [92, 110] else if c = 9 then [92, 116]
  else if 32 ≤ c.toNat ∧ c.toNat ≤ 126 then [c] else [92, 120, hexD (c.toNat / 16), hexD (c.toNat % 16)]
def quoteS (s : Str) : Str := 34 :: (s.flatMap qC ++ [34])
mutual
def showV : V → Str
  | .mk k n s l => if k = 1 then (if n = 1 then trueS else falseS) else if k = 2 then Lib.itoa n else if k = 3 then s ++ [98] else if k = 4 then quoteS s
    else if k = 5 then 40 :: (showR true l ++ [41]) else s ++ (if l.length = 0 then [] else 40 :: (showR true l ++ [41]))
def showR : Bool → List V → Str
  | _, [] => []
  | f, v :: l => (if f then [] else [44, 32]) ++ (showV v ++ showR false l)
end
theorem showR_snoc : ∀ (l : List V) (f : Bool) (v : V), showR f (l ++ [v]) = showR f l ++ ((if f && l.isEmpty then [] else [44, 32]) ++ showV v)
  | [], f, v => by cases f <;> simp [showR]
  | w :: l, f, v => by
    rw [List.cons_append]
    simp only [showR, showR_snoc l false v, List.isEmpty_cons, Bool.and_false, Bool.false_and, Bool.false_eq_true, if_false, List.append_assoc]
theorem showR_append : ∀ (a b : List V) (f : Bool), showR f (a ++ b) = showR f a ++ showR (f && a.isEmpty) b
  | [], b, f => by simp [showR]
  | v :: a, b, f => by
    rw [List.cons_append]
    simp only [showR, showR_append a b false, List.isEmpty_cons, Bool.and_false, Bool.false_and, List.append_assoc]
theorem showR_pre (l : List V) (i : Nat) : (showR true (l.take i)).length ≤ (showR true l).length := by
  have := congrArg List.length (showR_append (l.take i) (l.drop i) true)
  rw [List.take_append_drop, List.length_append] at this
  omega
theorem showR_take {l : List V} {i : Nat} (h : i < l.length) : showR true (l.take (i + 1)) = showR true (l.take i) ++ ((if i = 0 then [] else [44, 32]) ++ showV l[i]) := by
  rw [List.take_add_one, List.getElem?_eq_getElem h, Option.toList_some, showR_snoc]
  congr 2
  have e : (l.take i).isEmpty = decide (i = 0) := by
    rw [Bool.eq_iff_iff, List.isEmpty_iff, decide_eq_true_iff]
    refine ⟨fun h2 => ?_, fun h2 => by rw [h2]; rfl⟩
    have := congrArg List.length h2
    rw [List.length_take, List.length_nil] at this; omega
  rw [Bool.true_and, e]
  by_cases hi : i = 0 <;> simp [hi]

theorem qC_shape (c : UInt8) : ((c = 34 ∨ c = 92) ∧ qC c = [92, c]) ∨ (c = 10 ∧ qC c = [92, 110]) ∨ (c = 9 ∧ qC c = [92, 116]) ∨ (c ≠ 34 ∧ c ≠ 92 ∧ qC c = [c]) ∨ qC c = [92, 120, hexD (c.toNat / 16), hexD (c.toNat % 16)] := by
  unfold qC
  by_cases h1 : c = 34 ∨ c = 92
  · rw [if_pos h1]; exact .inl ⟨h1, rfl⟩
  rw [if_neg h1]
  by_cases h2 : c = 10
  · rw [if_pos h2]; exact .inr (.inl ⟨h2, rfl⟩)
  rw [if_neg h2]
  by_cases h3 : c = 9
  · rw [if_pos h3]; exact .inr (.inr (.inl ⟨h3, rfl⟩))
  rw [if_neg h3]
  split
  · exact .inr (.inr (.inr (.inl ⟨fun e => h1 (.inl e), fun e => h1 (.inr e), rfl⟩)))
  · exact .inr (.inr (.inr (.inr rfl)))
theorem u8_eq {c d : UInt8} (h : c.toNat = d.toNat) : c = d := UInt8.toNat_inj.1 h
end Sx
end

noncomputable section
set_option linter.unusedVariables false
set_option linter.unusedSimpArgs false
set_option maxRecDepth 10000
namespace Sx
open Go Go.Proofs
section
variable {C : Ctx} {H : Heap}
theorem copyCheck_ok {b : Nat} {p : Option (Nat × Nat)} {s : Sl} {K : Heap → Prop} (hb : H b = some (true, .trow tyB 0 [pv p, slv s])) (hp : p = none ∨ p = some (b, 0)) (k : K (H.put b (.trow tyB 0 [pv (some (b, 0)), slv s]))) : c_strings_Builder_copyCheck C (some (b, 0)) K H := by
  apply ad_strings_Builder_copyCheck
  unfold sh_strings_Builder_copyCheck
  refine ⟨_, rfl, p, by simp [rd, hb, GO.cells?], ?_⟩
  rcases hp with rfl | rfl
  · exact ift_pos rfl ⟨(b, 0), rfl, ⟨true, _, 0, _, hb, by simp⟩, ⟨true, 0, _, hb, rfl, rfl⟩, _, rfl, _, 0, _, hb, Nat.le_refl _, by simp, k⟩
  · refine ift_neg rfl ⟨_, rfl, some (b, 0), by simp [rd, hb, GO.cells?], (b, 0), rfl, rfl, ift_neg rfl ?_⟩
    have : H.put b (.trow tyB 0 [pv (some (b, 0)), slv s]) = H := Heap.put_id hb
    rw [this] at k; exact k

theorem rd_buf {H : Heap} {b : Nat} {p : Option (Nat × Nat)} {s : Sl} {t : TypeId} (hb : H b = some (true, .trow t 0 [pv p, slv s])) : rd H (b, 0 + 1) = some (slv s) := by simp [rd, hb, GO.cells?]

theorem WriteByte_ok {b : Nat} {bs : Str} {c : UInt8} {K : Value → Heap → Prop} (h : IsB tyB tyE H b bs) (hl : bs.length + 1 ≤ 140737488355328) (k : K .nilIface (H.put b (Bd (bs ++ [c])))) : c_strings_Builder_WriteByte C (some (b, 0)) (c.toNat : Int) K H := by
  apply c_strings_Builder_WriteByte.gh
  refine h.open_ fun p s H' ho => ?_
  refine ad_strings_Builder_WriteByte _ _ _ _ _ ?_
  unfold sh_strings_Builder_WriteByte
  refine copyCheck_ok ho.row ho.self ?_
  have ho2 := ho.setP (p2 := some (b, 0)) (.inr rfl)
  refine ⟨_, rfl, s, rd_buf ho2.row, ?_⟩
  refine ho2.apd (by obtain ⟨g, hg⟩ := h.some; exact ⟨_, hg⟩) (ys := [c]) (by simpa using hl) fun r H3 h3 hr => ?_
  exact ⟨_, rfl, _, 0, _, hr, Nat.zero_le _, by simp, _, Gh.hideB h3, k⟩

theorem WriteString_ok {b : Nat} {bs c : Str} {K : Int → Value → Heap → Prop} (h : IsB tyB tyE H b bs) (hl : bs.length + c.length ≤ 140737488355328) (k : K (c.length : Int) .nilIface (H.put b (Bd (bs ++ c)))) : c_strings_Builder_WriteString C (some (b, 0)) c K H := by
  apply c_strings_Builder_WriteString.gh
  refine h.open_ fun p s H' ho => ?_
  refine ad_strings_Builder_WriteString _ _ _ _ _ ?_
  unfold sh_strings_Builder_WriteString
  refine copyCheck_ok ho.row ho.self ?_
  have ho2 := ho.setP (p2 := some (b, 0)) (.inr rfl)
  refine ⟨_, rfl, s, rd_buf ho2.row, ?_⟩
  refine ho2.apd (by obtain ⟨g, hg⟩ := h.some; exact ⟨_, hg⟩) (ys := c) hl fun r H3 h3 hr => ?_
  exact ⟨_, rfl, _, 0, _, hr, Nat.zero_le _, by simp, _, Gh.hideB h3, k⟩

theorem String_ok {b : Nat} {bs : Str} {K : Str → Heap → Prop} (h : IsB tyB tyE H b bs) (hl : bs.length ≤ 9223372036854775807) (k : K bs (H.put b (Bd bs))) : c_strings_Builder_String C (some (b, 0)) K H := by
  apply c_strings_Builder_String.gh
  refine h.open_ fun p s H' ho => ?_
  refine ad_strings_Builder_String _ _ _ _ ?_
  unfold sh_strings_Builder_String
  obtain ⟨e1, e2, e3⟩ := ho.slen
  have hrd : rd (H'.hide s) (b, 0 + 1) = some (slv s) := by
    have : (H'.hide s) b = H' b := by
      unfold Heap.hide
      split
      · rename_i q hq; rw [if_neg (fun e => ho.ne q hq e.symm)]
      · rfl
    simp [rd, this, ho.row, GO.cells?]
  refine ⟨H'.hide s, Heap.hide_le _ _, _, rfl, s, hrd, ⟨e3, e2⟩, _, rfl, s, hrd, ?_⟩
  rcases ho.buf with ⟨rfl, rfl⟩ | ⟨g, kk, row, hg, rfl, hgr, hk, hr0, hrl, hcs⟩
  · exact .inl ⟨rfl, Heap.hide_le _ _, _, Gh.hideB ho, k⟩
  · by_cases h0 : bs = []
    · subst h0
      exact .inl ⟨rfl, Heap.hide_le _ _, _, Gh.hideB ho, k⟩
    · refine .inr ⟨g, kk, row, bs, rfl, hgr, rfl, h0, hl, hcs, fun x v hx => ?_, _, Gh.hideB (b := b) (T := tyB) (e := tyE) (bs := bs) (p := p) (s := ⟨some (g, 0), bs.length, row.length, none⟩) ?_, k⟩
      · have hxg : x ≠ g := fun e => by subst e; simp [Heap.hide] at hx
        rw [Heap.put_ne _ _ _ hxg]; exact (Heap.hide_le _ _) _ _ hx
      · refine ⟨ho.self, by rw [Heap.put_ne _ _ _ (Ne.symm hg)]; exact ho.row, .inr ⟨g, max kk bs.length, row, hg, rfl, Heap.put_same .., by omega, hr0, hrl, hcs⟩, ho.gnot, fun x v hx hv => ?_⟩
        have hxg : x ≠ g := fun e => by subst e; have := ho.gnot (x, 0) rfl; dsimp only at this; rw [this] at hv; cases hv
        rw [Heap.put_ne _ _ _ hxg]; exact ho.but x v hx hv
end
end Sx
end

noncomputable section
set_option linter.unusedVariables false
set_option linter.unusedSimpArgs false
set_option maxRecDepth 10000
namespace Sx
open Go Go.Proofs
section
variable {C : Ctx} {H : Heap}
theorem FormatBool_ok {b : Bool} {K : Str → Heap → Prop} (k : K (if b then trueS else falseS) H) : c_strconv_FormatBool C b K H := by
  apply ad_strconv_FormatBool
  unfold sh_strconv_FormatBool
  apply ad_internal_strconv_FormatBool
  unfold sh_internal_strconv_FormatBool
  cases b with
  | true => exact ift_pos rfl k
  | false => exact ift_neg rfl k
theorem hexS {k : Nat} (h : k < 16) : ([48, 49, 50, 51, 52, 53, 54, 55, 56, 57, 97, 98, 99, 100, 101, 102] : Str)[k]? = some (hexD k) := by
  have : ∀ k : Fin 16, ([48, 49, 50, 51, 52, 53, 54, 55, 56, 57, 97, 98, 99, 100, 101, 102] : Str)[k.val]? = some (hexD k.val) := by decide
  exact this ⟨k, h⟩
theorem shr4 : ∀ c : UInt8, sShr .u8 (c.toNat : Int) 4 = ((c.toNat / 16 : Nat) : Int) := by
  have : ∀ k : Fin 256, sShr .u8 (k.val : Int) 4 = ((k.val / 16 : Nat) : Int) := by decide +kernel
  exact fun c => this ⟨c.toNat, c.toNat_lt⟩
theorem and15 : ∀ c : UInt8, bAnd .u8 (c.toNat : Int) 15 = ((c.toNat % 16 : Nat) : Int) := by
  have : ∀ k : Fin 256, bAnd .u8 (k.val : Int) 15 = ((k.val % 16 : Nat) : Int) := by decide +kernel
  exact fun c => this ⟨c.toNat, c.toNat_lt⟩
/-- over A, of which b is not, the builder b holds bs -/
structure Wr (A B : Heap) (b : Nat) (bs : Str) : Prop where
  le : A.le B
  nb : A b = none
  bl : IsB tyB tyE B b bs
theorem Wr.up {A B D : Heap} {b : Nat} {bs : Str} (h : Wr A B b bs) (hle : B.le D) : Wr A D b bs := ⟨h.le.trans hle, h.nb, h.bl.le hle⟩
theorem Wr.byte {A B : Heap} {b : Nat} {bs : Str} {c : UInt8} {i : Int} {K : Value → Heap → Prop} (h : Wr A B b bs) (hi : i = (c.toNat : Int)) (hl : bs.length + 1 ≤ 140737488355328) (k : ∀ D, Wr A D b (bs ++ [c]) → K .nilIface D) : c_strings_Builder_WriteByte C (some (b, 0)) i K B := by
  subst hi
  exact WriteByte_ok h.bl hl (k _ ⟨h.le.put _ _ h.nb, h.nb, IsB.put⟩)
theorem Wr.str {A B : Heap} {b : Nat} {bs s : Str} {K : Int → Value → Heap → Prop} (h : Wr A B b bs) (hl : bs.length + s.length ≤ 140737488355328) (k : ∀ D, Wr A D b (bs ++ s) → K (s.length : Int) .nilIface D) : c_strings_Builder_WriteString C (some (b, 0)) s K B :=
  WriteString_ok h.bl hl (k _ ⟨h.le.put _ _ h.nb, h.nb, IsB.put⟩)
theorem qC_len (c : UInt8) : 1 ≤ (qC c).length ∧ (qC c).length ≤ 4 := by
  rcases qC_shape c with ⟨_, e⟩ | ⟨_, e⟩ | ⟨_, e⟩ | ⟨_, _, e⟩ | e <;> rw [e] <;> simp
theorem quote_ok {A B : Heap} {b : Nat} {bs s : Str} {K : Heap → Prop} (h : Wr A B b bs) (hl : bs.length + (quoteS s).length ≤ 140737488355328) (k : ∀ D, Wr A D b (bs ++ quoteS s) → K D) : c_value_quote C (some (b, 0)) s K B := by
  apply ad_value_quote
  unfold sh_value_quote
  have hql : (quoteS s).length = (s.flatMap qC).length + 2 := by simp [quoteS]
  have hpre : ∀ i, ((s.take i).flatMap qC).length ≤ (s.flatMap qC).length := fun i => by
    have := congrArg List.length (congrArg (List.flatMap qC) (List.take_append_drop i s))
    rw [List.flatMap_append, List.length_append] at this; omega
  have hsl : s.length ≤ (s.flatMap qC).length := by
    clear hl k hql hpre
    induction s with
    | nil => exact Nat.le_refl _
    | cons c s ih =>
      have := (qC_len c).1
      rw [List.flatMap_cons, List.length_append, List.length_cons]; omega
  refine h.byte (c := 34) rfl (by omega) fun B1 h1 => ?_
  refine ⟨fun x D => ∃ i : Nat, x = (i : Int) ∧ i ≤ s.length ∧ Wr A D b (bs ++ [34] ++ (s.take i).flatMap qC), fun x _ => s.length - x.toNat, ⟨0, rfl, Nat.zero_le _, by simpa using h1⟩, ?_⟩
  rintro _ D ⟨i, rfl, hi, hw⟩
  refine ift.of (fun hlt => ?_) (fun hlt => ?_)
  · have hlt : i < s.length := by have := of_decide_eq_true hlt; omega
    have hstep : (s.take (i + 1)).flatMap qC = (s.take i).flatMap qC ++ qC s[i] := by
      rw [List.take_add_one, List.getElem?_eq_getElem hlt, Option.toList_some, List.flatMap_append, List.flatMap_singleton]
    have hnl := hpre (i + 1)
    rw [hstep, List.length_append] at hnl
    have hcur : (bs ++ [34] ++ (s.take i).flatMap qC).length = bs.length + 1 + ((s.take i).flatMap qC).length := by simp only [List.length_append, List.length_singleton]
    refine ⟨fun _ E => Wr A E b (bs ++ [34] ++ (s.take (i + 1)).flatMap qC), ?_, ?_⟩
    · refine ⟨s[i], by omega, by rw [Int.toNat_natCast]; exact List.getElem?_eq_getElem hlt, ?_⟩
      rw [hstep, ← List.append_assoc]
      generalize s[i] = c at *
      generalize bs ++ [34] ++ (s.take i).flatMap qC = cur at *
      have e34 : ((c.toNat : Int) == 34) = decide (c = 34) := by
        rw [Bool.eq_iff_iff, beq_iff_eq, decide_eq_true_iff]
        exact ⟨fun h => u8_eq (by show c.toNat = 34; omega), fun h => by rw [h]; rfl⟩
      have e92 : ((c.toNat : Int) == 92) = decide (c = 92) := by
        rw [Bool.eq_iff_iff, beq_iff_eq, decide_eq_true_iff]
        exact ⟨fun h => u8_eq (by show c.toNat = 92; omega), fun h => by rw [h]; rfl⟩
      have e10 : ((c.toNat : Int) == 10) = decide (c = 10) := by
        rw [Bool.eq_iff_iff, beq_iff_eq, decide_eq_true_iff]
        exact ⟨fun h => u8_eq (by show c.toNat = 10; omega), fun h => by rw [h]; rfl⟩
      have e9 : ((c.toNat : Int) == 9) = decide (c = 9) := by
        rw [Bool.eq_iff_iff, beq_iff_eq, decide_eq_true_iff]
        exact ⟨fun h => u8_eq (by show c.toNat = 9; omega), fun h => by rw [h]; rfl⟩
      rw [e34, e92, e10, e9]
      have hq4 := (qC_len c).2
      refine ift.of (fun c1 => ?_) (fun c1 => ?_)
      · simp only [Bool.or_eq_true, decide_eq_true_eq] at c1
        have e : qC c = [92, c] := by unfold qC; rw [if_pos c1]
        rw [e] at hnl ⊢
        simp only [List.length_cons, List.length_nil] at hnl
        refine hw.byte (c := 92) rfl (by omega) fun D1 h2 => h2.byte (c := c) rfl (by simp; omega) fun D2 h3 => ?_
        simpa using h3
      simp only [Bool.or_eq_false_iff, decide_eq_false_iff_not] at c1
      have c1' : ¬ (c = 34 ∨ c = 92) := fun h => h.elim c1.1 c1.2
      refine ift.of (fun c2 => ?_) (fun c2 => ?_)
      · have c2 := of_decide_eq_true c2
        have e : qC c = [92, 110] := by unfold qC; rw [if_neg c1', if_pos c2]
        rw [e] at hnl ⊢
        simp only [List.length_cons, List.length_nil] at hnl
        exact hw.str (s := [92, 110]) (by simp; omega) fun D1 h2 => h2
      have c2 := of_decide_eq_false c2
      refine ift.of (fun c3 => ?_) (fun c3 => ?_)
      · have c3 := of_decide_eq_true c3
        have e : qC c = [92, 116] := by unfold qC; rw [if_neg c1', if_neg c2, if_pos c3]
        rw [e] at hnl ⊢
        simp only [List.length_cons, List.length_nil] at hnl
        exact hw.str (s := [92, 116]) (by simp; omega) fun D1 h2 => h2
      have c3 := of_decide_eq_false c3
      refine ift.of (fun c4 => ?_) (fun c4 => ?_)
      · simp only [Bool.and_eq_true, decide_eq_true_eq] at c4
        have e : qC c = [c] := by unfold qC; rw [if_neg c1', if_neg c2, if_neg c3, if_pos (by omega)]
        rw [e] at hnl ⊢
        simp only [List.length_cons, List.length_nil] at hnl
        exact hw.byte (c := c) rfl (by omega) fun D1 h2 => h2
      · simp only [Bool.and_eq_false_iff, decide_eq_false_iff_not] at c4
        have e : qC c = [92, 120, hexD (c.toNat / 16), hexD (c.toNat % 16)] := by unfold qC; rw [if_neg c1', if_neg c2, if_neg c3, if_neg (by omega)]
        rw [e] at hnl ⊢
        simp only [List.length_cons, List.length_nil] at hnl
        have hct := c.toNat_lt
        refine hw.str (s := [92, 120]) (by simp; omega) fun D1 h2 => ?_
        rw [shr4, and15]
        refine ⟨hexD (c.toNat / 16), by omega, by rw [Int.toNat_natCast]; exact hexS (by omega), ?_⟩
        refine h2.byte (c := hexD (c.toNat / 16)) rfl (by simp; omega) fun D2 h3 => ?_
        refine ⟨hexD (c.toNat % 16), by omega, by rw [Int.toNat_natCast]; exact hexS (by omega), ?_⟩
        refine h3.byte (c := hexD (c.toNat % 16)) rfl (by simp; omega) fun D3 h4 => ?_
        simpa using h4
    · rintro _ E hE
      rw [w_i64 (by omega) (by omega)]
      exact ⟨⟨i + 1, by omega, by omega, hE⟩, by first | omega | (dsimp only; omega)⟩
  · have hie : i = s.length := by have := of_decide_eq_false hlt; omega
    rw [hie, List.take_length] at hw
    refine hw.byte (c := 34) rfl (by simp only [List.length_append, List.length_singleton]; omega) fun E hE => k E ?_
    simpa [quoteS] using hE
/-- the two closures, each in the other's cell -/
structure Clo (C : Ctx) (A : Heap) (b p q : Nat) : Prop where
  list : ∃ x, rd A (p, 0) = some x ∧ ∀ (t : Sl) (B : Heap) (Φ : Value → Heap → Prop), c_value_Show_1 C t (b, 0) (q, 0) (fun D => Φ (.tuple #[]) D) B → callU Tryz.prog C x [slv t] B Φ
  show_ : ∃ x, rd A (q, 0) = some x ∧ ∀ (v : TV) (B : Heap) (Φ : Value → Heap → Prop), c_value_Show_2 C v (b, 0) (p, 0) (fun D => Φ (.tuple #[]) D) B → callU Tryz.prog C x [.agg (T_api_Value.c v).toArray] B Φ
variable {A B : Heap} {b p q : Nat}
theorem Clo.le {A1 : Heap} (h : Clo C A b p q) (hle : A.le A1) : Clo C A1 b p q := by
  obtain ⟨⟨x, h1, h2⟩, y, h3, h4⟩ := h
  exact ⟨⟨x, rd_le hle h1, h2⟩, y, rd_le hle h3, h4⟩
theorem Wr.box {bs : Str} {b1 : Nat} {x : TV} (h : Wr A B b bs) (n1 : B b1 = none) :
    Wr (A.put b1 (.row (T_api_Value.c x))) (B.put b1 (.row (T_api_Value.c x))) b bs ∧ A.le (A.put b1 (.row (T_api_Value.c x))) ∧ (A.put b1 (.row (T_api_Value.c x))) b1 = some (true, .row (T_api_Value.c x)) := by
  have hne : b ≠ b1 := fun e => by
    obtain ⟨g, hg⟩ := h.bl.some
    rw [e, n1] at hg; cases hg
  refine ⟨⟨fun z e hz => ?_, by rw [Heap.put_ne _ _ _ hne]; exact h.nb, h.bl.le (Heap.le_put n1)⟩, Heap.le_put (h.le.none n1), Heap.put_same ..⟩
  by_cases hzb : z = b1
  · subst hzb; rw [Heap.put_same] at hz ⊢; exact hz
  · rw [Heap.put_ne _ _ _ hzb] at hz ⊢; exact h.le _ _ hz
theorem Wr.base {A1 D : Heap} {bs : Str} (h : Wr A1 D b bs) (hle : A.le A1) : Wr A D b bs := ⟨hle.trans h.le, hle.none h.nb, h.bl⟩
theorem showV_eq (v : V) : showV v = if v.k = 1 then (if v.n = 1 then trueS else falseS) else if v.k = 2 then Lib.itoa v.n else if v.k = 3 then v.s ++ [98] else if v.k = 4 then quoteS v.s
    else if v.k = 5 then 40 :: (showR true v.l ++ [41]) else v.s ++ (if v.l.length = 0 then [] else 40 :: (showR true v.l ++ [41])) := by cases v; rfl
theorem list_ok {l : List V} (ih : ∀ w ∈ l, ∀ {A B : Heap} {x : TV} {bs : Str} {K : Heap → Prop}, Clo C A b p q → VIs A w x → VB w → Wr A B b bs → bs.length + (showV w).length ≤ 140737488355328 → (∀ D, Wr A D b (bs ++ showV w) → K D) → c_value_Show_2 C x (b, 0) (p, 0) K B)
    {A B : Heap} {t : Sl} {bs : Str} {K : Heap → Prop} (hC : Clo C A b p q) (hv : VRow A t l) (hl0 : l.length ≤ 140737488355328) (hB : VBs l) (h : Wr A B b bs) (hl : bs.length + (showR true l).length + 2 ≤ 140737488355328)
    (k : ∀ D, Wr A D b (bs ++ (40 :: (showR true l ++ [41]))) → K D) : c_value_Show_1 C t (b, 0) (q, 0) K B := by
  apply ad_value_Show_1
  unfold sh_value_Show_1
  refine h.byte (c := 40) rfl (by omega) fun B1 h1 => ?_
  rw [hv.len]
  refine ⟨fun x D => ∃ i : Nat, x = (i : Int) ∧ i ≤ l.length ∧ Wr A D b (bs ++ [40] ++ showR true (l.take i)), fun x _ => l.length - x.toNat, ⟨0, rfl, Nat.zero_le _, by simpa [showR] using h1⟩, ?_⟩
  rintro _ D ⟨i, rfl, hi, hw⟩
  refine ift.of (fun hlt => ?_) (fun hlt => ?_)
  · have hlt : i < l.length := by have := of_decide_eq_true hlt; omega
    have hm := List.getElem_mem hlt
    have hst := showR_take hlt
    have hpl := showR_pre l (i + 1)
    rw [hst] at hpl
    simp only [List.length_append] at hpl
    refine hv.ld hw.le rfl hlt fun x hx => ?_
    intro b14 n14
    refine ⟨_, Heap.put_same .., by simp [T_api_Value.c], ?_⟩
    rw [Heap.put_put]
    have hc : splice (T_api_Value.c T_api_Value.zero) (b14, 0).2 (T_api_Value.c x) = T_api_Value.c x := rfl
    rw [hc]
    obtain ⟨w1, w2, w3⟩ := hw.box (x := x) n14
    refine ⟨fun _ E => Wr (A.put b14 (.row (T_api_Value.c x))) E b (bs ++ [40] ++ showR true (l.take i) ++ (if i = 0 then [] else [44, 32])), ?_, ?_⟩
    · refine ift.of (fun h0 => ?_) (fun h0 => ?_)
      · have h0 : i ≠ 0 := by have := of_decide_eq_true h0; omega
        rw [if_neg h0] at hpl ⊢
        simp only [List.length_cons, List.length_nil] at hpl
        exact w1.str (s := [44, 32]) (by simp only [List.length_append, List.length_cons, List.length_nil]; omega) fun E hE => hE
      · have h0 : i = 0 := by have := of_decide_eq_false h0; omega
        rw [if_pos h0, List.append_nil]; exact w1
    · rintro _ E hE
      obtain ⟨y, y1, y2⟩ := (hC.le w2).show_
      refine ⟨y, rd_le hE.le y1, bxV (hE.le _ _ w3) (y2 _ _ _ (ih _ hm (hC.le w2) (hx.le w2) (hB.mem hm) hE ?_ fun F hF => ⟨rfl, ?_⟩))⟩
      · simp only [List.length_append, List.length_cons, List.length_nil]; omega
      · rw [w_i64 (by omega) (by omega)]
        refine ⟨⟨i + 1, by omega, by omega, ?_⟩, by first | omega | (dsimp only; omega)⟩
        rw [hst]
        have := hF.base w2
        simpa only [List.append_assoc] using this
  · have hie : i = l.length := by have := of_decide_eq_false hlt; omega
    rw [hie, List.take_length] at hw
    refine hw.byte (c := 41) rfl (by simp only [List.length_append, List.length_cons, List.length_nil]; omega) fun E hE => k E ?_
    simpa only [List.append_assoc, List.cons_append, List.nil_append] using hE
theorem show2_ok (hF : FmtC C) (v : V) : ∀ {A B : Heap} {x : TV} {bs : Str} {K : Heap → Prop}, Clo C A b p q → VIs A v x → VB v → Wr A B b bs → bs.length + (showV v).length ≤ 140737488355328 → (∀ D, Wr A D b (bs ++ showV v) → K D) → c_value_Show_2 C x (b, 0) (p, 0) K B := by
  refine V.rec_ (P := fun v => ∀ {A B : Heap} {x : TV} {bs : Str} {K : Heap → Prop}, Clo C A b p q → VIs A v x → VB v → Wr A B b bs → bs.length + (showV v).length ≤ 140737488355328 → (∀ D, Wr A D b (bs ++ showV v) → K D) → c_value_Show_2 C x (b, 0) (p, 0) K B) (fun v ih => ?_) v
  intro A B x bs K hC hv hB h hl k
  apply ad_value_Show_2
  unfold sh_value_Show_2
  intro b1 n1
  obtain ⟨w1, w2, w3⟩ := h.box (x := x) n1
  have hv1 := VIs_iff.1 hv
  have hb1 := w1.le _ _ w3
  have k1 : ∀ D, Wr (A.put b1 (.row (T_api_Value.c x))) D b (bs ++ showV v) → K D := fun D hD => k D (hD.base w2)
  rw [showV_eq] at hl k1
  have hC1 := hC.le w2
  have hrow := hv1.2.2.2.le w2
  generalize A.put b1 (.row (T_api_Value.c x)) = A1 at *
  generalize B.put b1 (.row (T_api_Value.c x)) = B1 at *
  refine bxK hb1 ?_
  rw [hv1.1]
  refine ift.of (fun h1 => ?_) (fun h1 => ?_)
  · have h1 : v.k = 1 := by simpa using h1
    rw [if_pos h1] at hl k1
    refine bxN hb1 (FormatBool_ok ?_)
    rw [hv1.2.1]
    have e : (if (v.n == 1) = true then trueS else falseS) = (if v.n = 1 then trueS else falseS) := by simp
    rw [e]
    exact w1.str hl k1
  have h1 : v.k ≠ 1 := by simpa using h1
  rw [if_neg h1] at hl k1
  refine ift.of (fun h2 => ?_) (fun h2 => ?_)
  · have h2 : v.k = 2 := by simpa using h2
    rw [if_pos h2] at hl k1
    refine bxN hb1 ?_
    rw [hv1.2.1]
    exact hF.ok hB.n.1 hB.n.2 (w1.str hl k1)
  have h2 : v.k ≠ 2 := by simpa using h2
  rw [if_neg h2] at hl k1
  refine ift.of (fun h3 => ?_) (fun h3 => ?_)
  · have h3 : v.k = 3 := by simpa using h3
    rw [if_pos h3] at hl k1
    simp only [List.length_append, List.length_cons, List.length_nil] at hl
    refine bxS hb1 ?_
    rw [hv1.2.2.1]
    refine w1.str (by omega) fun D hD => hD.byte (c := 98) rfl (by rw [List.length_append]; omega) fun E hE => k1 E ?_
    simpa only [List.append_assoc] using hE
  have h3 : v.k ≠ 3 := by simpa using h3
  rw [if_neg h3] at hl k1
  refine ift.of (fun h4 => ?_) (fun h4 => ?_)
  · have h4 : v.k = 4 := by simpa using h4
    rw [if_pos h4] at hl k1
    refine bxS hb1 ?_
    rw [hv1.2.2.1]
    exact quote_ok w1 hl k1
  have h4 : v.k ≠ 4 := by simpa using h4
  rw [if_neg h4] at hl k1
  obtain ⟨y, y1, y2⟩ := hC1.list
  refine ift.of (fun h5 => ?_) (fun h5 => ?_)
  · have h5 : v.k = 5 := by simpa using h5
    rw [if_pos h5] at hl k1
    simp only [List.length_append, List.length_cons, List.length_nil] at hl
    exact ⟨y, rd_le w1.le y1, bxL hb1 (y2 _ _ _ (list_ok ih hC1 hrow hB.l hB.ls w1 (by omega) fun D hD => ⟨rfl, k1 D hD⟩))⟩
  have h5 : v.k ≠ 5 := by simpa using h5
  rw [if_neg h5] at hl k1
  rw [List.length_append] at hl
  refine bxS hb1 ?_
  rw [hv1.2.2.1]
  refine w1.str (by omega) fun D hD => bxL (hD.le _ _ w3) ?_
  rw [hrow.len]
  refine ift.of (fun h6 => ?_) (fun h6 => ?_)
  · have h6 : v.l.length ≠ 0 := by have := of_decide_eq_true h6; omega
    rw [if_neg h6] at hl k1
    simp only [List.length_append, List.length_cons, List.length_nil] at hl
    refine ⟨y, rd_le hD.le y1, bxL (hD.le _ _ w3) (y2 _ _ _ (list_ok ih hC1 hrow hB.l hB.ls hD (by rw [List.length_append]; omega) fun E hE => ⟨rfl, k1 E ?_⟩))⟩
    rw [← List.append_assoc]; exact hE
  · have h6 : v.l.length = 0 := by have := of_decide_eq_false h6; omega
    rw [if_pos h6] at k1
    rw [List.append_nil] at k1
    exact k1 D hD
/-- the text of a value that may be -/
theorem Show_ok (hF : FmtC C) {v : V} {x : TV} {K : Str → Heap → Prop} (hv : VIs H v x) (hB : VB v) (hl : mayV v = true → (showV v).length ≤ 140737488355328) (k : ∀ H2, H.le H2 → K (if mayV v then showV v else []) H2) : c_value_Show C x K H := by
  apply ad_value_Show
  unfold sh_value_Show
  intro b1 n1
  have hle1 := Heap.le_put n1 (g := .row (T_api_Value.c x)) (m := true)
  have hb1 : (H.put b1 (.row (T_api_Value.c x))) b1 = some (true, .row (T_api_Value.c x)) := Heap.put_same ..
  have hv1 := hv.le hle1
  generalize H.put b1 (.row (T_api_Value.c x)) = H1 at *
  refine bxV hb1 (value_Check_ok hv1 hB ?_)
  rw [bne, mayV_dec]
  refine ift.of (fun h => ?_) (fun h => ?_)
  · have h : mayV v = false := by simpa using h
    have := k H1 hle1
    rw [h] at this; exact this
  have h : mayV v = true := by simpa using h
  intro b8 n8 b10 n10 b12 n12
  have l8 := Heap.le_put n8 (g := .trow tyB 0 [pv none, slv Sl.nil]) (m := true)
  have ne1 : b8 ≠ b10 := fun e => by rw [e, Heap.put_same] at n10; cases n10
  have ne2 : b8 ≠ b12 := fun e => by rw [← e, Heap.put_ne _ _ _ ne1, Heap.put_same] at n12; cases n12
  have ne3 : b10 ≠ b12 := fun e => by rw [e, Heap.put_same] at n12; cases n12
  refine ⟨[.nilFunc], Heap.put_same .., Nat.zero_lt_one, ?_⟩
  refine ⟨[.nilFunc], ?_, Nat.zero_lt_one, ?_⟩
  · show ((((H1.put b8 _).put b10 _).put b12 _).put b12 _) b10 = _
    rw [Heap.put_ne _ _ _ ne3, Heap.put_ne _ _ _ ne3, Heap.put_same]
  generalize hf24 : Value.func (Fn.func _) (List.toArray []) (List.toArray [pv (some (b8, 0)), pv (some (b10, 0))]) = F24
  generalize hf27 : Value.func (Fn.func _) (List.toArray []) (List.toArray [pv (some (b8, 0)), pv (some (b12, 0))]) = F27
  simp only [List.set_cons_zero]
  have n10' : H1 b10 = none := l8.none n10
  have n12' : H1 b12 = none := (l8.trans (Heap.le_put n10)).none n12
  generalize hD0 : ((((H1.put b8 (.trow tyB 0 [pv none, slv Sl.nil])).put b10 (.row [.nilFunc])).put b12 (.row [.nilFunc])).put b12 (.row [F24])).put b10 (.row [F27]) = D0
  have d8 : D0 b8 = some (true, .trow tyB 0 [pv none, slv Sl.nil]) := by
    rw [← hD0, Heap.put_ne _ _ _ ne1, Heap.put_ne _ _ _ ne2, Heap.put_ne _ _ _ ne2, Heap.put_ne _ _ _ ne1, Heap.put_same]
  have d10 : D0 b10 = some (true, .row [F27]) := by rw [← hD0, Heap.put_same]
  have d12 : D0 b12 = some (true, .row [F24]) := by rw [← hD0, Heap.put_ne _ _ _ (Ne.symm ne3), Heap.put_same]
  have dle : H1.le D0 := fun z e hz => by
    have z8 : z ≠ b8 := fun e' => by rw [e', n8] at hz; cases hz
    have z10 : z ≠ b10 := fun e' => by rw [e', n10'] at hz; cases hz
    have z12 : z ≠ b12 := fun e' => by rw [e', n12'] at hz; cases hz
    rw [← hD0, Heap.put_ne _ _ _ z10, Heap.put_ne _ _ _ z12, Heap.put_ne _ _ _ z12, Heap.put_ne _ _ _ z10, Heap.put_ne _ _ _ z8]; exact hz
  clear hD0
  let A : Heap := D0.del b8
  have hA8 : A b8 = none := Heap.del_same ..
  have hAle : A.le D0 := Heap.del_le D0 b8
  have hHA : H1.le A := fun z e hz => by
    have z8 : z ≠ b8 := fun e' => by rw [e', n8] at hz; cases hz
    show D0.del b8 z = _
    rw [Heap.del_ne _ z8]; exact dle _ _ hz
  have hw : Wr A D0 b8 [] := ⟨hAle, hA8, .inr ⟨rfl, d8⟩⟩
  have a10 : A b10 = some (true, .row [F27]) := by show D0.del b8 b10 = _; rw [Heap.del_ne _ (Ne.symm ne1)]; exact d10
  have a12 : A b12 = some (true, .row [F24]) := by show D0.del b8 b12 = _; rw [Heap.del_ne _ (Ne.symm ne2)]; exact d12
  have hC : Clo C A b8 b12 b10 := by
    refine ⟨⟨F24, by simp [rd, a12, GO.cells?], fun t B Φ hh => ?_⟩, F27, by simp [rd, a10, GO.cells?], fun w B Φ hh => ?_⟩
    · exact ⟨_, [], _, hf24.symm, ok_value_Show_1, Spec.mono hh fun u B2 ⟨e, h2⟩ => by rw [e]; exact h2⟩
    · exact ⟨_, [], _, hf27.symm, ok_value_Show_2, Spec.mono hh fun u B2 ⟨e, h2⟩ => by rw [e]; exact h2⟩
  obtain ⟨y, y1, y2⟩ := hC.show_
  refine ⟨y, rd_le hAle y1, bxV (dle _ _ hb1) (y2 _ _ _ (show2_ok hF v (bs := []) hC (hv1.le hHA) hB hw (by simpa using hl h) fun D hD => ⟨rfl, ?_⟩))⟩
  refine String_ok hD.bl (by rw [List.nil_append]; have := hl h; omega) ?_
  have := k (D.put b8 (Bd ([] ++ showV v))) ((hle1.trans hHA).trans (hD.le.put _ _ hA8))
  rw [h] at this
  exact this
end
end Sx
end

noncomputable section
set_option linter.unusedVariables false
set_option linter.unusedSimpArgs false
namespace Sx
open Go Go.Proofs
section
variable {C : Ctx} {H : Heap}
theorem cmpR_one (v w : V) : cmpR [v] [w] = cmpA v w := by
  unfold cmpR cmpA
  have e1 : ∀ v : V, mayR [v] = mayV v := fun v => by simp [mayR]
  rw [e1, e1]
  have e2 : cmpVs [v] [w] = cmpV v w := by
    simp only [cmpVs]
    split
    · rfl
    · omega
  rw [e2]
theorem lit_row {A : Heap} {b n cap : Nat} {m : Bool} {vs : List V} {xs : List TV} {cs : List Value} (h : A b = some (m, .row cs)) (hc : cs = xs.flatMap T_api_Value.c) (hn : n = xs.length) (hv : VsAre A vs xs) : VRow A (Sl.of (some (b, 0)) n cap) vs := by
  subst hc
  refine ⟨xs, .inr ⟨rfl, _, rfl, rds_row h fun j v hj => ?_⟩, hn, hv⟩
  simpa using hj
theorem pCmp_ok {v w : V} {x y : TV} {K : Int → Heap → Prop} (hv : VIs H v x) (hw : VIs H w y) (hB : VB v) (hB2 : VB w) (k : K (cmpA v w) H) : c_value_Cmp C x y K H := by
  apply c_value_Cmp.gh
  apply ad_value_Cmp
  unfold sh_value_Cmp
  intro b1 n1 b3 n3
  have hb3 : ((H.put b1 (.row (T_api_Value.c x))).put b3 (.row (T_api_Value.c y))) b3 = some (true, .row (T_api_Value.c y)) := Heap.put_same ..
  have hne : b1 ≠ b3 := fun e => by rw [e, Heap.put_same] at n3; cases n3
  have hb1 : ((H.put b1 (.row (T_api_Value.c x))).put b3 (.row (T_api_Value.c y))) b1 = some (true, .row (T_api_Value.c x)) := by rw [Heap.put_ne _ _ _ hne, Heap.put_same]
  have hle := (Heap.le_put n1 (g := .row (T_api_Value.c x)) (m := true)).trans (Heap.le_put n3 (g := .row (T_api_Value.c y)) (m := true))
  generalize (H.put b1 (.row (T_api_Value.c x))).put b3 (.row (T_api_Value.c y)) = H1 at *
  refine bxV hb1 ?_
  intro b7 n7
  have hle7 := Heap.le_put n7 (g := .row (T_api_Value.c x ++ [])) (m := true)
  refine bxV (hle7 _ _ hb3) ?_
  intro b11 n11
  have hle11 := Heap.le_put n11 (g := .row (T_api_Value.c y ++ [])) (m := true)
  have ha := (hle.trans hle7).trans hle11
  refine pCmpRows_ok (l := [v]) (m := [w]) (lit_row (xs := [x]) (hle11 _ _ (Heap.put_same ..)) (by simp) rfl ⟨hv.le ha, trivial⟩) (lit_row (xs := [y]) (Heap.put_same ..) (by simp) rfl ⟨hw.le ha, trivial⟩) (by simp) (by simp) ⟨hB, trivial⟩ ⟨hB2, trivial⟩ ⟨H, Gh.le ha, ?_⟩
  rw [cmpR_one]; exact k
theorem stV {b : Nat} {x y : TV} {K : Heap → Prop} (hb : H b = some (true, .row (T_api_Value.c x))) (k : K (H.put b (.row (T_api_Value.c y)))) : stT (b, 0) (T_api_Value.c y) K H := by
  refine ⟨_, hb, by simp [T_api_Value.c], ?_⟩
  have e : splice (T_api_Value.c x) (b, 0).2 (T_api_Value.c y) = T_api_Value.c y := rfl
  rw [e]; exact k
end
def exA : V := .mk 2 3 [] []
def exB : V := .mk 3 0 [49, 48] []
def exC : V := .mk 6 0 [99, 111, 110, 115] [exA, exB]
theorem ex_may : mayV exA = true ∧ mayV exB = true ∧ mayV exC = true := by decide +kernel
theorem ex_chk : checkV exC = 0 ∧ checkV (.mk 0 0 [] []) = 4 := by decide +kernel
theorem ex_show : showV exC = [99, 111, 110, 115, 40, 51, 44, 32, 49, 48, 98, 41] := by
  have e3 : Lib.itoa 3 = [51] := by unfold Lib.itoa; rw [if_neg (by decide), Lib.decDigits, dif_pos (by decide)]; rfl
  simp [exC, exA, exB, showV, showR, e3]
theorem ex_cmp : cmpA exA exB = -1 ∧ cmpR [exA] [exA, exB] = -1 ∧ cmpR [exA] [exB] = -1 ∧ cmpR [exB] [exA] = 1 := by decide +kernel
theorem ex_vb : VB exA ∧ VB exB ∧ VB exC := by
  refine ⟨?_, ?_, ?_⟩ <;> simp [exA, exB, exC, VB, VBs]
theorem ex_sorted {A : List (Sl × (List V × Nat))} (h : Rep (fun a b : List V × Nat => cmpR a.1 b.1) (fun a => a.2) ([[exB], [exA], [exB]] : List (List V)).zipIdx (A.map fun e => e.2)) : A.map (fun e => e.2) = [([exA], 1), ([exB], 0)] := by
  have L : Lin (fun a b : List V × Nat => cmpR a.1 b.1) fun _ => True := Lin.row.comp fun e : List V × Nat => e.1
  obtain ⟨_, _, ab, ba⟩ := ex_cmp
  have aa : cmpR [exA] [exA] = 0 := Lin.row.refl trivial
  have bb : cmpR [exB] [exB] = 0 := Lin.row.refl trivial
  refine Rep.uniq L (fun _ _ => trivial) h ⟨?_, fun y hy => ?_, fun x hx => ?_, fun y hy x hx e => ?_⟩
  · simp [ab]
  · simp only [List.mem_cons, List.not_mem_nil, or_false] at hy
    rcases hy with rfl | rfl <;> simp [List.zipIdx]
  · simp only [List.zipIdx, List.mem_cons, List.not_mem_nil, or_false] at hx
    rcases hx with rfl | rfl | rfl
    · exact ⟨([exB], 0), by simp, bb⟩
    · exact ⟨([exA], 1), by simp, aa⟩
    · exact ⟨([exB], 0), by simp, bb⟩
  · simp only [List.mem_cons, List.not_mem_nil, or_false] at hy
    simp only [List.zipIdx, List.mem_cons, List.not_mem_nil, or_false] at hx
    rcases hy with rfl | rfl <;> rcases hx with rfl | rfl | rfl <;> simp only [ab, ba] at e <;> first | exact .inl rfl | (exact absurd e (by decide)) | exact .inr (by decide)
end Sx
end

noncomputable section
set_option linter.unusedVariables false
set_option linter.unusedSimpArgs false
namespace Sx
open Go Go.Proofs
section
variable {C : Ctx} {H : Heap}
theorem awakeF_ok (hF : FmtC C) {K : Bool → Heap → Prop} (k : ∀ H2, H.le H2 → K true H2) : c_law02_awake C K H := by
  obtain ⟨vA, vB, vC⟩ := ex_vb
  obtain ⟨mA, mB, mC⟩ := ex_may
  obtain ⟨q1, q2⟩ := ex_chk
  obtain ⟨r1, r2, r3, r4⟩ := ex_cmp
  apply ad_law02_awake
  unfold sh_law02_awake
  intro b1 n1 b3 n3
  have ne13 : b1 ≠ b3 := fun e => by rw [e, Heap.put_same] at n3; cases n3
  refine stV (x := T_api_Value.zero) (by rw [Heap.put_ne _ _ _ ne13, Heap.put_same]) (stV (x := T_api_Value.zero) (by rw [Heap.put_ne _ _ _ (Ne.symm ne13), Heap.put_same]) ?_)
  generalize hH6 : ((((H.put b1 (.row (T_api_Value.c T_api_Value.zero))).put b3 (.row (T_api_Value.c T_api_Value.zero))).put b1 (.row (T_api_Value.c ⟨2, 3, [], Sl.nil⟩))).put b3 (.row (T_api_Value.c ⟨3, 0, [49, 48], Sl.nil⟩))) = H6
  have l6 : H.le H6 := fun z e hz => by
    have z1 : z ≠ b1 := fun e' => by rw [e', n1] at hz; cases hz
    have z3 : z ≠ b3 := fun e' => by rw [e', (Heap.le_put n1).none n3] at hz; cases hz
    rw [← hH6, Heap.put_ne _ _ _ z3, Heap.put_ne _ _ _ z1, Heap.put_ne _ _ _ z3, Heap.put_ne _ _ _ z1]; exact hz
  have h1 : H6 b1 = some (true, .row (T_api_Value.c ⟨2, 3, [], Sl.nil⟩)) := by rw [← hH6, Heap.put_ne _ _ _ ne13, Heap.put_same]
  have h3 : H6 b3 = some (true, .row (T_api_Value.c ⟨3, 0, [49, 48], Sl.nil⟩)) := by rw [← hH6, Heap.put_same]
  clear hH6 n1 n3
  have iA : ∀ D : Heap, VIs D exA ⟨2, 3, [], Sl.nil⟩ := fun D => ⟨rfl, rfl, rfl, [], .inl rfl, rfl, trivial⟩
  have iB : ∀ D : Heap, VIs D exB ⟨3, 0, [49, 48], Sl.nil⟩ := fun D => ⟨rfl, rfl, rfl, [], .inl rfl, rfl, trivial⟩
  refine bxV h1 (bxV h3 ?_)
  intro b11 n11
  have l11 := Heap.le_put n11 (g := .row (T_api_Value.c ⟨2, 3, [], Sl.nil⟩ ++ T_api_Value.c ⟨3, 0, [49, 48], Sl.nil⟩ ++ [])) (m := true)
  have row11 : VRow (H6.put b11 (.row (T_api_Value.c ⟨2, 3, [], Sl.nil⟩ ++ T_api_Value.c ⟨3, 0, [49, 48], Sl.nil⟩ ++ []))) (Sl.of (some (b11, 0)) 2 2) [exA, exB] := lit_row (xs := [⟨2, 3, [], Sl.nil⟩, ⟨3, 0, [49, 48], Sl.nil⟩]) (Heap.put_same ..) (by simp) rfl ⟨iA _, iB _, trivial⟩
  have h1' := l11 _ _ h1
  have h3' := l11 _ _ h3
  have l12 := l6.trans l11
  generalize H6.put b11 (.row (T_api_Value.c ⟨2, 3, [], Sl.nil⟩ ++ T_api_Value.c ⟨3, 0, [49, 48], Sl.nil⟩ ++ [])) = H12 at *
  intro b13 n13
  refine stV (x := T_api_Value.zero) (Heap.put_same ..) ?_
  rw [Heap.put_put]
  have l13 := Heap.le_put n13 (g := .row (T_api_Value.c ⟨6, 0, [99, 111, 110, 115], Sl.of (some (b11, 0)) 2 2⟩)) (m := true)
  have h13 : (H12.put b13 (.row (T_api_Value.c ⟨6, 0, [99, 111, 110, 115], Sl.of (some (b11, 0)) 2 2⟩))) b13 = some (true, .row (T_api_Value.c ⟨6, 0, [99, 111, 110, 115], Sl.of (some (b11, 0)) 2 2⟩)) := Heap.put_same ..
  have iC : VIs (H12.put b13 (.row (T_api_Value.c ⟨6, 0, [99, 111, 110, 115], Sl.of (some (b11, 0)) 2 2⟩))) exC ⟨6, 0, [99, 111, 110, 115], Sl.of (some (b11, 0)) 2 2⟩ := VIs_iff.2 ⟨rfl, rfl, rfl, row11.le l13⟩
  have h1 := l13 _ _ h1'
  have h3 := l13 _ _ h3'
  have l15 := l12.trans l13
  generalize H12.put b13 (.row (T_api_Value.c ⟨6, 0, [99, 111, 110, 115], Sl.of (some (b11, 0)) 2 2⟩)) = H15 at *
  refine bxV h3 ?_
  intro b18 n18
  have l18 := Heap.le_put n18 (g := (.row (T_api_Value.c ⟨3, 0, [49, 48], Sl.nil⟩ ++ []))) (m := true)
  have row18 := lit_row (n := 1) (cap := 1) (vs := [exB]) (xs := [⟨3, 0, [49, 48], Sl.nil⟩]) (Heap.put_same H15 b18 (.row (T_api_Value.c ⟨3, 0, [49, 48], Sl.nil⟩ ++ [])) true) (by simp) rfl ⟨iB _, trivial⟩
  generalize H15.put b18 (.row (T_api_Value.c ⟨3, 0, [49, 48], Sl.nil⟩ ++ [])) = H19 at *
  refine bxV (l18 _ _ h1) ?_
  intro b22 n22
  have l22 := Heap.le_put n22 (g := (.row (T_api_Value.c ⟨2, 3, [], Sl.nil⟩ ++ []))) (m := true)
  have row22 := lit_row (n := 1) (cap := 1) (vs := [exA]) (xs := [⟨2, 3, [], Sl.nil⟩]) (Heap.put_same H19 b22 (.row (T_api_Value.c ⟨2, 3, [], Sl.nil⟩ ++ [])) true) (by simp) rfl ⟨iA _, trivial⟩
  generalize H19.put b22 (.row (T_api_Value.c ⟨2, 3, [], Sl.nil⟩ ++ [])) = H23 at *
  refine bxV (l22 _ _ (l18 _ _ h3)) ?_
  intro b26 n26
  have l26 := Heap.le_put n26 (g := (.row (T_api_Value.c ⟨3, 0, [49, 48], Sl.nil⟩ ++ []))) (m := true)
  have row26 := lit_row (n := 1) (cap := 1) (vs := [exB]) (xs := [⟨3, 0, [49, 48], Sl.nil⟩]) (Heap.put_same H23 b26 (.row (T_api_Value.c ⟨3, 0, [49, 48], Sl.nil⟩ ++ [])) true) (by simp) rfl ⟨iB _, trivial⟩
  generalize H23.put b26 (.row (T_api_Value.c ⟨3, 0, [49, 48], Sl.nil⟩ ++ [])) = H27 at *
  intro b28 n28
  have l28 := Heap.le_put n28 (g := .row [slv (Sl.of (some (b18, 0)) 1 1), slv (Sl.of (some (b22, 0)) 1 1), slv (Sl.of (some (b26, 0)) 1 1)]) (m := true)
  have rows : VRows _ (Sl.of (some (b28, 0)) 3 3) [[exB], [exA], [exB]] := ⟨[Sl.of (some (b18, 0)) 1 1, Sl.of (some (b22, 0)) 1 1, Sl.of (some (b26, 0)) 1 1], .inr ⟨rfl, _, rfl, rds_row (Heap.put_same _ b28 (.row [slv (Sl.of (some (b18, 0)) 1 1), slv (Sl.of (some (b22, 0)) 1 1), slv (Sl.of (some (b26, 0)) 1 1)]) true) fun j v hj => by simpa using hj⟩, rfl, rfl, fun i x l hx hl => by
    match i, hx, hl with
    | 0, hx, hl => injection hx with hx; injection hl with hl; subst hx; subst hl; exact row18.le ((l22.trans l26).trans l28)
    | 1, hx, hl => injection hx with hx; injection hl with hl; subst hx; subst hl; exact row22.le (l26.trans l28)
    | 2, hx, hl => injection hx with hx; injection hl with hl; subst hx; subst hl; exact row26.le l28
    | i + 3, hx, hl => simp at hx⟩
  refine vsort_ok rows (Heap.le.refl _) (by simp) (fun l hl => ?_) fun t G A2 hS => ?_
  · simp only [List.mem_cons, List.not_mem_nil, or_false] at hl
    rcases hl with rfl | rfl | rfl
    · exact ⟨⟨vB, trivial⟩, by simp, by simp [vsizes, vsize, exB]⟩
    · exact ⟨⟨vA, trivial⟩, by simp, by simp [vsizes, vsize, exA]⟩
    · exact ⟨⟨vB, trivial⟩, by simp, by simp [vsizes, vsize, exB]⟩
  have hrows := hS.rows
  have hA2 := ex_sorted hS.rep
  have eA2 : A2.map (fun e => e.2.1) = [[exA], [exB]] := by
    have := congrArg (List.map fun e : List V × Nat => e.1) hA2
    rw [List.map_map] at this
    exact this
  rw [eA2] at hrows
  have lG : H15.le G := (((l18.trans l22).trans l26).trans l28).trans hS.own.le
  have g1 := lG _ _ h1
  have g3 := lG _ _ h3
  have g13 := lG _ _ h13
  have iC := iC.le lG
  have lHG := l15.trans lG
  clear hS hA2 eA2 rows row18 row22 row26 row11
  have hlen := hrows.len
  refine bxV g13 (value_Check_ok iC vC ?_)
  rw [q1]
  refine ⟨fun b E => b = true ∧ G.le E, ift_pos rfl (bxV g1 (bxV g3 (pCmp_ok (iA _) (iB _) vA vB ⟨by rw [r1]; rfl, Heap.le.refl _⟩))), ?_⟩
  rintro _ E1 ⟨rfl, lE1⟩
  refine ⟨fun b E => b = true ∧ G.le E, ?_, ?_⟩
  · refine ift_pos rfl (bxV (lE1 _ _ g1) ?_)
    intro b53 n53
    have l53 := Heap.le_put n53 (g := .row (T_api_Value.c ⟨2, 3, [], Sl.nil⟩ ++ [])) (m := true)
    have row53 := lit_row (n := 1) (cap := 1) (vs := [exA]) (xs := [⟨2, 3, [], Sl.nil⟩]) (Heap.put_same E1 b53 (.row (T_api_Value.c ⟨2, 3, [], Sl.nil⟩ ++ [])) true) (by simp) rfl ⟨iA _, trivial⟩
    refine bxV (l53 _ _ (lE1 _ _ g1)) (bxV (l53 _ _ (lE1 _ _ g3)) ?_)
    intro b59 n59
    have l59 := Heap.le_put n59 (g := .row (T_api_Value.c ⟨2, 3, [], Sl.nil⟩ ++ T_api_Value.c ⟨3, 0, [49, 48], Sl.nil⟩ ++ [])) (m := true)
    refine pCmpRows_ok (row53.le l59) (lit_row (vs := [exA, exB]) (xs := [⟨2, 3, [], Sl.nil⟩, ⟨3, 0, [49, 48], Sl.nil⟩]) (Heap.put_same ..) (by simp) rfl ⟨iA _, iB _, trivial⟩) (by simp) (by simp) ⟨vA, trivial⟩ ⟨vA, vB, trivial⟩ ⟨?_, lE1.trans (l53.trans l59)⟩
    rw [r2]; rfl
  rintro _ E ⟨rfl, lE⟩
  refine ⟨fun b F => b = true ∧ G.le F, ?_, ?_⟩
  · refine ift_pos rfl (bxV (lE _ _ g13) (Show_ok hF (iC.le lE) vC (fun _ => by rw [ex_show]; simp) fun H2 h2 => ⟨?_, lE.trans h2⟩))
    rw [if_pos mC, ex_show]; rfl
  rintro _ F ⟨rfl, lF⟩
  refine ⟨fun b D => b = true ∧ G.le D, ?_, ?_⟩
  · refine ift_pos (by rw [hlen]; rfl) (hrows.ld lF (i := 0) rfl (by simp) fun u hu => ⟨?_, lF⟩)
    rw [hu.len]; rfl
  rintro _ F2 ⟨rfl, lF2⟩
  refine ⟨fun b D => b = true ∧ G.le D, ?_, ?_⟩
  · refine ift_pos rfl (hrows.ld lF2 (i := 0) rfl (by simp) fun u hu => ?_)
    obtain ⟨xs, u1, u2, u3⟩ := hu
    match xs, u1, u2, u3 with
    | [y], u1, u2, u3 =>
      refine ixa_of (rdsl_le lF2 u1) (by omega) (by rw [u2]; exact Int.zero_lt_one) (by simp [T_api_Value.c]) fun p hp hr => ?_
      have hy := VIs_iff.1 u3.1
      refine ⟨y.N, ?_, by rw [hy.2.1]; exact ⟨rfl, lF2⟩⟩
      have := rds_get hr 1 (.int .i64 y.N) (by simp [T_api_Value.c])
      exact this
  rintro _ F3 ⟨rfl, lF3⟩
  refine ⟨fun b D => b = true ∧ G.le D, ?_, ?_⟩
  · refine ift_pos rfl (value_Check_ok (v := .mk 0 0 [] []) ⟨rfl, rfl, rfl, [], .inl rfl, rfl, trivial⟩ (by simp [VB, VBs]) ⟨?_, lF3⟩)
    rw [q2]; rfl
  rintro _ F4 ⟨rfl, lF4⟩
  exact k _ (lHG.trans lF4)
end
end Sx
end

noncomputable section
set_option linter.unusedVariables false
set_option linter.unusedSimpArgs false
namespace Sx
open Go Go.Proofs
section
variable {C : Ctx} {H : Heap}
theorem Own_ok {A : Heap} {l : List V} {t : Sl} {H : Heap} {K : Sl → Heap → Prop} (hv : VRow A t l) (hle : A.le H) (hz : vsizes l ≤ 1000000) (k : ∀ t2 H2, Made H H2 l t2 → K t2 H2) : c_ref02_Own C t K H := by
  have main : ∀ v : V, ∀ (A : Heap) (t : Sl) (H : Heap) (K : Sl → Heap → Prop), VRow A t v.l → A.le H → vsizes v.l ≤ 1000000 → (∀ t2 H2, Made H H2 v.l t2 → K t2 H2) → c_ref02_Own C t K H := by
    refine fun v => V.rec_ (P := fun v => ∀ (A : Heap) (t : Sl) (H : Heap) (K : Sl → Heap → Prop), VRow A t v.l → A.le H → vsizes v.l ≤ 1000000 → (∀ t2 H2, Made H H2 v.l t2 → K t2 H2) → c_ref02_Own C t K H) (fun v ih => ?_) v
    intro A t H K hv hle hz k
    apply ad_ref02_Own
    unfold sh_ref02_Own
    have hl := hv.len
    have hll := vsizes_len v.l
    refine ⟨fun x D => ∃ (s : Sl) (ys : List TV), x = (s, (ys.length : Int)) ∧ Od H D v.l s ys, fun x _ => v.l.length - x.2.toNat,
      ⟨Sl.nil, [], rfl, Od.nil⟩, ?_⟩
    rintro _ D ⟨s, ys, rfl, ho⟩
    rw [hl]
    refine ift.of (fun h => ?_) (fun h => ?_)
    · have hlt : ys.length < v.l.length := by have := of_decide_eq_true h; dsimp only at this; omega
      have hleD := hle.trans ho.own.le
      refine hv.ld hleD rfl hlt fun x hx => ?_
      have hmem := List.getElem_mem hlt
      have hsz := vsize_mem hmem
      have hszl : vsize v.l[ys.length] = vsizes v.l[ys.length].l + 1 := by cases v.l[ys.length]; rfl
      have hxi := VIs_iff.1 hx
      intro b12 n12
      refine ⟨_, Heap.put_same .., by simp [T_api_Value.c], ?_⟩
      rw [Heap.put_put]
      have hc : splice (T_api_Value.c T_api_Value.zero) (b12, 0).2 (T_api_Value.c x) = T_api_Value.c x := rfl
      rw [hc]
      show ldL (D.put b12 (.row (T_api_Value.c x))) _ _
      refine ⟨x.L, by rw [rd_same]; rfl, ?_⟩
      refine ih _ hmem A _ _ _ hxi.2.2.2 (hleD.trans (Heap.le_put n12)) (by omega) fun t2 H2 hm => ?_
      refine ⟨_, hm.le _ _ (Heap.put_same ..), by show 0 + 3 < 4; omega, ?_⟩
      show ldT (H2.put b12 (.row ((T_api_Value.c x).set (0 + 3) (slv t2)))) T_api_Value.c (b12, 0) _
      have hc2 : (T_api_Value.c x).set (0 + 3) (slv t2) = T_api_Value.c { x with L := t2 } := rfl
      rw [hc2]
      refine ⟨{ x with L := t2 }, rds_row (Heap.put_same ..) fun j v hj => by simpa using hj, ?_⟩
      have hown : Own (H2.put b12 (.row (T_api_Value.c { x with L := t2 }))) 4 s (ys.flatMap T_api_Value.c) := by
        obtain ⟨q1, q2, q3, q4⟩ := ho.own.own
        refine ⟨q1, q2, q3, q4.imp id fun ⟨b, sp, p1, p2, p3⟩ => ⟨b, sp, p1, ?_, p3⟩⟩
        have hne : b ≠ b12 := fun e => by rw [e, n12] at p2; cases p2
        rw [Heap.put_ne _ _ _ hne]
        exact hm.le _ _ (by rw [Heap.put_ne _ _ _ hne]; exact p2)
      have hf := flat4 ys
      have hsl : s.len = ys.length := by have := ho.own.own.1; omega
      refine apd_ownF (zc := T_api_Value.c T_api_Value.zero) hown.off rfl (by dsimp only; omega) (by dsimp only; omega) fun r H3 h4 hr => ?_
      rw [w_i64 (by omega) (by omega)]
      have hs := ho.step n12 hlt hm (x := { x with L := t2 }) ⟨hxi.1, hxi.2.1, hxi.2.2.1⟩ rfl (fun z e hz he => by rw [Heap.put_ne _ _ _ hz]; exact he) h4
      refine ⟨⟨r, ys ++ [{ x with L := t2 }], ?_, hs⟩, by first | omega | (dsimp only; omega)⟩
      rw [List.length_append, List.length_singleton]; rfl
    · have hn : ys.length = v.l.length := by
        have := of_decide_eq_false h; dsimp only at this
        have := ho.le
        omega
      exact k _ _ (ho.fin hn (by omega))
  exact main (.mk 0 0 [] l) A t H K hv hle hz k
/-- what writes over: all that is not N's stays, and what may be written over may still be -/
theorem spoil_ok {N : Nat → Prop} {k : Nat} {t : Sl} {H : Heap} {K : Heap → Prop} (h : Sp N H k t)
    (hk : ∀ H2, (∀ c, ¬ N c → H2 c = H c) → (∀ k t, Sp N H k t → Sp N H2 k t) → K H2) : c_law02_spoil C t K H := by
  have nil : ∀ {t : Sl} {H : Heap} {K : Heap → Prop}, t.len = 0 → K H → c_law02_spoil C t K H := by
    intro t H K h0 hk
    apply ad_law02_spoil
    unfold sh_law02_spoil
    rw [h0]
    refine ⟨fun x D => x = 0 ∧ D = H, fun _ _ => 0, ⟨rfl, rfl⟩, ?_⟩
    rintro _ _ ⟨rfl, rfl⟩
    exact ift_neg rfl hk
  induction k generalizing t H K with
  | zero => exact nil h (hk H (fun _ _ => rfl) fun _ _ h => h)
  | succ k ih =>
    by_cases h0 : t.len = 0
    · exact nil h0 (hk H (fun _ _ => rfl) fun _ _ h => h)
    have cells : ∀ {D : Heap}, Sp N D (k + 1) t → ∃ (b : Nat) (xs : List TV) (sp : List Value), N b ∧ t.p = some (b, 0) ∧ t.x = none ∧ D b = some (true, .row (xs.flatMap T_api_Value.c ++ sp)) ∧ (t.len ≤ xs.length ∧ xs.length ≤ 1000000) ∧ ∀ x ∈ xs, Sp N D k x.L := fun h => h.elim (fun h => absurd h h0) id
    have hlen : t.len ≤ 1000000 := by obtain ⟨b, xs, sp, _, _, _, _, h5, _⟩ := cells h; omega
    apply ad_law02_spoil
    unfold sh_law02_spoil
    refine ⟨fun x D => ∃ i : Nat, x = (i : Int) ∧ i ≤ t.len ∧ (∀ c, ¬ N c → D c = H c) ∧ ∀ k t, Sp N H k t → Sp N D k t, fun x _ => t.len - x.toNat, ⟨0, rfl, Nat.zero_le _, fun _ _ => rfl, fun _ _ h => h⟩, ?_⟩
    rintro _ D ⟨i, rfl, hi, hD, hS⟩
    refine ift.of (fun hlt => ?_) (fun hlt => hk D hD hS)
    have hlt : i < t.len := by have := of_decide_eq_true hlt; omega
    obtain ⟨b, xs, sp, h1, h2, h3, h4, h5, h6⟩ := cells (hS _ _ h)
    have hix : i < xs.length := by omega
    have e0 : 0 + ((i : Int).toNat) * 4 + 3 = i * 4 + 3 := by omega
    have hf := flat4 xs
    refine ⟨(b, 0), h2, h3, by omega, by omega, xs[i].L, ?_, ?_⟩
    · show rd _ (b, 0 + ((i : Int).toNat) * 4 + 3) = _
      rw [e0]
      simp only [rd, h4, GO.cells?]
      show (List.flatMap T_api_Value.c xs ++ sp)[i * 4 + 3]? = _
      rw [List.getElem?_append_left (by omega)]
      exact flat_get T_api_Value.c 4 TV.c_len xs i _ (List.getElem?_eq_getElem hix) 3 _ rfl
    refine ih (h6 _ (List.getElem_mem hix)) fun D2 hD2 hS2 => ?_
    obtain ⟨b', xs2, sp2, g1, g2, g3, g4, g5, g6⟩ := cells (hS2 _ _ (hS _ _ h))
    have hb : b' = b := by rw [h2] at g2; injection g2 with g2; injection g2 with g2; exact g2.symm
    subst hb
    have hf2 := flat4 xs2
    have e1 : 0 + ((i : Int).toNat) * 4 = i * 4 := by omega
    refine ⟨(b', 0), h2, h3, by omega, by omega, _, g4, ?_, ?_⟩
    · show 0 + ((i : Int).toNat) * 4 + (T_api_Value.c _).length ≤ _
      rw [e1, TV.c_len, List.length_append, hf2]; omega
    rw [w_i64 (by omega) (by omega)]
    refine ⟨⟨i + 1, by omega, by omega, fun c hc => ?_, fun k t hs => ?_⟩, by first | omega | (dsimp only; omega)⟩
    · have hne : c ≠ b' := fun e => hc (e ▸ g1)
      rw [Heap.put_ne _ _ _ hne, hD2 c hc, hD c hc]
    · show Sp N (D2.put b' (.row (splice _ (0 + ((i : Int).toNat) * 4) _))) k t
      rw [e1]
      exact Sp.put g4 rfl (hS2 _ _ (hS _ _ hs))
end
end Sx
end

noncomputable section
set_option linter.unusedVariables false
set_option linter.unusedSimpArgs false
namespace Sx
open Go Go.Proofs
section
variable {α : Type} {κ : α → α → Int}
theorem mrg_mem : ∀ (n : Nat) (A B : List α), A.length + B.length ≤ n → ∀ x ∈ mrg κ A B, x ∈ A ∨ x ∈ B
  | n, [], B, _, x, hx => .inr (by simpa [mrg] using hx)
  | n, a :: A, [], _, x, hx => .inl (by simpa [mrg] using hx)
  | 0, a :: A, b :: B, h, x, hx => by simp at h
  | n + 1, a :: A, b :: B, h, x, hx => by
    simp only [List.length_cons] at h
    have i1 := mrg_mem n A (b :: B) (by simp only [List.length_cons]; omega) x
    have i2 := mrg_mem n A B (by omega) x
    have i3 := mrg_mem n (a :: A) B (by simp only [List.length_cons]; omega) x
    rw [mrg] at hx
    split at hx
    · rcases List.mem_cons.1 hx with rfl | hx
      · exact .inl (List.mem_cons_self ..)
      · exact (i1 hx).imp (List.mem_cons_of_mem _) id
    · split at hx
      · rcases List.mem_cons.1 hx with rfl | hx
        · exact .inl (List.mem_cons_self ..)
        · exact (i2 hx).imp (List.mem_cons_of_mem _) (List.mem_cons_of_mem _)
      · rcases List.mem_cons.1 hx with rfl | hx
        · exact .inr (List.mem_cons_self ..)
        · exact (i3 hx).imp id (List.mem_cons_of_mem _)
theorem msort_mem : ∀ (n : Nat) (L : List α), ∀ x ∈ msort κ n L, x ∈ L
  | 0, L, x, hx => by simp [msort] at hx
  | n + 1, L, x, hx => by
    rw [msort] at hx
    split at hx
    · exact hx
    · rcases mrg_mem _ _ _ (Nat.le_refl _) x hx with h | h
      · exact mem_take (msort_mem n _ x h)
      · exact mem_drop (msort_mem n _ x h)
end
section
variable {C : Ctx} {H : Heap}
theorem VRows.slice {A : Heap} {s : Sl} {ls : List (List V)} {lo hi : Nat} {a b : Int} {K : Sl → Prop} (h : VRows A s ls) (hc : s.len ≤ s.cap) (ha : a = (lo : Int)) (hb : b = (hi : Int)) (h1 : lo ≤ hi) (h2 : hi ≤ ls.length)
    (k : ∀ t : Sl, t.len ≤ t.cap → t.cap ≤ s.cap → VRows A t ((ls.drop lo).take (hi - lo)) → K t) : slL s a b (s.cap : Int) 1 K := by
  have hl := h.len
  obtain ⟨xs, r1, r2, r3, r4⟩ := h
  subst ha; subst hb
  refine ⟨by omega, by omega, by omega, by omega, _, rfl, k _ (by dsimp only; omega) (by dsimp only; omega) ⟨(xs.drop lo).take (hi - lo), ?_, ?_, ?_, fun i x l hx hl => ?_⟩⟩
  · have := rdsl_slice r1 (lo := (lo : Int)) (hi := (hi : Int)) (mx := (s.cap : Int)) (z := 1) (by omega) (by omega) (by omega) (by simp; omega)
    have e1 : (lo : Int).toNat * 1 = lo := by omega
    have e2 : ((hi : Int) - (lo : Int)).toNat * 1 = hi - lo := by omega
    rw [e1, e2] at this
    rw [e1, List.map_take, List.map_drop]
    exact this
  · dsimp only
    rw [List.length_take, List.length_drop]; omega
  · rw [List.length_take, List.length_drop, List.length_take, List.length_drop]; omega
  · rw [List.getElem?_take] at hx hl
    split at hx
    · rename_i hlt
      rw [if_pos hlt] at hl
      rw [List.getElem?_drop] at hx hl
      exact r4 _ x l hx hl
    · cases hx
/-- rows that are told again, in a list that grows -/
def Gl (H B : Heap) (s : Sl) (ls : List (List V)) : Prop := ∃ ys : List Sl, OwnF H B 1 s (ys.map slv) ∧ ys.length = ls.length ∧ ∀ (i : Nat) (x : Sl) (l : List V), ys[i]? = some x → ls[i]? = some l → VRow H x l
theorem Gl.nil : Gl H H Sl.nil [] := ⟨[], OwnF.nil H 1, rfl, fun i x l hx => by simp at hx⟩
theorem Gl.le {B : Heap} {s : Sl} {ls : List (List V)} (h : Gl H B s ls) : H.le B := by obtain ⟨ys, h1, _⟩ := h; exact h1.le
theorem Gl.rows {B : Heap} {s : Sl} {ls : List (List V)} (h : Gl H B s ls) : VRows B s ls := by
  obtain ⟨ys, h1, h2, h3⟩ := h
  exact ⟨ys, h1.own.rdsl, by have := h1.own.1; simp at this; omega, h2, fun i x l hx hl => (h3 i x l hx hl).le h1.le⟩
theorem Gl.add {B : Heap} {s x : Sl} {ls : List (List V)} {l : List V} {K : Sl → Heap → Prop} (h : Gl H B s ls) (hx : VRow H x l) (hn : ls.length ≤ 1000000) (k : ∀ r B2, Gl H B2 r (ls ++ [l]) → K r B2) : apd [slv Sl.nil] 24 s [slv x] 1 K B := by
  obtain ⟨ys, h1, h2, h3⟩ := h
  have hsl : s.len = ys.length := by have := h1.own.1; simp at this; omega
  refine apd_ownF (zc := [slv Sl.nil]) h1 rfl (by omega) (by omega) fun r B2 h4 hr => k r B2 ⟨ys ++ [x], ?_, by simp [h2], fun i y m hy hm => ?_⟩
  · rw [List.map_append]; exact h4
  · by_cases hi : i < ys.length
    · rw [List.getElem?_append_left hi] at hy
      rw [List.getElem?_append_left (by omega)] at hm
      exact h3 i y m hy hm
    · rw [List.getElem?_append_right (by omega)] at hy hm
      have hlt := (List.getElem?_eq_some_iff.1 hy).1
      simp only [List.length_singleton] at hlt
      have e1 : i - ys.length = 0 := by omega
      have e2 : i - ls.length = 0 := by omega
      rw [e1] at hy; rw [e2] at hm
      simp only [List.getElem?_cons_zero, Option.some.injEq] at hy hm
      subst hy; subst hm; exact hx
theorem half_w {n : Nat} (h : n ≤ 1000000) : w .i64 (Int.tdiv (n : Int) 2) = ((n / 2 : Nat) : Int) := by
  have e : Int.tdiv (n : Int) 2 = ((n / 2 : Nat) : Int) := by
    rw [Int.tdiv_eq_ediv_of_nonneg (by omega)]; omega
  rw [e, w_i64 (by omega) (by omega)]
theorem ref02_Sort_ok : ∀ (n : Nat) {A H : Heap} {ls : List (List V)} {s : Sl} {K : Sl → Heap → Prop}, ls.length ≤ n → n ≤ 1000 → VRows A s ls → s.len ≤ s.cap → A.le H → (∀ l ∈ ls, VBs l ∧ l.length ≤ 140737488355328 ∧ vsizes l ≤ 1000000) →
    (∀ t H2, H.le H2 → VRows H2 t (msort cmpR n ls) → K t H2) → c_ref02_Sort C s K H
  | n, A, H, ls, s, K, hl, hn, hv, hc, hle, hb, k => by
    apply ad_ref02_Sort
    unfold sh_ref02_Sort
    have hlen := hv.len
    refine ift.of (fun h => ?_) (fun h => ?_)
    · have h0 : ls = [] := List.length_eq_zero_iff.1 (by simp only [beq_iff_eq] at h; omega)
      subst h0
      have e : msort cmpR n [] = ([] : List (List V)) := List.length_eq_zero_iff.1 (by have := msort_len (κ := cmpR) n []; simpa using this)
      refine k _ _ (Heap.le.refl _) ?_
      rw [e]
      exact ⟨[], .inl rfl, rfl, rfl, fun i x l hx => by simp at hx⟩
    have h0 : ls.length ≠ 0 := by simp only [beq_eq_false_iff_ne] at h; omega
    match n, hl, hn, k with
    | 0, hl, _, _ => exact absurd hl (by omega)
    | n + 1, hl, hn, k =>
    refine ift.of (fun h1 => ?_) (fun h1 => ?_)
    · have h1 : ls.length = 1 := by simp only [beq_iff_eq] at h1; omega
      obtain ⟨l, rfl⟩ := List.length_eq_one_iff.1 h1
      refine hv.ld hle (i := 0) rfl (by simp) fun x hx => Own_ok hx hle (hb _ (List.mem_cons_self ..)).2.2 fun t2 H2 hm => ?_
      intro b12 n12
      have hle2 := Heap.le_put n12 (g := .row [slv t2]) (m := true)
      refine k _ _ (hm.le.trans hle2) ?_
      have e : msort cmpR (n + 1) [l] = [l] := by rw [msort, if_pos (by simp)]
      rw [e]
      refine ⟨[t2], .inr ⟨rfl, _, rfl, rds_row (Heap.put_same ..) fun j v hj => by simpa using hj⟩, rfl, rfl, fun i x' l' hx' hl' => ?_⟩
      have hi : i = 0 := by have := (List.getElem?_eq_some_iff.1 hx').1; simpa using this
      subst hi
      simp only [List.getElem?_cons_zero, Option.some.injEq] at hx' hl'
      subst hx'; subst hl'
      exact hm.row2.le hle2
    have h1 : ¬ ls.length ≤ 1 := by simp only [beq_eq_false_iff_ne] at h1; omega
    have hms : msort cmpR (n + 1) ls = mrg cmpR (msort cmpR n (ls.take (ls.length / 2))) (msort cmpR n (ls.drop (ls.length / 2))) := by rw [msort, if_neg h1]
    rw [hms] at k
    rw [hlen, half_w (by omega)]
    refine ⟨H, Heap.le.refl _, ?_⟩
    refine hv.slice hc (lo := 0) (hi := ls.length / 2) rfl rfl (Nat.zero_le _) (by omega) fun t16 c16 _ v16 => ?_
    refine hv.slice hc (lo := ls.length / 2) (hi := ls.length) rfl rfl (by omega) (by omega) fun t22 c22 _ v22 => ?_
    rw [List.drop_zero, Nat.sub_zero] at v16
    have e22 : (ls.drop (ls.length / 2)).take (ls.length - ls.length / 2) = ls.drop (ls.length / 2) := List.take_of_length_le (by rw [List.length_drop]; omega)
    rw [e22] at v22
    refine ref02_Sort_ok n (by rw [List.length_take]; omega) (by omega) v16 c16 hle (fun l hl => hb l (mem_take hl)) fun ta Ha hHa va => ⟨hHa, ?_⟩
    refine ref02_Sort_ok n (by rw [List.length_drop]; omega) (by omega) v22 c22 (hle.trans hHa) (fun l hl => hb l (mem_drop hl)) fun tb Hb hHb vb => ⟨hHa.trans hHb, ?_⟩
    have va' := va.le hHb
    have ma : ∀ l ∈ msort cmpR n (ls.take (ls.length / 2)), VBs l ∧ l.length ≤ 140737488355328 ∧ vsizes l ≤ 1000000 := fun l hl => hb l (mem_take (msort_mem n _ l hl))
    have mb : ∀ l ∈ msort cmpR n (ls.drop (ls.length / 2)), VBs l ∧ l.length ≤ 140737488355328 ∧ vsizes l ≤ 1000000 := fun l hl => hb l (mem_drop (msort_mem n _ l hl))
    have la := msort_len (κ := cmpR) n (ls.take (ls.length / 2))
    have lb := msort_len (κ := cmpR) n (ls.drop (ls.length / 2))
    rw [List.length_take] at la
    rw [List.length_drop] at lb
    generalize msort cmpR n (ls.take (ls.length / 2)) = a at *
    generalize msort cmpR n (ls.drop (ls.length / 2)) = b at *
    rw [va'.len, vb.len]
    refine ⟨fun x D => ∃ (i q : Nat) (o : Sl) (P : List (List V)), x = (o, (i : Int), (q : Int)) ∧ i ≤ a.length ∧ q ≤ b.length ∧ Gl Hb D o P ∧ P.length ≤ i + q ∧ P ++ mrg cmpR (a.drop i) (b.drop q) = mrg cmpR a b, fun x _ => (a.length - x.2.1.toNat) + (b.length - x.2.2.toNat),
      ⟨0, 0, Sl.nil, [], rfl, Nat.zero_le _, Nat.zero_le _, Gl.nil, Nat.zero_le _, rfl⟩, ?_⟩
    rintro _ D ⟨i, q, o, P, rfl, hi, hq, hg, hP, hmr⟩
    refine ift.of (fun h2 => ?_) (fun h2 => ?_)
    · simp only [Bool.or_eq_true, decide_eq_true_eq] at h2
      refine ⟨fun c E => E = D ∧ ((c < 0 ∧ ∃ h : i < a.length, mrg cmpR (a.drop i) (b.drop q) = a[i] :: mrg cmpR (a.drop (i + 1)) (b.drop q)) ∨
        (c = 0 ∧ ∃ h : i < a.length, q < b.length ∧ mrg cmpR (a.drop i) (b.drop q) = a[i] :: mrg cmpR (a.drop (i + 1)) (b.drop (q + 1))) ∨
        (c > 0 ∧ ∃ h : q < b.length, mrg cmpR (a.drop i) (b.drop q) = b[q] :: mrg cmpR (a.drop i) (b.drop (q + 1)))), ?_, ?_⟩
      · refine ift.of (fun h3 => ⟨rfl, .inr (.inr ⟨by decide, ?_⟩)⟩) (fun h3 => ?_)
        · have hia : i = a.length := by simp only [beq_iff_eq] at h3; omega
          have hqb : q < b.length := by omega
          refine ⟨hqb, ?_⟩
          rw [hia, List.drop_length, List.drop_eq_getElem_cons hqb]
          simp only [mrg]
        have hia : i < a.length := by simp only [beq_eq_false_iff_ne] at h3; omega
        refine ift.of (fun h4 => ?_) (fun h4 => ⟨rfl, .inl ⟨by decide, hia, ?_⟩⟩)
        · have hqb : q < b.length := by have := of_decide_eq_true h4; dsimp only at this; omega
          refine ⟨D, Heap.le.refl _, ?_⟩
          have m1 := ma _ (List.getElem_mem hia)
          have m2 := mb _ (List.getElem_mem hqb)
          refine va'.ld hg.le rfl hia fun x hx => vb.ld hg.le rfl hqb fun y hy => ref02_CmpRows_ok (hx.le hg.le) (hy.le hg.le) m1.2.1 m2.2.1 m1.1 m2.1 (fun v hv => by have := vsize_mem hv; omega) (fun v hv => by have := vsize_mem hv; omega) ⟨Heap.le.refl _, rfl, ?_⟩
          have em : mrg cmpR (a.drop i) (b.drop q) = if cmpR a[i] b[q] < 0 then a[i] :: mrg cmpR (a.drop (i + 1)) (b.drop q) else if cmpR a[i] b[q] = 0 then a[i] :: mrg cmpR (a.drop (i + 1)) (b.drop (q + 1)) else b[q] :: mrg cmpR (a.drop i) (b.drop (q + 1)) := by
            rw [List.drop_eq_getElem_cons hia, List.drop_eq_getElem_cons hqb, mrg]
          by_cases c1 : cmpR a[i] b[q] < 0
          · rw [if_pos c1] at em
            exact .inl ⟨c1, hia, em⟩
          · rw [if_neg c1] at em
            by_cases c2 : cmpR a[i] b[q] = 0
            · rw [if_pos c2] at em
              exact .inr (.inl ⟨c2, hia, hqb, em⟩)
            · rw [if_neg c2] at em
              exact .inr (.inr ⟨by omega, hqb, em⟩)
        · have hqb : q = b.length := by have := of_decide_eq_false h4; dsimp only at this; omega
          rw [hqb, List.drop_length, mrg_nil, mrg_nil, List.drop_eq_getElem_cons hia]
      rintro c _ ⟨rfl, hcase⟩
      refine ⟨fun x E => ∃ (o2 : Sl) (i2 : Nat) (l : List V), x = (o2, (i2 : Int)) ∧ Gl Hb E o2 (P ++ [l]) ∧ i2 ≤ a.length ∧ ((c < 0 ∧ i2 = i + 1 ∧ mrg cmpR (a.drop i) (b.drop q) = l :: mrg cmpR (a.drop i2) (b.drop q)) ∨
        (0 ≤ c ∧ q < b.length ∧ i ≤ i2 ∧ i2 ≤ i + 1 ∧ mrg cmpR (a.drop i) (b.drop q) = l :: mrg cmpR (a.drop i2) (b.drop (q + 1)))), ?_, ?_⟩
      · refine ift.of (fun h3 => ?_) (fun h3 => ?_)
        · have h3 := of_decide_eq_true h3
          have hia : i < a.length := by rcases hcase with ⟨_, h, _⟩ | ⟨_, h, _⟩ | ⟨h, _⟩ <;> first | exact h | omega
          refine va'.ld hg.le rfl hia fun x hx => hg.add hx (by omega) fun r B2 hB2 => ?_
          rw [w_i64 (by dsimp only; omega) (by dsimp only; omega)]
          refine ⟨r, i + 1, a[i], rfl, hB2, hia, ?_⟩
          rcases hcase with ⟨h, _, e⟩ | ⟨h, _, h5, e⟩ | ⟨h, _⟩
          · exact .inl ⟨h, rfl, e⟩
          · exact .inr ⟨by omega, h5, by omega, by omega, e⟩
          · omega
        · have h3 := of_decide_eq_false h3
          obtain ⟨hqb, e⟩ : ∃ h : q < b.length, mrg cmpR (a.drop i) (b.drop q) = b[q] :: mrg cmpR (a.drop i) (b.drop (q + 1)) := by
            rcases hcase with ⟨h, _⟩ | ⟨h, _⟩ | ⟨_, h⟩
            · omega
            · omega
            · exact h
          refine vb.ld hg.le rfl hqb fun x hx => hg.add hx (by omega) fun r B2 hB2 => ?_
          exact ⟨r, i, b[q], rfl, hB2, hi, .inr ⟨by omega, hqb, by omega, by omega, e⟩⟩
      rintro _ E ⟨o2, i2, l, rfl, hg2, hi2, hc2⟩
      refine ift.of (fun h3 => ?_) (fun h3 => ?_)
      · have h3 := of_decide_eq_true h3
        rcases hc2 with ⟨h, _⟩ | ⟨_, hqb, hii, hij, e⟩
        · omega
        rw [w_i64 (by dsimp only; omega) (by dsimp only; omega)]
        refine ⟨⟨i2, q + 1, o2, P ++ [l], rfl, hi2, by omega, hg2, by rw [List.length_append, List.length_singleton]; omega, ?_⟩, by first | omega | (dsimp only; omega)⟩
        rw [List.append_assoc, ← hmr, e]; rfl
      · have h3 := of_decide_eq_false h3
        rcases hc2 with ⟨h, rfl, e⟩ | ⟨h, _⟩
        · refine ⟨⟨i + 1, q, o2, P ++ [l], rfl, hi2, hq, hg2, by rw [List.length_append, List.length_singleton]; omega, ?_⟩, by first | omega | (dsimp only; omega)⟩
          rw [List.append_assoc, ← hmr, e]; rfl
        · omega
    · simp only [Bool.or_eq_false_iff, decide_eq_false_iff_not] at h2
      have hia : i = a.length := by omega
      have hqb : q = b.length := by omega
      rw [hia, hqb, List.drop_length, List.drop_length] at hmr
      simp only [mrg, List.append_nil] at hmr
      rw [← hmr] at k
      exact k _ _ ((hHa.trans hHb).trans hg.le) hg.rows
theorem SameRows_eq {A B : Heap} {ls : List (List V)} {s t : Sl} {K : Bool → Heap → Prop} (hs : VRows A s ls) (ht : VRows B t ls) (hA : A.le H) (hB : B.le H) (hn : ls.length ≤ 140737488355328) (hb : ∀ l ∈ ls, VBs l ∧ l.length ≤ 140737488355328) (k : K true H) : c_ref02_SameRows C s t K H := by
  apply ad_ref02_SameRows
  unfold sh_ref02_SameRows
  rw [hs.len, ht.len]
  refine ift_neg (by simp) ?_
  refine ⟨fun x D => D = H ∧ ∃ i : Nat, x = (i : Int) ∧ i ≤ ls.length, fun x _ => ls.length - x.toNat, ⟨rfl, 0, rfl, Nat.zero_le _⟩, ?_⟩
  rintro _ D ⟨rfl, i, rfl, hi⟩
  refine ift.of (fun h => ?_) (fun h => k)
  have hlt : i < ls.length := by have := of_decide_eq_true h; omega
  have hm := hb _ (List.getElem_mem hlt)
  refine ⟨_, Heap.le.refl _, hs.ld hA rfl hlt fun x hx => ht.ld hB rfl hlt fun y hy => SameRow_ok (hx.le hA) (hy.le hB) hm.2 hm.1 ⟨Heap.le.refl _, ?_⟩⟩
  rw [sameVs_iff.2 rfl]
  refine ift_neg rfl ?_
  rw [w_i64 (by omega) (by omega)]
  exact ⟨⟨rfl, i + 1, by omega, by omega⟩, by first | omega | (dsimp only; omega)⟩
theorem sorted_eq {H2 : Heap} {ls : List (List V)} {t : Sl} {A : List (Sl × (List V × Nat))} (h : Srt H H2 ls t A) (n : Nat) (hn : ls.length ≤ n) : A.map (fun e => e.2.1) = msort cmpR n ls := by
  have L : Lin (fun a b : List V × Nat => cmpR a.1 b.1) fun _ => True := Lin.row.comp fun e : List V × Nat => e.1
  have h1 := msort_rep (ι := fun a : List V × Nat => a.2) L n ls.zipIdx (by rw [List.length_zipIdx]; exact hn) (fun _ _ => trivial) (zipIdx_asc ls)
  have h2 := Rep.uniq L (fun _ _ => trivial) h.rep h1
  have h3 := congrArg (fun l => l.map fun e : List V × Nat => e.1) h2
  simp only [List.map_map] at h3
  rw [msort_map (κ' := cmpR) (f := fun e : List V × Nat => e.1) (fun _ _ => rfl)] at h3
  rw [List.zipIdx_map_fst] at h3
  exact h3
end
end Sx
end

noncomputable section
set_option linter.unusedVariables false
set_option linter.unusedSimpArgs false
namespace Sx
open Go Go.Proofs
theorem vsizes_take {l : List V} {i : Nat} (h : i < l.length) : vsizes (l.take (i + 1)) = vsizes (l.take i) + vsize l[i] := by
  have e : ∀ a b : List V, vsizes (a ++ b) = vsizes a + vsizes b := by
    intro a
    induction a with
    | nil => intro b; simp [vsizes]
    | cons v a ih => intro b; simp only [List.cons_append, vsizes, ih]; omega
  rw [List.take_add_one, List.getElem?_eq_getElem h, Option.toList_some, e]; simp [vsizes]
section
variable {C : Ctx} {H : Heap}
theorem div50 {n : Nat} (h : n ≤ 140737488355328) : w .i64 (1 + w .i64 (Int.tdiv (n : Int) 50)) = ((1 + n / 50 : Nat) : Int) := by
  have e : Int.tdiv (n : Int) 50 = ((n / 50 : Nat) : Int) := by
    rw [Int.tdiv_eq_ediv_of_nonneg (by omega)]; omega
  rw [e, w_i64 (x := ((n / 50 : Nat) : Int)) (by omega) (by omega), w_i64 (by omega) (by omega)]; omega
theorem weight_ok {v : V} {x : TV} {H : Heap} {m : Nat} {K : Int → Heap → Prop} (hv : VIs H v x) (hB : VB v) (h0 : 1 ≤ m) (hm : m ≤ 1000000) (k : ∀ r : Nat, 1 ≤ r → r ≤ 8796093022208 + m → (r < m → vsize v ≤ r) → K r H) : c_law02_weight C x m K H := by
  refine V.rec_ (P := fun v => ∀ {x H} {m : Nat} {K : Int → Heap → Prop}, VIs H v x → VB v → 1 ≤ m → m ≤ 1000000 → (∀ r : Nat, 1 ≤ r → r ≤ 8796093022208 + m → (r < m → vsize v ≤ r) → K r H) → c_law02_weight C x m K H) (fun v ih => ?_) v hv hB h0 hm k
  clear hv hB h0 hm k m
  intro x H m K hv hB h0 hm k
  apply c_law02_weight.gh
  apply ad_law02_weight
  unfold sh_law02_weight
  intro b1 n1
  have hr := hv.row
  have hl := hr.len
  have hbl := hB.l
  have hbs := hB.s
  have hsz : vsize v = vsizes v.l + 1 := by obtain ⟨k, n, s, l⟩ := v; rfl
  have hb1 : (H.put b1 (.row (T_api_Value.c x))) b1 = some (true, .row (T_api_Value.c x)) := Heap.put_same ..
  have hle1 := Heap.le_put n1 (g := .row (T_api_Value.c x)) (m := true)
  generalize H.put b1 (.row (T_api_Value.c x)) = H1 at *
  refine bxS hb1 ?_
  rw [hv.txt, div50 hbs]
  have hd : v.s.length / 50 ≤ 2814749767107 := by omega
  refine ⟨fun y A => A = H1 ∧ ∃ i n : Nat, y = ((n : Int), (i : Int)) ∧ i ≤ v.l.length ∧ 1 ≤ n ∧ n ≤ 8796093022208 + m ∧ (n < m → 1 + vsizes (v.l.take i) ≤ n), fun y _ => v.l.length - y.2.toNat,
    ⟨rfl, 0, _, rfl, Nat.zero_le _, by omega, by omega, fun _ => by simp [vsizes]⟩, ?_⟩
  rintro _ A ⟨rfl, i, n, rfl, hi, hn1, hn2, hn3⟩
  refine bxL hb1 ?_
  rw [hl]
  refine ift.of (fun h => ?_) (fun h => ?_)
  · simp only [Bool.and_eq_true, decide_eq_true_eq] at h
    have hlt : i < v.l.length := by omega
    have hnm : n < m := by omega
    have hmem := List.getElem_mem hlt
    refine bxL hb1 ?_
    refine hr.ld hle1 rfl hlt fun y hy => ?_
    rw [w_i64 (x := (m : Int) - n) (by omega) (by omega), show (m : Int) - n = ((m - n : Nat) : Int) by omega]
    refine ih _ hmem (hy.le hle1) (hB.ls.mem hmem) (by omega) (by omega) fun r r1 r2 r3 => ?_
    rw [w_i64 (by omega) (by omega), w_i64 (by omega) (by omega)]
    refine ⟨⟨rfl, i + 1, n + r, by simp, by omega, by omega, by omega, fun hh => ?_⟩, by first | omega | (dsimp only; omega)⟩
    rw [vsizes_take hlt]
    have := r3 (by omega)
    have := hn3 hnm
    omega
  · refine ⟨H, Gh.le hle1, k n hn1 hn2 fun hh => ?_⟩
    have hie : i = v.l.length := by
      have hnm := hh
      simp only [Bool.and_eq_false_iff, decide_eq_false_iff_not] at h
      omega
    have := hn3 hh
    rw [hie, List.take_length] at this
    omega
theorem heavy_ok {l : List V} {s : Sl} {H : Heap} {K : Bool → Heap → Prop} (hs : VRow H s l) (hl : l.length ≤ 140737488355328) (hB : VBs l) (k : ∀ b : Bool, (b = false → vsizes l ≤ 600) → K b H) : c_law02_heavy C s K H := by
  apply ad_law02_heavy
  unfold sh_law02_heavy
  rw [hs.len]
  refine ⟨fun y A => A = H ∧ ∃ i n : Nat, y = ((n : Int), (i : Int)) ∧ i ≤ l.length ∧ n ≤ 8796093024000 ∧ (n < 600 → vsizes (l.take i) ≤ n), fun y _ => l.length - y.2.toNat,
    ⟨rfl, 0, 0, rfl, Nat.zero_le _, by omega, fun _ => by simp [vsizes]⟩, ?_⟩
  rintro _ A ⟨rfl, i, n, rfl, hi, hn2, hn3⟩
  refine ift.of (fun h => ?_) (fun h => ?_)
  · simp only [Bool.and_eq_true, decide_eq_true_eq] at h
    have hlt : i < l.length := by omega
    have hnm : n < 600 := by omega
    have hmem := List.getElem_mem hlt
    refine hs.ld (Heap.le.refl _) rfl hlt fun y hy => ?_
    refine weight_ok (m := 600) hy (hB.mem hmem) (by omega) (by omega) fun r r1 r2 r3 => ?_
    rw [w_i64 (by omega) (by omega), w_i64 (by omega) (by omega)]
    refine ⟨⟨rfl, i + 1, n + r, by simp, by omega, by omega, fun hh => ?_⟩, by first | omega | (dsimp only; omega)⟩
    rw [vsizes_take hlt]
    have := r3 (by omega)
    have := hn3 hnm
    omega
  · refine k _ fun hh => ?_
    have hn : ¬ ((n : Int) ≥ 600) := of_decide_eq_false hh
    have hie : i = l.length := by
      simp only [Bool.and_eq_false_iff, decide_eq_false_iff_not] at h
      omega
    have := hn3 (by omega)
    rw [hie, List.take_length] at this
    omega

end
end Sx
end

noncomputable section
set_option linter.unusedVariables false
set_option linter.unusedSimpArgs false
namespace Sx
open Go Go.Proofs
theorem Sp.alls {N : Nat → Prop} {H : Heap} {α : Type} {f : α → Sl} : ∀ {A : List α}, (∀ e ∈ A, ∃ k, Sp N H k (f e)) → ∃ k, ∀ e ∈ A, Sp N H k (f e)
  | [], _ => ⟨0, fun x hx => by cases hx⟩
  | y :: xs, h => by
    obtain ⟨k, hk⟩ := h y (List.mem_cons_self ..)
    obtain ⟨m, hm⟩ := Sp.alls (A := xs) fun x hx => h x (List.mem_cons_of_mem _ hx)
    refine ⟨max k m, fun x hx => ?_⟩
    rcases List.mem_cons.1 hx with rfl | hx
    · exact hk.up (Nat.le_max_left ..)
    · exact (hm x hx).up (Nat.le_max_right ..)
theorem Og.rows {H B : Heap} {ls : List (List V)} {s : Sl} {ys : List Sl} (h : Og H B ls s ys) (hn : ys.length = ls.length) : VRows B s ls :=
  ⟨ys, h.own.own.rdsl, by have := h.own.own.1; simp at this; omega, hn, fun i x l hx hl => ((h.done i l x hl hx).row2).le (Heap.off_le _ _)⟩
section
variable {C : Ctx} {H : Heap}
/-- what was sorted is written over: all that was there ahead stays -/
theorem over_ok {D H2 H3 : Heap} {ls : List (List V)} {t : Sl} {A : List (Sl × (List V × Nat))} {K : Heap → Prop} (hS : Srt D H2 ls t A) (h3 : H2.le H3) (hn : ls.length ≤ 1000) (k : ∀ E, D.le E → K E) :
    lp (α := Int) 0 H3 (fun x52 J53 H54 =>
      ift (decide ((x52 : Int) < (Sl.len t : Int)))
      (ixa t x52 fun p56 =>
        ldL H54 (p56.1, p56.2 + (x52 : Int).toNat * 1) fun x61 =>
        c_law02_spoil C x61 (fun H63 =>
        ixa t x52 fun p64 =>
        Sx.st (p64.1, p64.2 + (x52 : Int).toNat * 1) (slv Sl.nil) (fun H69 =>
        J53 (w .i64 (x52 + 1)) H69) H63) H54)
      (K H54)) := by
  have hlen : t.len = A.length := by have := hS.own.own.1; simp at this; omega
  have hA := hS.few
  rw [hlen]
  by_cases h0 : A.length = 0
  · rw [h0]
    refine ⟨fun x E => x = 0 ∧ E = H3, fun _ _ => 0, ⟨rfl, rfl⟩, ?_⟩
    rintro _ _ ⟨rfl, rfl⟩
    exact ift_neg rfl (k _ (hS.own.le.trans h3))
  obtain ⟨o1, o2, o3, o4⟩ := hS.own.own
  rcases o4 with ⟨p0, c0⟩ | ⟨b, sp, hp, hbk, hc⟩
  · omega
  have hbD : D b = none := hS.own.fresh _ hp
  let N : Nat → Prop := fun c => D c = none ∧ c ≠ b
  obtain ⟨m, hm⟩ : ∃ m, ∀ e ∈ A, Sp N H3 m e.1 := Sp.alls (f := fun e : Sl × (List V × Nat) => e.1) fun e he => by
    obtain ⟨m, hm⟩ := (hS.row e he).sp
    refine ⟨m, hm.to fun c g hc hg => ?_⟩
    have hne : c ≠ b := fun e' => by
      have := Heap.off_fresh t H2 _ hp
      simp only at this
      rw [e', this] at hg; cases hg
    exact ⟨⟨hc, hne⟩, h3 _ _ (Heap.off_le _ _ _ _ hg)⟩
  refine ⟨fun x E => ∃ (i : Nat) (cs : List Value), x = (i : Int) ∧ i ≤ A.length ∧ D.le E ∧ E b = some (true, .row (cs ++ sp)) ∧ cs.length = A.length ∧ (∀ j, i ≤ j → cs[j]? = (A[j]?).map fun e => slv e.1) ∧ ∀ e ∈ A, Sp N E m e.1, fun x _ => A.length - x.toNat,
    ⟨0, _, rfl, Nat.zero_le _, hS.own.le.trans h3, h3 _ _ hbk, by simp, fun j _ => by rw [List.getElem?_map], hm⟩, ?_⟩
  rintro _ E ⟨i, cs, rfl, hi, hDE, hE, hcl, hcs, hsp⟩
  refine ift.of (fun h => ?_) (fun h => k E hDE)
  have hlt : i < A.length := by have := of_decide_eq_true h; omega
  have e0 : 0 + (i : Int).toNat * 1 = i := by omega
  have hci : cs[i]? = some (slv A[i].1) := by rw [hcs i (Nat.le_refl _), List.getElem?_eq_getElem hlt]; rfl
  refine ⟨(b, 0), hp, o2, by omega, by omega, A[i].1, ?_, ?_⟩
  · show rd E (b, 0 + (i : Int).toNat * 1) = _
    rw [e0]
    simp only [rd, hE, GO.cells?]
    show (cs ++ sp)[i]? = _
    rw [List.getElem?_append_left (by omega)]; exact hci
  refine spoil_ok (hsp _ (List.getElem_mem hlt)) fun E2 hE2 hS2 => ?_
  have hb2 : E2 b = some (true, .row (cs ++ sp)) := by rw [hE2 b fun h => h.2 rfl]; exact hE
  refine ⟨(b, 0), hp, o2, by omega, by omega, _, hb2, ?_, ?_⟩
  · show 0 + (i : Int).toNat * 1 < _
    rw [e0, List.length_append]; omega
  rw [w_i64 (by omega) (by omega)]
  refine ⟨⟨i + 1, cs.set i (slv Sl.nil), by omega, by omega, fun c g hg => ?_, ?_, by rw [List.length_set]; exact hcl, fun j hj => ?_, fun e he => ?_⟩, by first | omega | (dsimp only; omega)⟩
  · have hne : c ≠ b := fun e' => by rw [e', hbD] at hg; cases hg
    rw [Heap.put_ne _ _ _ hne, hE2 c fun h => by rw [h.1] at hg; cases hg]
    exact hDE _ _ hg
  · show (E2.put b (.row ((cs ++ sp).set (0 + (i : Int).toNat * 1) _))) b = _
    rw [Heap.put_same, e0, List.set_append_left _ _ (by omega)]
  · rw [List.getElem?_set_ne (by omega)]; exact hcs j (by omega)
  · refine (hS2 _ _ (hsp e he)).to fun c g hc hg => ⟨hc, ?_⟩
    rw [Heap.put_ne _ _ _ hc.2]; exact hg
theorem ValueSorts_ok (hFm : FmtC C) {ls : List (List V)} {s : Sl} {K : Bool → Heap → Prop} (hv : VRows H s ls) (hb : ∀ l ∈ ls, VBs l ∧ l.length ≤ 140737488355328) (hn : ls.length ≤ 140737488355328) (hc : s.len ≤ s.cap) (k : ∀ H2, K true H2) : c_law02_ValueSorts C s K H := by
  apply ad_law02_ValueSorts
  unfold sh_law02_ValueSorts
  rw [hv.len]
  refine ⟨fun x D => D = H ∧ ∃ n i : Nat, x = ((n : Int), (i : Int)) ∧ i ≤ ls.length ∧ n ≤ 40 ∧ (n < 40 → n = i ∧ ∀ l ∈ ls.take i, vsizes l ≤ 600), fun x _ => ls.length - x.2.toNat, ⟨rfl, 0, 0, rfl, Nat.zero_le _, by omega, fun _ => ⟨rfl, fun l hl => by simp at hl⟩⟩, ?_⟩
  rintro _ D ⟨rfl, n, i, rfl, hi, hn40, hall⟩
  refine ift.of (fun h => ?_) (fun h => ?_)
  · simp only [Bool.and_eq_true, decide_eq_true_eq] at h
    have hlt : i < ls.length := by omega
    have hn2 : n < 40 := by omega
    have hm := hb _ (List.getElem_mem hlt)
    refine ⟨fun x E => E = D ∧ ∃ n2 : Nat, x = (n2 : Int) ∧ n2 ≤ 40 ∧ (n2 < 40 → n2 = n + 1 ∧ vsizes ls[i] ≤ 600), ?_, ?_⟩
    · refine hv.ld (Heap.le.refl _) rfl hlt fun x hx => heavy_ok hx hm.2 hm.1 fun b1 h1 => ?_
      refine ift.of (fun _ => ⟨rfl, 40, rfl, Nat.le_refl _, fun h => absurd h (by decide)⟩) (fun hb1 => ⟨rfl, n + 1, ?_, by omega, fun _ => ⟨rfl, h1 hb1⟩⟩)
      dsimp only
      rw [w_i64 (by omega) (by omega)]; omega
    rintro _ E ⟨rfl, n2, rfl, h40, h2⟩
    rw [w_i64 (by dsimp only; omega) (by dsimp only; omega)]
    refine ⟨⟨rfl, n2, i + 1, by simp, by omega, h40, fun h3 => ?_⟩, by first | omega | (dsimp only; omega)⟩
    obtain ⟨q1, q2⟩ := h2 h3
    obtain ⟨q3, q4⟩ := hall hn2
    refine ⟨by omega, fun l hl => ?_⟩
    rw [List.take_add_one, List.getElem?_eq_getElem hlt, Option.toList_some, List.mem_append, List.mem_singleton] at hl
    rcases hl with hl | rfl
    · exact q4 l hl
    · exact q2
  refine ift.of (fun _ => awakeF_ok hFm fun H2 _ => k H2) (fun h2 => ?_)
  have hn2 : n < 40 := by have := of_decide_eq_false h2; dsimp only at this; omega
  obtain ⟨rfl, hall⟩ := hall hn2
  have hie : n = ls.length := by
    simp only [Bool.and_eq_false_iff, decide_eq_false_iff_not] at h
    omega
  rw [hie, List.take_length] at hall
  have hl40 : ls.length < 40 := by omega
  clear h h2 hi
  have hbd : ∀ l ∈ ls, VBs l ∧ l.length ≤ 140737488355328 ∧ vsizes l ≤ 1000000 := fun l hl => ⟨(hb l hl).1, (hb l hl).2, by have := hall l hl; omega⟩
  -- in
  refine ⟨fun x B => ∃ (si : Sl) (ys : List Sl), x = (si, (ys.length : Int)) ∧ Og D B ls si ys, fun x _ => ls.length - x.2.toNat, ⟨Sl.nil, [], rfl, Og.nil⟩, ?_⟩
  rintro _ B ⟨si, ys, rfl, ho⟩
  refine ift.of (fun h => ?_) (fun h => ?_)
  · have hlt : ys.length < ls.length := by have := of_decide_eq_true h; dsimp only at this; omega
    refine hv.ld ho.own.le rfl hlt fun x hx => Own_ok hx ho.own.le (hbd _ (List.getElem_mem hlt)).2.2 fun t2 H2 hm => ?_
    have hsl : si.len = ys.length := by have := ho.own.own.1; simp at this; omega
    refine apd_ownF (zc := [slv Sl.nil]) (ho.own.own.le hm.le).off rfl (by dsimp only; omega) (by dsimp only; omega) fun r H3 h4 hr => ?_
    rw [w_i64 (by omega) (by omega)]
    refine ⟨⟨r, ys ++ [t2], by simp, ho.step hlt hm h4⟩, by first | omega | (dsimp only; omega)⟩
  have hyl : ys.length = ls.length := by have := of_decide_eq_false h; dsimp only at this; have := ho.le; omega
  have hin := ho.rows hyl
  have hDB := ho.own.le
  refine vsort_ok hin (Heap.le.refl _) (by omega) hbd fun t H2 A2 hS => ?_
  have hBH2 := hS.own.le
  refine ref02_Sort_ok 40 (by omega) (by omega) hv hc (hDB.trans hBH2) hbd fun t3 H3 hH3 hw => ?_
  have hgot := hS.rows
  rw [sorted_eq hS 40 (by omega)] at hgot
  have hml := msort_len (κ := cmpR) 40 ls
  refine SameRows_eq hgot hw hH3 (Heap.le.refl _) (by omega) (fun l hl => hb l (msort_mem 40 _ l hl)) ?_
  refine ⟨fun b E => E = H3 ∧ b = false, ?_, ?_⟩
  · refine ift_neg rfl ?_
    exact SameRows_eq hin hv (hBH2.trans hH3) ((hDB.trans hBH2).trans hH3) hn hb ⟨rfl, rfl⟩
  rintro _ E ⟨rfl, rfl⟩
  refine ift_neg rfl ?_
  refine over_ok (K := fun H54 => c_ref02_SameRows C si s (fun r70 H71 => jn (α := Bool) (fun b72 H78 => K b72 H78) (fun J73 => ift r70 (c_law02_awake C (fun r76 H77 => J73 r76 H77) H71) (J73 false H71))) H54) hS hH3 (by omega) fun F hF => ?_
  refine SameRows_eq hin hv hF (hDB.trans hF) hn hb ?_
  refine ⟨fun b G => b = true, ?_, ?_⟩
  · exact ift_pos rfl (awakeF_ok hFm fun H9 _ => rfl)
  · rintro _ G rfl; exact k G
end
end Sx
end

