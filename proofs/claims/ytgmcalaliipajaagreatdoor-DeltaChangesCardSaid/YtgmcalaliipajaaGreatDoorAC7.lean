/-
  Texts of this family, one behind the other: DlY, DlL, DlM, DlN, DlA, DlR, DlS, DlT, DlC, EntR, RowI.
-/
import Derived.Test.YtgmcalaliipajaaGreatDoorAC6
noncomputable section
set_option linter.unusedVariables false
set_option linter.unusedSimpArgs false
set_option maxRecDepth 10000
namespace Sx
section
open Go Go.Proofs
/-- a map of numbers, and what is known beside it -/
structure MB (E D : Heap) (mb : Nat) (l : List (Str × Int)) : Prop where
 le : E.le D
 nb : E mb = none
 map : MapIs encI D mb l
theorem MB.up {E D D2 : Heap} {mb : Nat} {l : List (Str × Int)} (h : MB E D mb l) (hle : D.le D2) : MB E D2 mb l := ⟨h.le.trans hle, h.nb, h.map.le hle⟩
theorem MB.put {E D : Heap} {mb b : Nat} {l : List (Str × Int)} {g : GO} (h : MB E D mb l) (nb : D b = none) : MB E (D.put b g) mb l := h.up (Heap.le_put nb)
theorem MB.upd {E D : Heap} {mb : Nat} {l : List (Str × Int)} {key : Str} {v : Int} {K : Heap → Prop} (h : MB E D mb l) (k : ∀ D2 l2, MB E D2 mb l2 → (∀ k2, lkL k2 l2 = if k2 = key then some v else lkL k2 l) → 0 < l2.length → (l2.length = if (lkL key l).isSome then l.length else l.length + 1) → K D2) : upM encI (some mb) key v K D :=
 ⟨mb, l, rfl, h.map, fun g l2 m2 m3 m4 => k _ l2 ⟨Qn h.le h.nb, h.nb, m2⟩ m3 (by
  cases l2 with
  | nil => have := m3 key; rw [if_pos rfl] at this; simp [lkL] at this
  | cons p l2 => simp) m4⟩
theorem Qnv {a b : List V} (ha : mayR a = true) (hb : mayR b = true) (h : showK a = showK b) : a = b := QiZ (Qhx ha) (Qhx hb) h
section
variable {C : Ctx} {H A : Heap}
theorem Qd0 (hF : FmtC C) {sa sda : Sl} {a da : List En} {K : Sl → Int → Heap → Prop} (ha : EnL A sa a) (hda : EnL A sda da) (hA : A.le H)
 (za : Sz 250 250 a) (zda : Sz 250 250 da) (k : ∀ r ys D, OgE H D (dcL a da) r ys → K r (dcR a da) D) : Qat C sa sda K H := by
 apply Qd9
 unfold Qcj
 have u : ∀ {l : List En}, Sz 250 250 l → Sz 1000 1000 l := fun h => h.up (by omega) (by omega)
 have znil : Sz 1000 1000 ([] : List En) := ⟨by simp, fun e he => by simp at he⟩
 refine QkL ha hda EnL.nil EnL.nil hA (u za) (u zda) znil znil fun x y D hD hxy => ?_
 refine nz2 rfl rfl fun b5 b7 E hE c5 c7 => ?_
 have hHE := hD.trans hE
 refine ift.of (fun he => ?_) (fun he => ?_)
 ·have := k Sl.nil [] E (by unfold dcL; rw [if_pos (ne0 he)]; exact QgF hHE)
  have e : dcR a da = partsE a da [] [] := by unfold dcR; rw [if_pos (ne0 he)]
  rw [e] at this; exact this
 have hp0 := eq0 he
 obtain ⟨x1, x2, _, _, _, _⟩ := hxy hp0
 obtain ⟨z1, z2, _, _, _, _⟩ := QgV hp0
 have w1 : Sz 250 250 (clnE a) := za.cln
 have w2 : Sz 250 250 (clnE da) := zda.cln
 intro b12 n12
 have m12 : MB E (E.put b12 (.obj (.map #[] 0))) b12 [] := ⟨Heap.le_put n12, n12, MapIs.new⟩
 intro b14 n14
 refine nwT rfl ?_
 have n14E := m12.le.none n14
 have ne : b12 ≠ b14 := fun e => by subst e; rw [Heap.put_same] at n14; cases n14
 have lb := Heap.le_put n14 (g := .row (Qc.c (⟨Sl.nil⟩ : Qc))) (m := true)
 have lE := Heap.le_put n14E (g := .row (Qc.c (⟨Sl.nil⟩ : Qc))) (m := true)
 -- the base: all but the map
 have m14 : MB (E.put b14 (.row (Qc.c (⟨Sl.nil⟩ : Qc)))) ((E.put b12 (.obj (.map #[] 0))).put b14 (.row (Qc.c (⟨Sl.nil⟩ : Qc)))) b12 [] := ⟨fun z e hz => by
  by_cases hz4 : z = b14
  ·subst hz4; rw [Heap.put_same] at hz ⊢; exact hz
  ·rw [Heap.put_ne _ _ _ hz4] at hz ⊢; exact m12.le _ _ hz, by rw [Heap.put_ne _ _ _ ne]; exact n12, m12.map.le lb⟩
 have c14 : (E.put b14 (.row (Qc.c (⟨Sl.nil⟩ : Qc)))) b14 = some (true, .row (Qc.c (⟨Sl.nil⟩ : Qc))) := Heap.put_same ..
 have c5 := lE _ _ c5
 have x1 := (x1.en.le hE).le lE
 have x2 := (x2.en.le hE).le lE
 have hHG := hHE.trans lE
 generalize (E.put b12 (.obj (.map #[] 0))).put b14 (.row (Qc.c (⟨Sl.nil⟩ : Qc))) = D4 at *
 generalize E.put b14 (.row (Qc.c (⟨Sl.nil⟩ : Qc))) = G at *
 have ma : ∀ e ∈ clnE a, mayR e.1 = true := fun e he => (QcM e he).1
 have md : ∀ e ∈ clnE da, mayR e.1 = true := fun e he => (QcM e he).1
 have hw1 := w1.1
 have hw2 := w2.1
 have vs1 : ∀ e ∈ clnE a, vsizes e.1 ≤ 1000 := fun e he => by have := w1.2 e he; omega
 have vs2 : ∀ e ∈ clnE da, vsizes e.1 ≤ 1000 := fun e he => by have := w2.2 e he; omega
 refine fL (m14.le _ _ c5) (t := x.add_) rfl ?_
 -- the rows that are turned
 refine ⟨fun z F => ∃ (i : Nat) (l : List (Str × Int)), z = (i : Int) ∧ i ≤ (clnE da).length ∧ MB G F b12 l ∧ (i = 0 → l = []) ∧ (0 < i → 0 < l.length) ∧ (∀ e ∈ (clnE da).take i, lkL (showK e.1) l = some 0) ∧ (∀ key, (∀ e ∈ (clnE da).take i, showK e.1 ≠ key) → lkL key l = none), fun z _ => (clnE da).length - z.toNat, ⟨0, [], rfl, Nat.zero_le _, m14, fun _ => rfl, fun h => by omega, fun e he => by simp at he, fun key _ => rfl⟩, ?_⟩
 rintro _ F ⟨i, l, rfl, hi, hM, hl0, hlp, hq1, hq2⟩
 rw [x2.len]
 refine ift.of (fun hc => ?_) (fun hc => ?_)
 ·have hlt : i < (clnE da).length := by have := of_decide_eq_true hc; omega
  have hmem := List.getElem_mem hlt
  refine SlIs.ld x2 hM.le (z := 2) (fun _ => rfl) (by omega) rfl hlt fun y2 hy2 => ?_
  intro b30 n30
  refine nwT rfl ?_
  have cb : (F.put b30 (.row (Qa.c y2))) b30 = some (true, .row (Qa.c y2)) := Heap.put_same ..
  have hM2 := hM.put (g := .row (Qa.c y2)) n30
  generalize F.put b30 (.row (Qa.c y2)) = F1 at *
  refine bxT (c := Qc.c) (hM2.le _ _ c14) (fL cb (t := y2.Row) rfl ?_)
  refine QkX hF rfl (hy2.1.le hM2.le) (Heap.le.refl _) hy2.2.1 (md _ hmem) (vs2 _ hmem) fun H2 l2 => ?_
  refine (hM2.up l2).upd fun D2 l3 hM3 hk3 hpos _ => ?_
  rw [Qq (by omega) (by omega)]
  refine ⟨⟨i + 1, l3, by omega, by omega, hM3, fun h => by omega, fun _ => hpos, fun e he => ?_, fun key hkey => ?_⟩, by first | omega | (dsimp only; omega)⟩
  ·rw [takeS hlt] at he
   rw [hk3]
   rcases List.mem_append.1 he with he | he
   ·split
    ·rfl
    ·exact hq1 e he
   ·have : e = (clnE da)[i] := by simpa using he
    subst this; rw [if_pos rfl]
  ·rw [hk3, if_neg fun e => hkey (clnE da)[i] (by rw [takeS hlt]; exact List.mem_append_right _ (List.mem_cons_self ..)) e.symm]
   exact hq2 key fun e he => hkey e (by rw [takeS hlt]; exact List.mem_append_left _ he)
 have hie : i = (clnE da).length := by have := of_decide_eq_false hc; omega
 rw [hie, List.take_length] at hq1 hq2
 rw [hie] at hl0 hlp
 clear hc hi hie
 refine fL (hM.le _ _ c5) (t := x.was_) rfl ?_
 -- what was there
 refine ⟨fun z F => ∃ (i : Nat) (l : List (Str × Int)), z = (i : Int) ∧ i ≤ (clnE a).length ∧ MB G F b12 l ∧ ((clnE da).length = 0 → l = []) ∧ (0 < (clnE da).length → 0 < l.length ∧ (∀ e ∈ (clnE a).take i, lkL (showK e.1) l = some e.2) ∧ ∀ e ∈ clnE da, (∀ f ∈ (clnE a).take i, showK f.1 ≠ showK e.1) → lkL (showK e.1) l = some 0), fun z _ => (clnE a).length - z.toNat,
  ⟨0, l, rfl, Nat.zero_le _, hM, hl0, fun h => ⟨hlp h, fun e he => by simp at he, fun e he _ => hq1 e he⟩⟩, ?_⟩
 rintro _ F2 ⟨j, l4, rfl, hj, hM4, hl4, hq4⟩
 rw [x1.len]
 refine ift.of (fun hc => ?_) (fun hc => ?_)
 ·have hlt : j < (clnE a).length := by have := of_decide_eq_true hc; omega
  have hmem := List.getElem_mem hlt
  refine ⟨fun _ F3 => ∃ l5, MB G F3 b12 l5 ∧ ((clnE da).length = 0 → l5 = []) ∧ (0 < (clnE da).length → 0 < l5.length ∧ (∀ e ∈ (clnE a).take (j + 1), lkL (showK e.1) l5 = some e.2) ∧ ∀ e ∈ clnE da, (∀ f ∈ (clnE a).take (j + 1), showK f.1 ≠ showK e.1) → lkL (showK e.1) l5 = some 0), ?_, ?_⟩
  ·refine SlIs.ld x1 hM4.le (z := 2) (fun _ => rfl) (by omega) rfl hlt fun y2 hy2 => ?_
   intro b58 n58
   refine nwT rfl ?_
   have cb : (F2.put b58 (.row (Qa.c y2))) b58 = some (true, .row (Qa.c y2)) := Heap.put_same ..
   have hM5 := hM4.put (g := .row (Qa.c y2)) n58
   generalize F2.put b58 (.row (Qa.c y2)) = F3 at *
   refine bxT (c := Qc.c) (hM5.le _ _ c14) (fL cb (t := y2.Row) rfl ?_)
   refine QkX hF rfl (hy2.1.le hM5.le) (Heap.le.refl _) hy2.2.1 (ma _ hmem) (vs1 _ hmem) fun H2 l2 => ?_
   have hM6 := hM5.up l2
   refine hM6.map.ln ?_
   refine ift.of (fun hlen => ?_) (fun hlen => ?_)
   ·have hpos : 0 < (clnE da).length := by
     rcases Nat.eq_zero_or_pos (clnE da).length with h0 | h0
     ·rw [hl4 h0] at hlen; have := of_decide_eq_true hlen; simp at this
     ·exact h0
    obtain ⟨p1, p2, p3⟩ := hq4 hpos
    refine fI (l2 _ _ cb) (t := y2.N) rfl (hM6.upd fun D2 l7 hM7 hk7 hpos7 _ => ⟨l7, hM7, fun h => by omega, fun _ => ⟨hpos7, fun e he => ?_, fun e he hne => ?_⟩⟩)
    ·rw [takeS hlt] at he
     rw [hk7]
     have hyN := hy2.2.2.2.1
     rcases List.mem_append.1 he with he | he
     ·have hme := List.mem_of_mem_take he
      rw [if_neg]
      ·exact p2 e he
      ·intro hk
       have hrow := Qnv (ma e hme) (ma _ hmem) hk
       obtain ⟨q, hq, hqe⟩ := List.getElem_of_mem he
       rw [List.getElem_take] at hqe
       rw [List.length_take] at hq
       have := List.pairwise_iff_getElem.1 (Qgx a) q j (by omega) hlt (by omega)
       rw [hqe, hrow] at this
       exact QeA this
     ·have : e = (clnE a)[j] := by simpa using he
      subst this; rw [if_pos rfl, hyN]
    ·rw [hk7, if_neg fun e' => hne (clnE a)[j] (by rw [takeS hlt]; exact List.mem_append_right _ (List.mem_cons_self ..)) e'.symm]
     exact p3 e he fun f hf => hne f (by rw [takeS hlt]; exact List.mem_append_left _ hf)
   ·have h0 : (clnE da).length = 0 := by
     rcases Nat.eq_zero_or_pos (clnE da).length with h0 | h0
     ·exact h0
     ·have := of_decide_eq_false hlen
      have := (hq4 h0).1
      omega
    exact ⟨l4, hM6, hl4, fun h => by omega⟩
  ·rintro _ F3 ⟨l5, hM5, h5, hq5⟩
   rw [Qq (by omega) (by omega)]
   exact ⟨⟨j + 1, l5, by omega, by omega, hM5, h5, hq5⟩, by first | omega | (dsimp only; omega)⟩
 have hje : j = (clnE a).length := by have := of_decide_eq_false hc; omega
 rw [hje, List.take_length] at hq4
 clear hc hj hje
 have hat : ∀ e ∈ clnE da, lkL (showK e.1) l4 = some (totE a e.1) := fun e he => by
  obtain ⟨_, p2, p3⟩ := hq4 (List.length_pos_of_mem he)
  by_cases hf : ∃ f ∈ clnE a, f.1 = e.1
  ·obtain ⟨f, hf, hfe⟩ := hf
   have := p2 f hf
   rw [hfe, (Qco hf).2.2.1, hfe] at this
   exact this
  ·rw [p3 e he fun f hf2 hk => hf ⟨f, hf2, Qnv (ma f hf2) (md e he) hk⟩, Qne z1 fun f hf2 hfe => hf ⟨f, hf2, hfe⟩]
 refine fL (hM4.le _ _ c5) (t := x.add_) rfl ?_
 -- what changes
 refine ⟨fun z F => ∃ (i : Nat) (ys : List Qa), z.2 = (i : Int) ∧ i ≤ (clnE da).length ∧ EnX G F2 F (((clnE da).take i).flatMap fun y => if decide (totE a y.1 + y.2 > 0) && !(decide (totE a y.1 > 0)) then [(y.1, 1)] else if decide (totE a y.1 > 0) && !(decide (totE a y.1 + y.2 > 0)) then [(y.1, -1)] else []) z.1 ys, fun z _ => (clnE da).length - z.2.toNat, ⟨0, [], rfl, Nat.zero_le _, EnX.nil⟩, ?_⟩
 rintro ⟨r, _⟩ F5 ⟨i5, ys, rfl, hi5, hg⟩
 have hl5 := hg.own.le
 have hfm : ∀ m : List En, (m.flatMap fun y => if decide (totE a y.1 + y.2 > 0) && !(decide (totE a y.1 > 0)) then [(y.1, (1 : Int))] else if decide (totE a y.1 > 0) && !(decide (totE a y.1 + y.2 > 0)) then [(y.1, -1)] else []).length ≤ m.length := fun m => by
  induction m with
  | nil => simp
  | cons y m ih =>
   rw [List.flatMap_cons, List.length_append, List.length_cons]
   have : (if decide (totE a y.1 + y.2 > 0) && !(decide (totE a y.1 > 0)) then [(y.1, (1 : Int))] else if decide (totE a y.1 > 0) && !(decide (totE a y.1 + y.2 > 0)) then [(y.1, -1)] else []).length ≤ 1 := by
    split
    ·simp
    ·split <;> simp
   omega
 rw [x2.len]
 refine ift.of (fun hc => ?_) (fun hc => ?_)
 ·have hlt : i5 < (clnE da).length := by have := of_decide_eq_true hc; dsimp only at this; omega
  have hmem := List.getElem_mem hlt
  have hlen5 := hfm ((clnE da).take i5)
  rw [List.length_take] at hlen5
  refine ⟨fun z F6 => ∃ ys2 : List Qa, EnX G F2 F6 (((clnE da).take (i5 + 1)).flatMap fun y => if decide (totE a y.1 + y.2 > 0) && !(decide (totE a y.1 > 0)) then [(y.1, 1)] else if decide (totE a y.1 > 0) && !(decide (totE a y.1 + y.2 > 0)) then [(y.1, -1)] else []) z ys2, ?_, ?_⟩
  ·refine SlIs.ld x2 (hM4.le.trans hl5) (z := 2) (fun _ => rfl) (by omega) rfl hlt fun y2 hy2 => ?_
   intro b91 n91
   refine nwT rfl ?_
   have cb : (F5.put b91 (.row (Qa.c y2))) b91 = some (true, .row (Qa.c y2)) := Heap.put_same ..
   have hg1 := hg.up (Heap.le_put n91 (g := .row (Qa.c y2)) (m := true))
   have hM5 := hM4.up hg1.own.le
   generalize F5.put b91 (.row (Qa.c y2)) = F6 at *
   refine bxT (c := Qc.c) (hM5.le _ _ c14) (fL cb (t := y2.Row) rfl ?_)
   refine QkX hF rfl (hy2.1.le hM5.le) (Heap.le.refl _) hy2.2.1 (md _ hmem) (vs2 _ hmem) fun H2 l2 => ?_
   have hM6 := hM5.up l2
   have look : ∀ {K : Int → Bool → Prop}, K (totE a (clnE da)[i5].1) true → lkM encI 0 (some b12) (showK (clnE da)[i5].1) K H2 := fun h => hM6.map.lk (fun v hv => by
    rw [hat _ hmem] at hv; injection hv with hv; subst hv; exact h) fun hn => by rw [hat _ hmem] at hn; cases hn
   refine look (look (fI (l2 _ _ cb) (t := y2.N) rfl ?_))
   have hyN := hy2.2.2.2.1
   have b1 := QhB ((Qe3.1 z1).tot (clnE da)[i5].1)
   have b2 := Qcp _ hmem
   rw [hyN, Qq (x := totE a (clnE da)[i5].1 + (clnE da)[i5].2) (by omega) (by omega)]
   have hsn : (((clnE da).take (i5 + 1)).flatMap fun y => if decide (totE a y.1 + y.2 > 0) && !(decide (totE a y.1 > 0)) then [(y.1, (1 : Int))] else if decide (totE a y.1 > 0) && !(decide (totE a y.1 + y.2 > 0)) then [(y.1, -1)] else []) =
    (((clnE da).take i5).flatMap fun y => if decide (totE a y.1 + y.2 > 0) && !(decide (totE a y.1 > 0)) then [(y.1, (1 : Int))] else if decide (totE a y.1 > 0) && !(decide (totE a y.1 + y.2 > 0)) then [(y.1, -1)] else []) ++
    (if decide (totE a (clnE da)[i5].1 + (clnE da)[i5].2 > 0) && !(decide (totE a (clnE da)[i5].1 > 0)) then [((clnE da)[i5].1, (1 : Int))] else if decide (totE a (clnE da)[i5].1 > 0) && !(decide (totE a (clnE da)[i5].1 + (clnE da)[i5].2 > 0)) then [((clnE da)[i5].1, -1)] else []) := by
    rw [takeS hlt, List.flatMap_append]; simp
   rw [hsn]
   refine ift.of (fun h1 => ?_) (fun h1 => ?_)
   ·rw [if_pos h1]
    refine fL (l2 _ _ cb) (t := y2.Row) rfl (hg1.step (e := ((clnE da)[i5].1, 1)) (y := (⟨y2.Row, 1⟩ : Qa)) l2 ⟨hy2.1, hy2.2.1, hy2.2.2.1, rfl, by dsimp only; omega, by dsimp only; omega⟩ (by omega) fun r2 B2 h2 _ => ⟨_, h2⟩)
   ·rw [if_neg (by rw [h1]; simp)]
    refine ift.of (fun h3 => ?_) (fun h3 => ?_)
    ·rw [if_pos h3]
     refine fL (l2 _ _ cb) (t := y2.Row) rfl (hg1.step (e := ((clnE da)[i5].1, -1)) (y := (⟨y2.Row, (-1)⟩ : Qa)) l2 ⟨hy2.1, hy2.2.1, hy2.2.2.1, rfl, by dsimp only; omega, by dsimp only; omega⟩ (by omega) fun r2 B2 h2 _ => ⟨_, h2⟩)
    ·rw [if_neg (by rw [h3]; simp), List.append_nil]
     exact ⟨ys, hg1.up l2⟩
  ·rintro z F6 ⟨ys2, h2⟩
   rw [Qq (by dsimp only; omega) (by dsimp only; omega)]
   exact ⟨⟨i5 + 1, ys2, by dsimp only; omega, by omega, h2⟩, by first | omega | (dsimp only; omega)⟩
 have hie : i5 = (clnE da).length := by have := of_decide_eq_false hc; dsimp only at this; omega
 rw [hie, List.take_length] at hg
 have hgE : EnX G F2 F5 (chgE a da) r ys := hg
 have hcl : (chgE a da).length ≤ (clnE da).length := hfm (clnE da)
 have hall := hM4.le.trans hl5
 refine pCleanF (SlIs.le (Heap.le.refl _) (hgE.sl (by omega)) fun _ _ _ h => h.le hall) (by omega) (fun z hz => ?_) fun r6 y6 D6 g6 => ?_
 ·obtain ⟨y3, hy3, hz⟩ := List.mem_flatMap.1 hz
  have := w2.2 y3 hy3
  split at hz
  ·have : z = (y3.1, 1) := by simpa using hz
   subst this; dsimp only; omega
  ·split at hz
   ·have : z = (y3.1, -1) := by simpa using hz
    subst this; dsimp only; omega
   ·simp at hz
 have := k r6 y6 D6 (by unfold dcL; rw [if_neg (by simpa using hp0)]; exact g6.down (hHG.trans hall))
 have e : dcR a da = errE (chgE a da) := by unfold dcR; rw [if_neg (by simpa using hp0)]
 rw [e] at this; exact this
end
end
section
open Go Go.Proofs
theorem QpJ {l : List En} (hm : ∀ e ∈ l, mayR e.1 = true) (h : mass l ≤ 2147483647) : errE l = 0 :=
 Qe3.2 ⟨hm, fun e he => by have := Qmt he; exact QnH (by omega) (by omega), fun r => by have := Qmu r l; exact QnH (by omega) (by omega)⟩
theorem QpD (l : List En) : ∀ e ∈ clnE l, mayR e.1 = true := fun e he => (QcM e he).1
theorem QpE {l : List En} (h : ∀ e ∈ l, mayR e.1 = true) : ∀ e ∈ negL l, mayR e.1 = true := fun e he => by
 obtain ⟨x, hx, rfl⟩ := List.mem_map.1 he; exact h x hx
/-- small entries -/
structure Sm (l : List En) (m : Int) : Prop where
 may : ∀ e ∈ l, mayR e.1 = true
 mass : Sx.mass l ≤ m
theorem Sm.err {l : List En} {m : Int} (h : Sm l m) (hm : m ≤ 2147483647) : errE l = 0 := QpJ h.may (Int.le_trans h.mass hm)
theorem Sm.nil : Sm [] 0 := ⟨fun e he => by simp at he, Int.le_refl _⟩
/-- lists of the same sums are the same when clean -/
theorem Qou {on : List Pr} {a a' b b' : List En} (ha : clnE a = clnE a') (hb : clnE b = clnE b') : joinP on a b = joinP on a' b' := by unfold joinP; rw [ha, hb]
theorem Qol {on : List Pr} {a a' b b' : List En} (ha : clnE a = clnE a') (hb : clnE b = clnE b') : antiP on a b = antiP on a' b' := by unfold antiP; rw [ha, hb]
def chgV (a : List En) (y : En) : Int := if decide (totE a y.1 + y.2 > 0) && !(decide (totE a y.1 > 0)) then 1 else if decide (totE a y.1 > 0) && !(decide (totE a y.1 + y.2 > 0)) then -1 else 0
theorem Qnc (a : List En) (r : List V) : ∀ l : List En, totE (l.flatMap fun y => if decide (totE a y.1 + y.2 > 0) && !(decide (totE a y.1 > 0)) then [(y.1, (1 : Int))] else if decide (totE a y.1 > 0) && !(decide (totE a y.1 + y.2 > 0)) then [(y.1, -1)] else []) r = totE (l.map fun y => (y.1, chgV a y)) r
 | [] => rfl
 | y :: l => by
  rw [List.flatMap_cons, Qbq, Qnc a r l, List.map_cons]
  simp only [totE]
  congr 1
  unfold chgV
  split
  ·simp only [totE]; split <;> simp
  ·split
   ·simp only [totE]; split <;> simp
   ·simp [totE]
def ind (n : Int) : Int := if 0 < n then 1 else 0
theorem Qpp {a da : List En} (hd : errE da = 0) (r : List V) : totE (chgE a da) r = ind (totE (a ++ da) r) - ind (totE a r) := by
 have e : totE (chgE a da) r = totE ((clnE da).map fun y => (y.1, chgV a y)) r := Qnc a r _
 rw [e, Qbq]
 by_cases hr : ∃ y ∈ clnE da, y.1 = r
 ·obtain ⟨y, hy, rfl⟩ := hr
  have hp : ((clnE da).map fun y => (y.1, chgV a y)).Pairwise fun a b => cmpR a.1 b.1 < 0 := by
   rw [List.pairwise_map]; exact Qgx da
  rw [Qi0 hp (List.mem_map.2 ⟨y, hy, rfl⟩)]
  have hn := (Qco hy).2.2.1
  rw [← hn]
  unfold chgV ind
  by_cases h1 : totE a y.1 > 0 <;> by_cases h2 : totE a y.1 + y.2 > 0
  ·rw [if_neg (by simp [h1]), if_neg (by simp [h2]), if_pos h2, if_pos h1]; rfl
  ·rw [if_neg (by simp [h1]), if_pos (by simp [h1, h2]), if_neg h2, if_pos h1]; rfl
  ·rw [if_pos (by simp [h1, h2]), if_pos h2, if_neg h1]; rfl
  ·rw [if_neg (by simp [h2]), if_neg (by simp [h1]), if_neg h2, if_neg h1]; rfl
 ·have h0 : totE da r = 0 := Qne hd fun e he e' => hr ⟨e, he, e'⟩
  rw [Qab fun e he e' => by
   obtain ⟨y, hy, rfl⟩ := List.mem_map.1 he
   exact hr ⟨y, hy, e'⟩, h0]
  simp
theorem QnK {l : List En} (h : errE l = 0) (r : List V) : totE (posE (clnE l)) r = ind (totE l r) := QpO h r
theorem Qms (a : List En) : ∀ l : List En, mass (l.flatMap fun y => if decide (totE a y.1 + y.2 > 0) && !(decide (totE a y.1 > 0)) then [(y.1, (1 : Int))] else if decide (totE a y.1 > 0) && !(decide (totE a y.1 + y.2 > 0)) then [(y.1, -1)] else []) ≤ (l.length : Int)
 | [] => Int.le_refl _
 | y :: l => by
  have ih := Qms a l
  rw [List.flatMap_cons, QiC, List.length_cons]
  have : mass (if decide (totE a y.1 + y.2 > 0) && !(decide (totE a y.1 > 0)) then [(y.1, (1 : Int))] else if decide (totE a y.1 > 0) && !(decide (totE a y.1 + y.2 > 0)) then [(y.1, -1)] else []) ≤ 1 := by
   split
   ·exact (by decide : ((if (1 : Int) < 0 then -(1 : Int) else 1) + 0) ≤ 1)
   ·split
    ·exact (by decide : ((if (-1 : Int) < 0 then -(-1 : Int) else -1) + 0) ≤ 1)
    ·exact (by decide : (0 : Int) ≤ 1)
  omega
theorem Qp6 {a da : List En} {n : Nat} (hn : da.length ≤ n) : Sm (chgE a da) n := by
 refine ⟨fun e he => ?_, ?_⟩
 ·obtain ⟨y, hy, he⟩ := List.mem_flatMap.1 he
  have hm := QpD da y hy
  split at he
  ·have : e = (y.1, 1) := by simpa using he
   subst this; exact hm
  ·split at he
   ·have : e = (y.1, -1) := by simpa using he
    subst this; exact hm
   ·simp at he
 ·have h1 := Qms a (clnE da)
  have h2 := Qe1 da
  show mass (chgE a da) ≤ _
  unfold chgE
  omega
end
section
open Go Go.Proofs
structure CaseV where
 a : List En
 da : List En
 b : List En
 db : List En
 on : List Pr
structure CaseIs (A : Heap) (v : CaseV) (x : Qi) : Prop where
 a : EnL A x.A v.a
 da : EnL A x.DA v.da
 b : EnL A x.B v.b
 db : EnL A x.DB v.db
 on : PrL A x.On v.on
theorem CaseIs.le {A B : Heap} {v : CaseV} {x : Qi} (h : CaseIs A v x) (hle : A.le B) : CaseIs B v x := ⟨h.a.le hle, h.da.le hle, h.b.le hle, h.db.le hle, h.on.le hle⟩
structure Bnd24 (v : CaseV) : Prop where
 a : Sz 120 120 v.a
 da : Sz 120 120 v.da
 b : Sz 120 120 v.b
 db : Sz 120 120 v.db
 on : v.on.length ≤ 20
section
variable {C : Ctx} {H A : Heap}
theorem QjV {v : CaseV} {x : Qi} {K : Bool → Heap → Prop} (h : CaseIs A v x) (hA : A.le H) (k : ∀ b, (b = false → Bnd24 v) → K b H) : QU C x K H := by
 apply QU.gh
 apply Qgb
 unfold Qdm
 intro b1 n1
 have l1 := Heap.le_put n1 (g := .row (Qi.c x)) (m := true)
 have c1 : (H.put b1 (.row (Qi.c x))) b1 = some (true, .row (Qi.c x)) := Heap.put_same ..
 have hA1 := hA.trans l1
 generalize H.put b1 (.row (Qi.c x)) = H1 at *
 refine fL c1 (t := x.A) rfl (Qid h.a hA1 fun r5 h5 => ?_)
 refine ⟨fun b E => E = H1 ∧ (b = false → Sz 120 120 v.a ∧ Sz 120 120 v.da), ?_, ?_⟩
 ·exact ift.of (fun hb => ⟨rfl, fun e => (nomatch e)⟩) fun hb => fL c1 (t := x.DA) rfl (Qid h.da hA1 fun r h2 => ⟨rfl, fun e => ⟨h5 hb, h2 e⟩⟩)
 rintro b7 E ⟨rfl, h7⟩
 refine ⟨fun b E2 => E2 = E ∧ (b = false → (Sz 120 120 v.a ∧ Sz 120 120 v.da) ∧ Sz 120 120 v.b), ?_, ?_⟩
 ·exact ift.of (fun hb => ⟨rfl, fun e => (nomatch e)⟩) fun hb => fL c1 (t := x.B) rfl (Qid h.b hA1 fun r h2 => ⟨rfl, fun e => ⟨h7 hb, h2 e⟩⟩)
 rintro b16 E2 ⟨rfl, h16⟩
 refine ⟨fun b E3 => E3 = E2 ∧ (b = false → ((Sz 120 120 v.a ∧ Sz 120 120 v.da) ∧ Sz 120 120 v.b) ∧ Sz 120 120 v.db), ?_, ?_⟩
 ·exact ift.of (fun hb => ⟨rfl, fun e => (nomatch e)⟩) fun hb => fL c1 (t := x.DB) rfl (Qid h.db hA1 fun r h2 => ⟨rfl, fun e => ⟨h16 hb, h2 e⟩⟩)
 rintro b25 E3 ⟨rfl, h25⟩
 refine ⟨fun b E4 => E4 = E3 ∧ (b = false → Bnd24 v), ?_, ?_⟩
 ·refine ift.of (fun hb => ⟨rfl, fun e => (nomatch e)⟩) fun hb => fL c1 (t := x.On) rfl ⟨rfl, fun e => ?_⟩
  obtain ⟨⟨⟨q1, q2⟩, q3⟩, q4⟩ := h25 hb
  have := of_decide_eq_false e
  rw [h.on.len] at this
  exact ⟨q1, q2, q3, q4, by omega⟩
 rintro b34 E4 ⟨rfl, h34⟩
 exact ⟨H, Gh.le l1, k b34 h34⟩
theorem QoA {s : Sl} {on : List Pr} {K : Sl → Heap → Prop} (h : PrL A s on) (hA : A.le H) (hn : on.length ≤ 1000) (k : ∀ r D, H.le D → PrL D r on → K r D) : Qed C s K H := by
 apply Qja
 unfold QfQ
 refine ⟨fun x D => ∃ (i : Nat) (ys : List Qg), x.2 = (i : Int) ∧ i ≤ on.length ∧ OwnF H D 2 x.1 (ys.flatMap Qg.c) ∧ ys.length = i ∧ ∀ (j : Nat) (v : Pr) (y : Qg), on[j]? = some v → ys[j]? = some y → PrIs v y, fun x _ => on.length - x.2.toNat, ⟨0, [], rfl, Nat.zero_le _, OwnF.nil H 2, rfl, fun j v y hv hy => by simp at hy⟩, ?_⟩
 rintro ⟨r, _⟩ D ⟨i, ys, rfl, hi, hO, hyl, hy⟩
 have hpl : ∀ zs : List Qg, (zs.flatMap Qg.c).length = zs.length * 2 := fun zs => by
  induction zs with
  | nil => rfl
  | cons z zs ih => rw [List.flatMap_cons, List.length_append, ih]; show 2 + _ = _; rw [List.length_cons]; omega
 have hsl : r.len = i := by have h1 : (ys.flatMap Qg.c).length = r.len * 2 := hO.own.1; rw [hpl] at h1; omega
 have hAD := hA.trans hO.le
 rw [h.len]
 refine ift.of (fun hc => ?_) (fun hc => ?_)
 ·have hlt : i < on.length := by have := of_decide_eq_true hc; dsimp only at this; omega
  have hAo := hA.trans (Heap.le_off hO.le hO.fresh)
  refine ⟨D.off r, Heap.off_le _ _, SlIs.fI h hAo (z := 2) (fun _ => rfl) (by omega) rfl hlt (j := 0) (f := fun y => y.Left) (fun _ => rfl) fun y1 h1 => SlIs.fI h hAo (z := 2) (fun _ => rfl) (by omega) rfl hlt (j := 1) (f := fun y => y.Right) (fun _ => rfl) fun y2 h2 => ?_⟩
  intro b nb
  have lb := Heap.le_put nb (g := .row (Qg.c (⟨y1.Left, y2.Right⟩ : Qg) ++ [])) (m := true)
  refine ⟨(Heap.off_le _ _).trans lb, ?_⟩
  have hO2 := hO.up lb
  refine Qdt (zc := Qg.c Qg.zero) hO2.own.off (ys := Qg.c (⟨y1.Left, y2.Right⟩ : Qg)) (.inr ⟨rfl, _, rfl, Qaf (Heap.put_same ..) fun j v hj => by simpa using hj⟩) rfl (fun u hu => ?_) (by show (r.len + 1) * 16 ≤ _; omega) (by show r.len + 1 ≤ _; omega) fun r2 D2 q1 q2 => ?_
  ·simp only [Qg.c, List.mem_cons, List.not_mem_nil, or_false] at hu
   rcases hu with rfl | rfl <;> rfl
  refine ⟨(QhL lb).trans q1.le, ?_⟩
  rw [Qq (by dsimp only; omega) (by dsimp only; omega)]
  refine ⟨⟨i + 1, ys ++ [(⟨y1.Left, y2.Right⟩ : Qg)], by dsimp only; omega, by omega, ?_, by simp [hyl], fun j v y hv hy2 => ?_⟩, by first | omega | (dsimp only; omega)⟩
  ·rw [List.flatMap_append]
   exact q1.down (Heap.le_off hO2.le hO2.fresh)
  ·by_cases hj : j < ys.length
   ·rw [List.getElem?_append_left hj] at hy2
    exact hy j v y hv hy2
   ·have hjl := (List.getElem?_eq_some_iff.1 hy2).1
    rw [List.length_append, List.length_singleton] at hjl
    have hje : j = i := by omega
    subst hje
    rw [List.getElem?_append_right (by omega), hyl, Nat.sub_self] at hy2
    simp only [List.getElem?_cons_zero, Option.some.injEq] at hy2
    rw [List.getElem?_eq_getElem hlt] at hv
    have hv := Option.some.inj hv
    subst hv; subst hy2
    exact ⟨h1.1, h2.2⟩
 ·have hie : i = on.length := by have := of_decide_eq_false hc; dsimp only at this; omega
  subst hie
  exact k r D hO.le ⟨ys, hO.own.rdsl, by omega, hyl.symm, by omega, fun j v y hv hy2 => hy j v y hv hy2⟩
end
end
section
open Go Go.Proofs
theorem QmS {on : List Pr} {a b : List En} (ha : errE a = 0) (hb : errE b = 0) (h : errE (joinP on a b) = 0) : joinR on a b = 0 ∧ joinL on a b = clnE (joinP on a b) := by
 unfold joinR joinL err2; simp [ha, hb, h]
theorem Qhu {on : List Pr} {a b : List En} (ha : errE a = 0) (hb : errE b = 0) : antiR a b = 0 ∧ antiL on a b = antiP on a b := by
 unfold antiR antiL err2; simp [ha, hb]
theorem Qot {on : List Pr} {a da b db : List En} (hp : partsE a da b db = 0) (h1 : errE (joinP on a b) = 0) (h2 : errE (joinP on (a ++ da) (b ++ db)) = 0) (h3 : errE (clnE (joinP on (a ++ da) (b ++ db)) ++ negL (clnE (joinP on a b))) = 0) :
 jcR on a da b db = 0 ∧ jcL on a da b db = clnE (clnE (joinP on (a ++ da) (b ++ db)) ++ negL (clnE (joinP on a b))) := by
 unfold jcR jcL; simp [hp, h1, h2, h3]
theorem Qok {on : List Pr} {a da b db : List En} (hp : partsE a da b db = 0) (h : errE (acW on a da b db) = 0) : acR on a da b db = 0 ∧ acL on a da b db = clnE (acW on a da b db) := by
 unfold acR acL; simp [hp, h]
theorem Qmg {a da : List En} (hp : partsE a da [] [] = 0) (h : errE (chgE a da) = 0) : dcR a da = 0 ∧ dcL a da = clnE (chgE a da) := by
 unfold dcR dcL; simp [hp, h]
section
variable {C : Ctx} {H A : Heap}
theorem okA {a b : List En} (ha : ∀ e ∈ a, okE e) (hb : ∀ e ∈ b, okE e) : ∀ e ∈ a ++ b, okE e := fun e he => by
 rcases List.mem_append.1 he with he | he
 ·exact ha e he
 ·exact hb e he
theorem okJ {on : List Pr} {a b : List En} (ha : ∀ e ∈ a, okE e ∧ vsizes e.1 ≤ 1000) (hb : ∀ e ∈ b, okE e ∧ vsizes e.1 ≤ 1000) : ∀ e ∈ clnE (joinP on a b), okE e := fun e he => by
 have h1 := QhB (QcM e he).2
 obtain ⟨_, ⟨x, hx, hr⟩, _, _⟩ := Qco he
 obtain ⟨p, hp, q, hq, rfl⟩ := Qmx hx
 obtain ⟨_, ⟨p2, hp2, hpr⟩, _, _⟩ := Qco hp
 obtain ⟨_, ⟨q2, hq2, hqr⟩, _, _⟩ := Qco hq
 have k1 := ha p2 hp2
 have k2 := hb q2 hq2
 have v1 := Qaq p2.1
 have v2 := Qaq q2.1
 unfold okE at *
 rw [← hr]
 dsimp only
 rw [← hpr, ← hqr]
 exact ⟨QhH k1.1.1 k2.1.1, by rw [List.length_append]; omega, by omega, by omega⟩
theorem okNg {l : List En} (h : ∀ e ∈ clnE l, okE e) : ∀ e ∈ negL (clnE l), okE e := fun e he => by
 obtain ⟨x, hx, rfl⟩ := List.mem_map.1 he
 have h1 := QhB (QcM x hx).2
 have h2 := h x hx
 exact ⟨h2.1, h2.2.1, by dsimp only; omega, by dsimp only; omega⟩
theorem okS {l : List En} {n : Nat} (h : ∀ e ∈ l, okE e) (hs : Sz n 1000 l) : ∀ e ∈ l, okE e ∧ vsizes e.1 ≤ 1000 := fun e he => ⟨h e he, hs.2 e he⟩
theorem okAnti {on : List Pr} {a b : List En} (ha : ∀ e ∈ a, okE e) : ∀ e ∈ antiP on a b, okE e := fun e he => Qc8 ha e (List.mem_filter.1 he).1
theorem okNn {l : List En} (h : ∀ e ∈ l, okE e) (hr : ∀ e ∈ l, outE e.2 = false) : ∀ e ∈ negL l, okE e := fun e he => by
 obtain ⟨x, hx, rfl⟩ := List.mem_map.1 he
 have h1 := QhB (hr x hx)
 have h2 := h x hx
 exact ⟨h2.1, h2.2.1, by dsimp only; omega, by dsimp only; omega⟩
theorem okAc {on : List Pr} {a da b db : List En} (ha : ∀ e ∈ a, okE e) (hda : ∀ e ∈ da, okE e) : ∀ e ∈ acW on a da b db, okE e :=
 okA (okAnti (okA ha hda)) (okNn (okAnti ha) fun e he => (QcM e (List.mem_filter.1 he).1).2)
theorem okChg {a da : List En} (h : ∀ e ∈ da, okE e) : ∀ e ∈ chgE a da, okE e := fun e he => by
 obtain ⟨y, hy, he⟩ := List.mem_flatMap.1 he
 have h2 := Qc8 h y hy
 split at he
 ·have : e = (y.1, 1) := by simpa using he
  subst this; exact ⟨h2.1, h2.2.1, by dsimp only; omega, by dsimp only; omega⟩
 ·split at he
  ·have : e = (y.1, -1) := by simpa using he
   subst this; exact ⟨h2.1, h2.2.1, by dsimp only; omega, by dsimp only; omega⟩
  ·simp at he
theorem Sz.anti {m n : Nat} {on : List Pr} {a b : List En} (h : Sz m n a) : Sz m n (antiP on a b) := h.cln.none
theorem Sz.joinP {m m2 n n2 : Nat} {on : List Pr} {a b : List En} (h : Sz m n a) (h2 : Sz m2 n2 b) : Sz (m * m2) (n + n2) (Sx.joinP on a b) := h.cln.pair h2.cln
theorem Sz.chg {m n : Nat} {a da : List En} (h : Sz m n da) : Sz m n (chgE a da) := by
 have key : ∀ l : List En, (l.flatMap fun y => if decide (totE a y.1 + y.2 > 0) && !(decide (totE a y.1 > 0)) then [(y.1, (1 : Int))] else if decide (totE a y.1 > 0) && !(decide (totE a y.1 + y.2 > 0)) then [(y.1, -1)] else []).length ≤ l.length := fun l => by
  induction l with
  | nil => simp
  | cons y m ih =>
   rw [List.flatMap_cons, List.length_append, List.length_cons]
   have : (if decide (totE a y.1 + y.2 > 0) && !(decide (totE a y.1 > 0)) then [(y.1, (1 : Int))] else if decide (totE a y.1 > 0) && !(decide (totE a y.1 + y.2 > 0)) then [(y.1, -1)] else []).length ≤ 1 := by
    split
    ·simp
    ·split <;> simp
   omega
 refine ⟨Nat.le_trans (key _) h.cln.1, fun e he => ?_⟩
 obtain ⟨y, hy, he⟩ := List.mem_flatMap.1 he
 have h2 := h.cln.2 y hy
 split at he
 ·have : e = (y.1, 1) := by simpa using he
  subst this; exact h2
 ·split at he
  ·have : e = (y.1, -1) := by simpa using he
   subst this; exact h2
  ·simp at he
end
end
section
open Go Go.Proofs
def nV (n : Int) : V := .mk 2 n [] []
def tV (s : Str) : V := .mk 4 0 s []
def xA1 : List V := [nV 1, tV [120]]
def xA2 : List V := [nV 2, tV [121]]
def xB1 : List V := [nV 1]
def xB2 : List V := [nV 2]
def xA3 : List V := [nV 3, tV [122]]
def lA : List En := [(xA1, 2), (xA2, 1)]
def lB : List En := [(xB1, 3)]
def lDB : List En := [(xB2, 1)]
def lDA : List En := [(xA1, -2), (xA3, 5)]
def lBB : List En := [(xB1, 3), (xB2, 1)]
def lOn : List Pr := [(0, 0)]
def r11 : List V := [nV 1, tV [120], nV 1]
def r22 : List V := [nV 2, tV [121], nV 2]
def lW : List En := [(r11, 6)]
def lI : List En := [(r11, 6), (r22, 1)]
def lZ : List En := [(r22, 1)]
def lY : List En := [(xA2, 1)]
def lD : List En := [(xA1, -1), (xA3, 1)]
theorem QZ {es l : List En} (h : okB es = true) (hc : calcB es l = true) : errE es = 0 ∧ clnE es = l := by
 have h0 := Qe3.2 (Qo6 h)
 obtain ⟨h1, h2⟩ := Qek h0
 exact ⟨h0, by rw [h2]; exact QpH h1 hc⟩
theorem calcs : (okB lA = true ∧ calcB lA lA = true) ∧ (okB lB = true ∧ calcB lB lB = true) ∧ (okB lDB = true ∧ calcB lDB lDB = true) ∧ (okB lDA = true ∧ calcB lDA lDA = true) ∧ (okB (lB ++ lDB) = true ∧ calcB (lB ++ lDB) lBB = true) ∧ (okB lW = true ∧ calcB lW lW = true) ∧ (okB lI = true ∧ calcB lI lI = true) ∧
 (okB (lI ++ negL lW) = true ∧ calcB (lI ++ negL lW) lZ = true) ∧ (okB lY = true ∧ calcB lY lY = true) ∧ (okB (negL lY) = true ∧ calcB (negL lY) (negL lY) = true) ∧ (okB lD = true ∧ calcB lD lD = true) ∧ (okB (lA ++ lDA) = true) ∧ okB [] = true ∧ calcB [] [] = true := by decide +kernel
theorem pairs1 : pairE lOn lA lB = lW ∧ pairE lOn lA lBB = lI := ⟨by kernel_rfl, by kernel_rfl⟩
theorem none1 : noneE lOn lA (posE lB) = lY ∧ noneE lOn lA (posE lBB) = [] := ⟨by kernel_rfl, by kernel_rfl⟩
theorem Qno : joinR lOn lA lB = 0 ∧ joinL lOn lA lB = lW := by
 obtain ⟨a, b, _, _, _, w, _⟩ := calcs
 obtain ⟨a1, a2⟩ := QZ a.1 a.2
 obtain ⟨b1, b2⟩ := QZ b.1 b.2
 obtain ⟨w1, w2⟩ := QZ w.1 w.2
 have hj : joinP lOn lA lB = lW := by unfold joinP; rw [a2, b2]; exact pairs1.1
 have := QmS (on := lOn) a1 b1 (by rw [hj]; exact w1)
 rw [hj, w2] at this; exact this
theorem Qnn : antiR lA lB = 0 ∧ antiL lOn lA lB = lY := by
 obtain ⟨a, b, _⟩ := calcs
 obtain ⟨a1, a2⟩ := QZ a.1 a.2
 obtain ⟨b1, b2⟩ := QZ b.1 b.2
 have := Qhu (on := lOn) a1 b1
 have hj : antiP lOn lA lB = lY := by unfold antiP; rw [a2, b2]; exact none1.1
 rw [hj] at this; exact this
theorem Qks : partsE lA [] lB lDB = 0 ∧ partsE lA lDA [] [] = 0 := by
 obtain ⟨a, b, db, da, bb, _, _, _, _, _, _, ad, n, n2⟩ := calcs
 have a1 := (QZ a.1 a.2).1
 have b1 := (QZ b.1 b.2).1
 have d1 := (QZ db.1 db.2).1
 have e1 := (QZ da.1 da.2).1
 have f1 := (QZ bb.1 bb.2).1
 have n1 := (QZ n n2).1
 have g1 := Qe3.2 (Qo6 ad)
 unfold partsE
 refine ⟨?_, ?_⟩
 ·rw [if_neg (by simpa using a1), if_neg (by simpa using n1), if_neg (by simpa using b1), if_neg (by simpa using d1), if_neg (by rw [List.append_nil]; simpa using a1)]; exact f1
 ·rw [if_neg (by simpa using a1), if_neg (by simpa using e1), if_neg (by simpa using n1), if_neg (by simpa using n1), if_neg (by simpa using g1)]; exact n1
theorem Qqd : jcR lOn lA [] lB lDB = 0 ∧ jcL lOn lA [] lB lDB = lZ := by
 obtain ⟨a, b, db, da, bb, w, i, iw, _⟩ := calcs
 obtain ⟨a1, a2⟩ := QZ a.1 a.2
 obtain ⟨b1, b2⟩ := QZ b.1 b.2
 obtain ⟨c1, c2⟩ := QZ bb.1 bb.2
 obtain ⟨w1, w2⟩ := QZ w.1 w.2
 obtain ⟨i1, i2⟩ := QZ i.1 i.2
 obtain ⟨z1, z2⟩ := QZ iw.1 iw.2
 have hw : joinP lOn lA lB = lW := by unfold joinP; rw [a2, b2]; exact pairs1.1
 have hi : joinP lOn (lA ++ []) (lB ++ lDB) = lI := by unfold joinP; rw [List.append_nil, a2, c2]; exact pairs1.2
 have := Qot (on := lOn) Qks.1 (by rw [hw]; exact w1) (by rw [hi]; exact i1) (by rw [hi, hw, w2, i2]; exact z1)
 rw [hi, hw, w2, i2, z2] at this; exact this
theorem Qqb : acR lOn lA [] lB lDB = 0 ∧ acL lOn lA [] lB lDB = negL lY := by
 obtain ⟨a, b, db, da, bb, w, i, iw, y, ny, _⟩ := calcs
 obtain ⟨a1, a2⟩ := QZ a.1 a.2
 obtain ⟨b1, b2⟩ := QZ b.1 b.2
 obtain ⟨c1, c2⟩ := QZ bb.1 bb.2
 obtain ⟨n1, n2⟩ := QZ ny.1 ny.2
 have hW : acW lOn lA [] lB lDB = negL lY := by
  unfold acW antiP; rw [List.append_nil, a2, b2, c2, none1.1, none1.2]; rfl
 have := Qok (on := lOn) Qks.1 (by rw [hW]; exact n1)
 rw [hW, n2] at this; exact this
theorem Qqc : dcR lA lDA = 0 ∧ dcL lA lDA = lD := by
 obtain ⟨a, b, db, da, bb, w, i, iw, y, ny, d, _⟩ := calcs
 obtain ⟨d1, d2⟩ := QZ da.1 da.2
 obtain ⟨l1, l2⟩ := QZ d.1 d.2
 have hC : chgE lA lDA = lD := by unfold chgE; rw [d2]; kernel_rfl
 have := Qmg Qks.2 (by rw [hC]; exact l1)
 rw [hC, l2] at this; exact this
theorem vbE : VBs xA1 ∧ VBs xA2 ∧ VBs xB1 ∧ VBs xB2 ∧ VBs xA3 ∧ VBs r11 ∧ VBs r22 := by
 have n : ∀ k : Int, 1 ≤ k → k ≤ 3 → VB (nV k) := fun k h1 h2 => ⟨⟨by omega, by omega⟩, ⟨by omega, by omega⟩, by simp, by simp, trivial⟩
 have t : ∀ c : UInt8, VB (tV [c]) := fun c => ⟨⟨by omega, by omega⟩, ⟨by omega, by omega⟩, by simp, by simp, trivial⟩
 exact ⟨⟨n 1 (by omega) (by omega), t _, trivial⟩, ⟨n 2 (by omega) (by omega), t _, trivial⟩, ⟨n 1 (by omega) (by omega), trivial⟩, ⟨n 2 (by omega) (by omega), trivial⟩, ⟨n 3 (by omega) (by omega), t _, trivial⟩, ⟨n 1 (by omega) (by omega), t _, n 1 (by omega) (by omega), trivial⟩, ⟨n 2 (by omega) (by omega), t _, n 2 (by omega) (by omega), trivial⟩⟩
section
variable {C : Ctx} {H A : Heap}
theorem nwK {cs : List Value} {K : Nat → Heap → Prop} (k : ∀ b E, H.le E → E b = some (true, .row cs) → K b E) : nw cs K H := fun b nb => k b _ (Heap.le_put nb) (Heap.put_same ..)
theorem Qll {n : Int} {K : Qb → Heap → Prop} (k : ∀ E, H.le E → K (⟨2, n, [], Sl.nil⟩ : Qb) E) : Qar C n K H := by
 apply Qh2
 unfold QeL
 intro b nb
 refine nwT rfl ?_
 exact bxT (Heap.put_same ..) (k _ (Heap.le_put nb))
theorem Qoe {s : Str} {K : Qb → Heap → Prop} (k : ∀ E, H.le E → K (⟨4, 0, s, Sl.nil⟩ : Qb) E) : Qbj C s K H := by
 apply Qh3
 unfold QeM
 intro b nb
 refine nwT rfl ?_
 exact bxT (Heap.put_same ..) (k _ (Heap.le_put nb))
theorem visN (n : Int) : VIs H (nV n) (⟨2, n, [], Sl.nil⟩ : Qb) := ⟨rfl, rfl, rfl, [], .inl rfl, rfl, trivial⟩
theorem visT (s : Str) : VIs H (tV s) (⟨4, 0, s, Sl.nil⟩ : Qb) := ⟨rfl, rfl, rfl, [], .inl rfl, rfl, trivial⟩
theorem rowL {b n cap : Nat} {m : Bool} {xs : List TV} {vs : List V} {cs : List Value} (h : H b = some (m, .row cs)) (hc : cs = xs.flatMap Qb.c ++ []) (hn : n = xs.length) (hv : VsAre H vs xs) : VRow H (Sl.of (some (b, 0)) n cap) vs := by
 subst hc
 exact ⟨xs, .inr ⟨rfl, _, rfl, Qaf h fun j v hj => by simpa using hj⟩, hn, hv⟩
theorem enE {s : Sl} {r : List V} {k : Int} (h : VRow H s r) (hB : VBs r) (hl : r.length ≤ 10) (hk : -9223372036854775808 ≤ k ∧ k < 9223372036854775808) : EnIs H (r, k) (⟨s, k⟩ : Qa) := ⟨h, hB, by dsimp only; omega, rfl, hk⟩
theorem ens1 {b cap : Nat} {m : Bool} {s : Sl} {r : List V} {k : Int} (h : H b = some (m, .row (Qa.c (⟨s, k⟩ : Qa) ++ []))) (e : EnIs H (r, k) (⟨s, k⟩ : Qa)) : EnL H (Sl.of (some (b, 0)) 1 cap) [(r, k)] :=
 Qny (xs := [⟨s, k⟩]) h rfl rfl rfl (by simp) fun i v x hv hx => by
  match i with
  | 0 => simp at hv hx; subst hv; subst hx; exact e
  | i + 1 => simp at hv
theorem ens2 {b cap : Nat} {m : Bool} {s s2 : Sl} {r r2 : List V} {k k2 : Int} (h : H b = some (m, .row (Qa.c (⟨s, k⟩ : Qa) ++ Qa.c (⟨s2, k2⟩ : Qa) ++ []))) (e : EnIs H (r, k) (⟨s, k⟩ : Qa)) (e2 : EnIs H (r2, k2) (⟨s2, k2⟩ : Qa)) :
 EnL H (Sl.of (some (b, 0)) 2 cap) [(r, k), (r2, k2)] :=
 Qny (xs := [⟨s, k⟩, ⟨s2, k2⟩]) h rfl rfl rfl (by simp) fun i v x hv hx => by
  match i with
  | 0 => simp at hv hx; subst hv; subst hx; exact e
  | 1 => simp at hv hx; subst hv; subst hx; exact e2
  | i + 2 => simp at hv
theorem on1 {b cap : Nat} {m : Bool} (h : H b = some (m, .row (Qg.c (⟨0, 0⟩ : Qg) ++ []))) : PrL H (Sl.of (some (b, 0)) 1 cap) lOn :=
 ⟨[⟨0, 0⟩], .inr ⟨rfl, _, rfl, Qaf h fun j v hj => by simpa using hj⟩, rfl, rfl, by simp [lOn], fun i v x hv hx => by
  match i with
  | 0 => simp [lOn] at hv hx; subst hv; subst hx; exact ⟨rfl, rfl⟩
  | i + 1 => simp [lOn] at hv⟩
theorem rowF {s : Sl} {l : List V} {i : Nat} {x : Int} {K : Int → Prop} (h : VRow A s l) (hA : A.le H) (hb : l.length ≤ 140737488355328) (hx : x = i) (hi : i < l.length) (k : K l[i].n) : ixa s x fun p => ldI H .i64 ((p.1, p.2 + x.toNat * 4).1, (p.1, p.2 + x.toNat * 4).2 + 1) K :=
 SlIs.fI (VLs h hb) hA (z := 4) (fun _ => rfl) (by omega) hx hi (j := 1) (f := fun y => y.N) (fun _ => rfl) fun y hy => by rw [(QcH.1 hy).2.1]; exact k
theorem entN {s : Sl} {l : List En} {i : Nat} {x : Int} {K : Int → Prop} (h : EnL A s l) (hA : A.le H) (hx : x = i) (hi : i < l.length) (k : K l[i].2) : ixa s x fun p => ldI H .i64 ((p.1, p.2 + x.toNat * 2).1, (p.1, p.2 + x.toNat * 2).2 + 1) K :=
 SlIs.fI h hA (z := 2) (fun _ => rfl) (by omega) hx hi (j := 1) (f := fun y => y.N) (fun _ => rfl) fun y hy => by rw [hy.2.2.2.1]; exact k
theorem entR {s : Sl} {l : List En} {i : Nat} {x : Int} {K : Sl → Prop} (h : EnL A s l) (hA : A.le H) (hx : x = i) (hi : i < l.length) (k : ∀ t, VRow A t l[i].1 → K t) : ixa s x fun p => ldL H ((p.1, p.2 + x.toNat * 2).1, (p.1, p.2 + x.toNat * 2).2 + 0) K :=
 SlIs.fL h hA (z := 2) (fun _ => rfl) (by omega) hx hi (j := 0) (f := fun y => y.Row) (fun _ => rfl) fun y hy => k _ hy.1
theorem szB {l : List En} {n : Nat} (h : (l.all fun e => decide (vsizes e.1 ≤ 10)) = true) (hl : l.length ≤ 10) (hn : 10 ≤ n) : Sz n n l := ⟨by omega, fun e he => by have := of_decide_eq_true (List.all_eq_true.1 h e he); omega⟩
theorem Qom (hF : FmtC C) {K : Bool → Heap → Prop} (k : ∀ H2, H.le H2 → K true H2) : Qb9 C K H := by
 obtain ⟨vb1, vb2, vb3, vb4, vb5, vb6, vb7⟩ := vbE
 apply Qi7
 unfold QfN
 refine Qll fun E1 l1 => Qoe fun E2 l2 => nwK fun b5 E3 l3 c5 => ?_
 refine Qll fun E4 l4 => Qoe fun E5 l5 => nwK fun b11 E6 l6 c11 => ?_
 refine nwK fun b13 E7 l7 c13 => ?_
 have R1 : VRow E7 (Sl.of (some (b5, 0)) 2 2) xA1 := (rowL (vs := xA1) (xs := [⟨2, 1, [], Sl.nil⟩, ⟨4, 0, [120], Sl.nil⟩]) c5 rfl rfl ⟨visN 1, visT _, trivial⟩).le (((l4.trans l5).trans l6).trans l7)
 have R2 : VRow E7 (Sl.of (some (b11, 0)) 2 2) xA2 := (rowL (vs := xA2) (xs := [⟨2, 2, [], Sl.nil⟩, ⟨4, 0, [121], Sl.nil⟩]) c11 rfl rfl ⟨visN 2, visT _, trivial⟩).le l7
 have LA : EnL E7 (Sl.of (some (b13, 0)) 2 2) lA := ens2 c13 (enE R1 vb1 (by decide) (by omega)) (enE R2 vb2 (by decide) (by omega))
 refine Qll fun E8 l8 => nwK fun b17 E9 l9 c17 => nwK fun b19 E10 l10 c19 => ?_
 have LB : EnL E10 (Sl.of (some (b19, 0)) 1 1) lB := ens1 c19 (enE ((rowL (vs := xB1) (xs := [⟨2, 1, [], Sl.nil⟩]) c17 rfl rfl ⟨visN 1, trivial⟩).le l10) vb3 (by decide) (by omega))
 refine Qll fun E11 l11 => nwK fun b23 E12 l12 c23 => nwK fun b25 E13 l13 c25 => ?_
 have LDB : EnL E13 (Sl.of (some (b25, 0)) 1 1) lDB := ens1 c25 (enE ((rowL (vs := xB2) (xs := [⟨2, 2, [], Sl.nil⟩]) c23 rfl rfl ⟨visN 2, trivial⟩).le l13) vb4 (by decide) (by omega))
 refine nwK fun b27 E14 l14 c27 => ?_
 have LON : PrL E14 (Sl.of (some (b27, 0)) 1 1) lOn := on1 c27
 have h714 := l8.trans (l9.trans (l10.trans (l11.trans (l12.trans (l13.trans l14)))))
 have LA := LA.le h714
 have LB := LB.le (l11.trans (l12.trans (l13.trans l14)))
 have LDB := LDB.le l14
 have h014 := (l1.trans (l2.trans (l3.trans (l4.trans (l5.trans (l6.trans l7)))))).trans h714
 have zA : ∀ {n : Nat}, 10 ≤ n → Sz n n lA := fun h => szB (by decide +kernel) (by decide) h
 have zB : ∀ {n : Nat}, 10 ≤ n → Sz n n lB := fun h => szB (by decide +kernel) (by decide) h
 have zDB : ∀ {n : Nat}, 10 ≤ n → Sz n n lDB := fun h => szB (by decide +kernel) (by decide) h
 have zDA : ∀ {n : Nat}, 10 ≤ n → Sz n n lDA := fun h => szB (by decide +kernel) (by decide) h
 have zN : ∀ {n : Nat}, 10 ≤ n → Sz n n ([] : List En) := fun h => szB (by decide +kernel) (by decide) h
 have o1 : ∀ {r : List V} {n : Int}, VBs r → r.length ≤ 10 → -10 ≤ n → n ≤ 10 → okE (r, n) := fun h1 h2 h3 h4 => ⟨h1, by dsimp only; omega, by dsimp only; omega, by dsimp only; omega⟩
 have one : ∀ {e : En}, okE e → ∀ x ∈ [e], okE x := fun {e} h x hx => by
  have hxe : x = e := by simpa using hx
  subst hxe; exact h
 refine Qpj hF LA LB LON (Heap.le.refl _) (zA (by omega)) (zB (by omega)) (by decide) fun r29 y29 H31 q1 => ?_
 rw [Qno.1]
 rw [Qno.2] at q1
 have p31 := q1.own.le
 refine Qph hF LA LB LON p31 (zA (by omega)) (zB (by omega)) (by decide) fun r32 y32 H34 q2 => ?_
 rw [Qnn.1]
 rw [Qnn.2] at q2
 have p34 := p31.trans q2.own.le
 refine Qgp hF LA EnL.nil LB LDB LON p34 (zA (by omega)) (zN (by omega)) (zB (by omega)) (zDB (by omega)) (by decide) fun r35 y35 H37 q3 => ?_
 rw [Qqd.1]
 rw [Qqd.2] at q3
 have p37 := p34.trans q3.own.le
 refine Qgo hF LA EnL.nil LB LDB LON p37 (zA (by omega)) (zN (by omega)) (zB (by omega)) (zDB (by omega)) (by decide) fun r38 y38 H40 q4 => ?_
 rw [Qqb.1]
 rw [Qqb.2] at q4
 have p40 := p37.trans q4.own.le
 refine ⟨H40, Heap.le.refl _, entR (LA.le p40) (Heap.le.refl _) (i := 0) rfl (by decide) fun x48 h48 => ?_⟩
 refine Qll fun E52 l52 => ⟨l52, Qoe fun E55 l55 => ⟨l52.trans l55, nwK fun b57 E58 l58 c57 => ⟨(l52.trans l55).trans l58, nwK fun b60 E61 l61 c60 => ⟨((l52.trans l55).trans l58).trans l61, ?_⟩⟩⟩⟩
 have p61 := ((l52.trans l55).trans l58).trans l61
 have LDA : EnL E61 (Sl.of (some (b60, 0)) 2 2) lDA := ens2 c60 (enE (h48.le p61) vb1 (by decide) (by omega)) (enE ((rowL (vs := xA3) (xs := [⟨2, 3, [], Sl.nil⟩, ⟨4, 0, [122], Sl.nil⟩]) c57 rfl rfl ⟨visN 3, visT _, trivial⟩).le l61) vb5 (by decide) (by omega))
 refine Qd0 hF (LA.le (p40.trans p61)) LDA (Heap.le.refl _) (zA (by omega)) (zDA (by omega)) fun r63 y63 H65 q5 => ⟨p61.trans q5.own.le, ?_⟩
 rw [Qqc.1]
 rw [Qqc.2] at q5
 have p65 := q5.own.le
 have a1 := ((q2.own.le.trans q3.own.le).trans q4.own.le).trans (p61.trans p65)
 have f1 : EnL H65 r29 lW := (q1.en (one (o1 vb6 (by decide) (by omega) (by omega))) (by decide)).le a1
 have f2 : EnL H65 r32 lY := (q2.en (one (o1 vb2 (by decide) (by omega) (by omega))) (by decide)).le ((q3.own.le.trans q4.own.le).trans (p61.trans p65))
 have f3 : EnL H65 r35 lZ := (q3.en (one (o1 vb7 (by decide) (by omega) (by omega))) (by decide)).le (q4.own.le.trans (p61.trans p65))
 have f4 : EnL H65 r38 (negL lY) := (q4.en (one (o1 vb2 (by decide) (by omega) (by omega))) (by decide)).le (p61.trans p65)
 have f5 : EnL H65 r63 lD := q5.en (fun x hx => by
  have : x = (xA1, -1) ∨ x = (xA3, 1) := by simpa [lD] using hx
  rcases this with rfl | rfl
  ·exact o1 vb1 (by decide) (by omega) (by omega)
  ·exact o1 vb5 (by decide) (by omega) (by omega)) (by decide)
 have hfin := (h014.trans p40).trans (p61.trans p65)
 have lr := Heap.le.refl H65
 refine ⟨fun b E => b = true ∧ H65 = E, QA (by rw [f1.len]; rfl) (entN f1 lr (i := 0) rfl (by decide) ⟨rfl, rfl⟩), ?_⟩
 rintro _ _ ⟨rfl, rfl⟩
 refine ⟨fun b E => b = true ∧ H65 = E, QA rfl (entR f1 lr (i := 0) rfl (by decide) fun t ht => ⟨by rw [ht.len]; rfl, rfl⟩), ?_⟩
 rintro _ _ ⟨rfl, rfl⟩
 refine ⟨fun b E => b = true ∧ H65 = E, QA (by rw [f2.len]; rfl) (entR f2 lr (i := 0) rfl (by decide) fun t ht => rowF ht lr (by decide) (i := 0) rfl (by decide) ⟨rfl, rfl⟩), ?_⟩
 rintro _ _ ⟨rfl, rfl⟩
 refine ⟨fun b E => b = true ∧ H65 = E, QA (by rw [f3.len]; rfl) (entN f3 lr (i := 0) rfl (by decide) ⟨rfl, rfl⟩), ?_⟩
 rintro _ _ ⟨rfl, rfl⟩
 refine ⟨fun b E => b = true ∧ H65 = E, QA rfl (entR f3 lr (i := 0) rfl (by decide) fun t ht => rowF ht lr (by decide) (i := 2) rfl (by decide) ⟨rfl, rfl⟩), ?_⟩
 rintro _ _ ⟨rfl, rfl⟩
 refine ⟨fun b E => b = true ∧ H65 = E, QA (by rw [f4.len]; rfl) (entN f4 lr (i := 0) rfl (by decide) ⟨rfl, rfl⟩), ?_⟩
 rintro _ _ ⟨rfl, rfl⟩
 refine ⟨fun b E => b = true ∧ H65 = E, QA (by rw [f5.len]; rfl) (entN f5 lr (i := 0) rfl (by decide) ⟨rfl, rfl⟩), ?_⟩
 rintro _ _ ⟨rfl, rfl⟩
 refine ⟨fun b E => b = true ∧ H65 = E, QA rfl (entN f5 lr (i := 1) rfl (by decide) ⟨rfl, rfl⟩), ?_⟩
 rintro _ _ ⟨rfl, rfl⟩
 exact k _ hfin
end
end
section
open Go Go.Proofs
def oneB (a b : List V) (p : Pr) : Bool :=
 match pick a p.1, pick b p.2 with
 | some v, some w => sameV v w
 | _, _ => false
theorem Ql0 (v w : V) (l m : List V) : sameVs (v :: l) (w :: m) = (sameV v w && sameVs l m) := by
 rw [Bool.eq_iff_iff, Bool.and_eq_true, Qby, QnZ, Qby]; simp
theorem Qku (a b : List V) : ∀ on : List Pr, fitB on a b = on.all (oneB a b)
 | [] => rfl
 | p :: on => by
  have ih := Qku a b on
  rw [List.all_cons, ← ih]
  unfold fitB oneB
  simp only [List.map_cons, picks]
  cases pick a p.1 with
  | none => simp
  | some v =>
   cases pick b p.2 with
   | none => cases picks a (on.map fun p => p.1) <;> simp
   | some w =>
    cases picks a (on.map fun p => p.1) with
    | none => simp
    | some vs =>
     cases picks b (on.map fun p => p.2) with
     | none => simp
     | some ws => simp [Ql0]
theorem QpN {on : List Pr} {x : List V} {b : List En} : ((posE (clnE b)).any fun y => fitB on x y.1) = (clnE b).any fun y => decide (y.2 > 0) && fitB on x y.1 := by
 rw [Bool.eq_iff_iff, List.any_eq_true, List.any_eq_true]
 constructor
 ·rintro ⟨y, hy, h⟩
  obtain ⟨z, hz, rfl⟩ := List.mem_map.1 hy
  have hz2 := List.mem_filter.1 hz
  have h0 := (Qco hz2.1).2.2.2
  have h1 : ¬ z.2 < 0 := by simpa using hz2.2
  exact ⟨z, hz2.1, by rw [Bool.and_eq_true]; exact ⟨decide_eq_true (by omega), h⟩⟩
 ·rintro ⟨z, hz, h⟩
  rw [Bool.and_eq_true] at h
  have h1 := of_decide_eq_true h.1
  exact ⟨(z.1, 1), List.mem_map.2 ⟨z, List.mem_filter.2 ⟨hz, by simp; omega⟩, rfl⟩, h.2⟩
section
variable {C : Ctx} {H A : Heap}
theorem EnW.stepS {H B B' : Heap} {es : List En} {s : Sl} {ys : List Qa} {e : En} {y : Qa} {b cap : Nat} {m : Bool} {K : Sl → Heap → Prop} (h : EnW H B es s ys) (hle : B.le B') (hb : B' b = some (m, .row (Qa.c y ++ []))) (hy : EnIs (B'.off s) e y) (hn : es.length ≤ 1000000)
 (k : ∀ r B2, EnW H B2 (es ++ [e]) r (ys ++ [y]) → (B'.off s).le B2 → K r B2) : apS (Qa.c Qa.zero) 32 s (Sl.of (some (b, 0)) 1 cap) K B' := by
 have h := h.up hle
 have hsl := h.slen
 refine ⟨Qa.c y ++ [], .inr ⟨rfl, _, rfl, Qaf hb fun j v hj => by simpa using hj⟩, fun u hu => ?_, ?_⟩
 ·simp only [Qa.c, List.append_nil, List.mem_cons, List.not_mem_nil, or_false] at hu
  rcases hu with rfl | rfl <;> rfl
 refine Qb5 (zc := Qa.c Qa.zero) (cs := ys.flatMap Qa.c) h.own.own.off rfl (by show (s.len + 1) * 32 ≤ _; omega) (by show s.len + 1 ≤ _; omega) fun r B2 q1 q2 => k r B2 ?_ q1.le
 have hup : (B'.off s).le (B2.off r) := Heap.le_off q1.le q1.fresh
 have hHo := Heap.le_off h.own.le h.own.fresh
 refine ⟨?_, by simp [h.len], fun j e' y' he hy' => ?_⟩
 ·rw [List.flatMap_append]
  exact q1.down hHo
 ·by_cases hj : j < ys.length
  ·rw [List.getElem?_append_left hj] at hy'
   rw [List.getElem?_append_left (by rw [← h.len]; exact hj)] at he
   exact (h.done j e' y' he hy').le hup
  ·have hjl := (List.getElem?_eq_some_iff.1 hy').1
   rw [List.length_append, List.length_singleton] at hjl
   have hje : j = ys.length := by omega
   subst hje
   rw [List.getElem?_append_right (Nat.le_refl _), Nat.sub_self] at hy'
   rw [List.getElem?_append_right (by rw [h.len]; exact Nat.le_refl _), h.len, Nat.sub_self] at he
   simp only [List.getElem?_cons_zero, Option.some.injEq] at hy' he
   subst hy'; subst he; exact hy.le hup
theorem dCleanF {s : Sl} {l : List En} {K : Sl → Int → Heap → Prop} (hs : EnL A s l) (hA : A.le H) (hz : Sz 1000000 1000000 l) (k : ∀ r H0, H.le H0 → EnL H0 r (clnE l) → K r (errE l) H0) : QP C s K H :=
 dCleanR hs hA hz.1 hz.2 fun e out r H0 h1 _ h2 h3 => by
  obtain ⟨rfl, rfl⟩ := h1.fn
  exact k r H0 h2 h3
theorem dAddF {a b : Sl} {la lb : List En} {K : Sl → Int → Heap → Prop} (ha : EnL A a la) (hb : EnL A b lb) (hA : A.le H) (za : Sz 1000 1000 la) (zb : Sz 1000 1000 lb) (k : ∀ r H0, H.le H0 → EnL H0 r (clnE (la ++ lb)) → K r (errE (la ++ lb)) H0) : Qc4 C a b K H := by
 have z := za.app zb
 have := za.1
 have := zb.1
 exact Qpt ha hb hA (by omega) (fun x hx => by have := z.2 x hx; omega) fun e out r H0 h1 _ h2 h3 => by
  rw [esA] at h1
  obtain ⟨rfl, rfl⟩ := h1.fn
  exact k r H0 h2 h3
theorem dLessF {a b : Sl} {la lb : List En} {K : Sl → Int → Heap → Prop} (ha : EnL A a la) (hb : EnL A b lb) (hA : A.le H) (za : Sz 400000 1000 la) (zb : Sz 400000 1000 lb) (hN : ∀ e ∈ lb, -2147483647 ≤ e.2 ∧ e.2 ≤ 2147483647) (k : ∀ r H0, H.le H0 → EnL H0 r (clnE (la ++ negL lb)) → K r (errE (la ++ negL lb)) H0) : QbU C a b K H := by
 have z := za.app zb
 have := za.1
 have := zb.1
 exact Qop ha hb hA (by omega) (fun x hx => by have := z.2 x hx; omega) fun e out r H0 h1 _ h2 h3 => by
  rw [esL, QnG hN] at h1
  obtain ⟨rfl, rfl⟩ := h1.fn
  exact k r H0 h2 h3
theorem Qme {s : Sl} {l : List En} {K : Sl → Int → Heap → Prop} (hs : EnL A s l) (hA : A.le H) (hz : Sz 1000 1000 l) (k : ∀ r H0, H.le H0 → EnL H0 r (posE (clnE l)) → K r (errE l) H0) : QbK C s K H := by
 apply Qhs
 unfold Qd7
 refine dCleanF hs hA (hz.up (by omega) (by omega)) fun r1 H3 h3 e1 => ?_
 have hl := Qe1 l
 have hz1 := hz.1
 refine ⟨fun x D => ∃ (i : Nat) (ys : List Qa), x.2 = (i : Int) ∧ i ≤ (clnE l).length ∧ EnX H3 H3 D (posE ((clnE l).take i)) x.1 ys, fun x _ => (clnE l).length - x.2.toNat, ⟨0, [], rfl, Nat.zero_le _, EnX.nil⟩, ?_⟩
 rintro ⟨r, _⟩ D ⟨i, ys, rfl, hi, hg⟩
 have hlen : (posE ((clnE l).take i)).length ≤ i := by
  unfold posE keepE
  rw [List.length_map]
  refine Nat.le_trans (List.length_filter_le ..) ?_
  rw [List.length_take]; omega
 rw [e1.len]
 refine ift.of (fun hc => ?_) (fun hc => ?_)
 ·have hlt : i < (clnE l).length := by have := of_decide_eq_true hc; dsimp only at this; omega
  have hne := (Qco (List.getElem_mem hlt)).2.2.2
  have hsn : posE ((clnE l).take (i + 1)) = posE ((clnE l).take i) ++ (if (clnE l)[i].2 > 0 then [((clnE l)[i].1, 1)] else []) := by
   unfold posE keepE
   rw [takeS hlt, List.filter_append, List.map_append]
   by_cases h0 : (clnE l)[i].2 > 0
   ·rw [if_pos h0]
    have : decide ((clnE l)[i].2 < 0) = false := decide_eq_false (by omega)
    simp [List.filter_cons, this]
   ·rw [if_neg h0]
    have : decide ((clnE l)[i].2 < 0) = true := decide_eq_true (by omega)
    simp [List.filter_cons, this]
  refine ⟨fun z D2 => ∃ ys2, EnX H3 H3 D2 (posE ((clnE l).take (i + 1))) z ys2, ?_, ?_⟩
  ·refine SlIs.fI e1 hg.own.le (z := 2) (fun _ => rfl) (by omega) rfl hlt (j := 1) (f := fun y => y.N) (fun _ => rfl) fun y hy => ?_
   rw [hy.2.2.2.1]
   refine ift.of (fun h2 => ?_) (fun h2 => ?_)
   ·have h2 := of_decide_eq_true h2
    refine SlIs.fL e1 hg.own.le (z := 2) (fun _ => rfl) (by omega) rfl hlt (j := 0) (f := fun y => y.Row) (fun _ => rfl) fun y2 hy2 => ?_
    refine hg.step (e := ((clnE l)[i].1, 1)) (y := (⟨y2.Row, 1⟩ : Qa)) (Heap.le.refl _) ⟨hy2.1, hy2.2.1, hy2.2.2.1, rfl, by dsimp only; omega, by dsimp only; omega⟩ (by omega) fun r2 B2 h3 _ => ⟨ys ++ [(⟨y2.Row, 1⟩ : Qa)], ?_⟩
    rw [hsn, if_pos h2]; exact h3
   ·have h2 := of_decide_eq_false h2
    refine ⟨ys, ?_⟩
    rw [hsn, if_neg h2, List.append_nil]; exact hg
  ·rintro z D2 ⟨ys2, h2⟩
   rw [Qq (by dsimp only; omega) (by dsimp only; omega)]
   exact ⟨⟨i + 1, ys2, by dsimp only; omega, by omega, h2⟩, by first | omega | (dsimp only; omega)⟩
 ·have hie : i = (clnE l).length := by have := of_decide_eq_false hc; dsimp only at this; omega
  subst hie
  rw [List.take_length] at hg hlen
  exact k r D (h3.trans hg.own.le) (SlIs.le (Heap.le.refl _) (hg.sl (by omega)) fun _ _ _ h => h.le hg.own.le)
theorem Qo1 {on : List Pr} {sa sb sn : Sl} {a b : List V} {K : Bool → Heap → Prop} (ha : VRow A sa a) (hb : VRow A sb b) (hp : PrL A sn on) (hA : A.le H) (hBa : VBs a) (hBb : VBs b) (hla : a.length ≤ 100000) (hlb : b.length ≤ 100000) (hon : on.length ≤ 100000)
 (k : K (fitB on a b) H) : Qbm C sa sb sn K H := by
 apply Qbm.gh
 apply Qk4
 unfold QhU
 have la := ha.len
 have lb := hb.len
 refine ⟨fun x D => H.le D ∧ ∃ i : Nat, x = (i : Int) ∧ i ≤ on.length ∧ (on.take i).all (oneB a b) = true, fun x _ => on.length - x.toNat, ⟨Heap.le.refl _, 0, rfl, Nat.zero_le _, rfl⟩, ?_⟩
 rintro _ D ⟨hD, i, rfl, hi, hq⟩
 have hAD := hA.trans hD
 rw [hp.len]
 refine ift.of (fun hc => ?_) (fun hc => ?_)
 ·have hlt : i < on.length := by have := of_decide_eq_true hc; omega
  have hno : oneB a b on[i] = false → ∃ H0, Gh C D H0 ∧ K false H0 := fun h => by
   refine ⟨H, Gh.le hD, ?_⟩
   have : fitB on a b = false := by
    rw [Qku, List.all_eq_false]
    exact ⟨on[i], List.getElem_mem hlt, by rw [h]; simp⟩
   rw [this] at k; exact k
  refine SlIs.fI hp hAD (z := 2) (fun _ => rfl) (by omega) rfl hlt (j := 0) (f := fun y => y.Left) (fun _ => rfl) fun y1 h1 => SlIs.fI hp hAD (z := 2) (fun _ => rfl) (by omega) rfl hlt (j := 1) (f := fun y => y.Right) (fun _ => rfl) fun y2 h2 => ?_
  rw [h1.1, h2.2, la, lb]
  refine ⟨fun z E => E = D ∧ z = !(oneB a b on[i]), ?_, ?_⟩
  ·have np : ∀ {row : List V} {p : Int}, p < 0 ∨ p ≥ row.length → pick row p = none := fun h => by
    unfold pick
    rcases h with h | h
    ·rw [if_pos h]
    ·rw [if_neg (by omega)]; exact List.getElem?_eq_none (by omega)
   refine ⟨D, Heap.le.refl _, ift.of (fun q => ⟨rfl, ?_⟩) (fun q1 => ift.of (fun q => ⟨rfl, ?_⟩) (fun q2 => ift.of (fun q => ⟨rfl, ?_⟩) (fun q3 => ift.of (fun q => ⟨rfl, ?_⟩) (fun q4 => ?_))))⟩
   ·unfold oneB; rw [np (.inl (of_decide_eq_true q))]; rfl
   ·unfold oneB; rw [np (.inr (of_decide_eq_true q))]; rfl
   ·unfold oneB; rw [np (row := b) (.inl (of_decide_eq_true q))]; cases pick a on[i].1 <;> rfl
   ·unfold oneB; rw [np (row := b) (.inr (of_decide_eq_true q))]; cases pick a on[i].1 <;> rfl
   have q1 := of_decide_eq_false q1
   have q2 := of_decide_eq_false q2
   have q3 := of_decide_eq_false q3
   have q4 := of_decide_eq_false q4
   have ia : on[i].1.toNat < a.length := by omega
   have ib : on[i].2.toNat < b.length := by omega
   refine ha.ld hAD (i := on[i].1.toNat) (by omega) ia fun x hx => hb.ld hAD (i := on[i].2.toNat) (by omega) ib fun y hy => ?_
   refine Qm6 (hx.le hAD) (hy.le hAD) (hBa.mem (List.getElem_mem ia)) ⟨Heap.le.refl _, rfl, ?_⟩
   unfold oneB pick
   rw [if_neg q1, if_neg q3, List.getElem?_eq_getElem ia, List.getElem?_eq_getElem ib]
  ·rintro z E ⟨rfl, rfl⟩
   cases ho : oneB a b on[i] with
   | false => exact QA rfl (hno ho)
   | true =>
    refine Qt rfl ?_
    rw [Qq (by omega) (by omega)]
    refine ⟨⟨hD, i + 1, by omega, by omega, ?_⟩, by first | omega | (dsimp only; omega)⟩
    rw [takeS hlt, List.all_append, hq]; simp [ho]
 ·have hie : i = on.length := by have := of_decide_eq_false hc; omega
  rw [hie, List.take_length, ← Qku] at hq
  rw [hq] at k
  exact ⟨H, Gh.le hD, k⟩
end
end
section
open Go Go.Proofs
section
variable {C : Ctx} {H A : Heap}
theorem Qma {sa sb : Sl} {a b : List En} {K : Sl → Sl → Int → Heap → Prop} (ha : EnL A sa a) (hb : EnL A sb b) (hA : A.le H) (za : Sz 500 500 a) (zb : Sz 500 500 b)
 (k0 : ∀ s t D, H.le D → errE a ≠ 0 → K s t (errE a) D) (k1 : ∀ s t D, H.le D → errE a = 0 → EnL D s (clnE a) → EnL D t (clnE b) → K s t (errE b) D) : Qdy C sa sb K H := by
 apply Qkh
 unfold Qhi
 refine dCleanF ha hA (za.up (by omega) (by omega)) fun r1 H3 h3 e1 => ?_
 refine ift.of (fun he => k0 _ _ _ h3 (ne0 he)) (fun he => ?_)
 refine dCleanF hb (hA.trans h3) (zb.up (by omega) (by omega)) fun r5 H7 h7 e5 => ?_
 exact k1 r1 r5 H7 (h3.trans h7) (eq0 he) (e1.le h7) e5
theorem offr {F E : Heap} {z : Nat} {s r : Sl} {cs : List Value} (h : OwnF F E z r cs) (hs : ∀ p, s.p = some p → ∃ g, F p.1 = some (true, g)) : rdsl (E.off s) r cs := by
 have hfr := h.fresh
 obtain ⟨hl, hx, hc, ⟨hp, h0⟩ | ⟨b, sp, hp, hb, _⟩⟩ := h.own
 ·left
  have : r.len = 0 := by omega
  rw [this] at hl
  exact List.length_eq_zero_iff.1 (by simpa using hl)
 ·refine .inr ⟨hx, _, hp, Qaf (Heap.off_some hb fun p hp2 e => ?_) fun j v hj => ?_⟩
  ·obtain ⟨g, hg⟩ := hs p hp2
   have := hfr _ hp
   rw [e] at hg
   rw [hg] at this; cases this
  ·have := (List.getElem?_eq_some_iff.1 hj).1
   rw [Nat.zero_add, List.getElem?_append_left this]; exact hj
theorem Qmf {on : List Pr} {sa sb sn : Sl} {a b : List En} {K : Sl → Int → Heap → Prop} (ha : EnL A sa a) (hb : EnL A sb b) (hp : PrL A sn on) (hA : A.le H) (za : Sz 500 500 a) (zb : Sz 500 500 b) (hon : on.length ≤ 1000)
 (k : ∀ r D, H.le D → EnL D r (joinL on a b) → K r (joinR on a b) D) : Qdx C sa sb sn K H := by
 apply Qkg
 unfold Qhh
 refine Qma ha hb hA za zb (fun s t D hD hn => QA (by simpa using hn) ?_) fun r1 r2 D hD h0 e1 e2 => ?_
 ·have := k Sl.nil D hD (by unfold joinL; rw [if_pos (.inl hn)]; exact EnL.nil)
  have e : joinR on a b = errE a := by unfold joinR err2; rw [if_pos hn]
  rw [e] at this; exact this
 refine ift.of (fun he2 => ?_) (fun he2 => ?_)
 ·have := k Sl.nil D hD (by unfold joinL; rw [if_pos (.inr (ne0 he2))]; exact EnL.nil)
  have e : joinR on a b = errE b := by unfold joinR err2; rw [if_neg (by simpa using h0), if_pos (ne0 he2)]
  rw [e] at this; exact this
 have hb0 := eq0 he2
 have hAD := hA.trans hD
 have zca := za.cln
 have zcb := zb.cln
 have n1 := zca.1
 have n2 := zcb.1
 have hmul : ∀ n, n ≤ 500 → n * (clnE b).length ≤ 250000 := fun n hn2 => by have := Nat.mul_le_mul hn2 n2; omega
 refine ⟨fun z F => ∃ (i : Nat) (ys : List Qa), z.2 = (i : Int) ∧ i ≤ (clnE a).length ∧ EnW D F (pairE on ((clnE a).take i) (clnE b)) z.1 ys, fun z _ => (clnE a).length - z.2.toNat, ⟨0, [], rfl, Nat.zero_le _, EnW.nil⟩, ?_⟩
 rintro ⟨r, _⟩ F ⟨i, ys, rfl, hi, hg⟩
 have hlen : (pairE on ((clnE a).take i) (clnE b)).length ≤ i * (clnE b).length := by have := QkK (on := on) (a := (clnE a).take i) (b := clnE b); rw [List.length_take, Nat.min_eq_left hi] at this; exact this
 rw [e1.len]
 refine ift.of (fun hc => ?_) (fun hc => ?_)
 ·have hlt : i < (clnE a).length := by have := of_decide_eq_true hc; dsimp only at this; omega
  have hma := List.getElem_mem hlt
  have hmi := hmul (i + 1) (by omega)
  rw [Nat.add_mul] at hmi
  refine ⟨fun z F2 => ∃ (j : Nat) (zs : List Qa), z.2 = (j : Int) ∧ j ≤ (clnE b).length ∧ EnW D F2 (pairE on ((clnE a).take i) (clnE b) ++ (((clnE b).take j).filter fun y => fitB on (clnE a)[i].1 y.1).map fun y => ((clnE a)[i].1 ++ y.1, (clnE a)[i].2 * y.2)) z.1 zs, fun z _ => (clnE b).length - z.2.toNat, ⟨0, ys, rfl, Nat.zero_le _, by simpa using hg⟩, ?_⟩
  rintro ⟨r3, _⟩ F2 ⟨j, zs, rfl, hj, hg3⟩
  have hlen2 : (pairE on ((clnE a).take i) (clnE b) ++ (((clnE b).take j).filter fun y => fitB on (clnE a)[i].1 y.1).map fun y => ((clnE a)[i].1 ++ y.1, (clnE a)[i].2 * y.2)).length ≤ 1000000 := by
   have h1 := List.length_filter_le (fun y : En => fitB on (clnE a)[i].1 y.1) ((clnE b).take j)
   rw [List.length_take] at h1
   rw [List.length_append, List.length_map]; omega
  have hDF := hg3.own.le
  rw [e2.len]
  refine ift.of (fun hc => ?_) (fun hc => ?_)
  ·have hjl : j < (clnE b).length := by have := of_decide_eq_true hc; dsimp only at this; omega
   have hmb := List.getElem_mem hjl
   have hsn : (((clnE b).take (j + 1)).filter fun y => fitB on (clnE a)[i].1 y.1).map (fun y => ((clnE a)[i].1 ++ y.1, (clnE a)[i].2 * y.2)) = ((((clnE b).take j).filter fun y => fitB on (clnE a)[i].1 y.1).map fun y => ((clnE a)[i].1 ++ y.1, (clnE a)[i].2 * y.2)) ++ (if fitB on (clnE a)[i].1 (clnE b)[j].1 then [((clnE a)[i].1 ++ (clnE b)[j].1, (clnE a)[i].2 * (clnE b)[j].2)] else []) := by
    rw [takeS hjl, List.filter_append, List.map_append]
    cases hf : fitB on (clnE a)[i].1 (clnE b)[j].1 <;> simp [List.filter_cons, hf]
   refine ⟨fun z F3 => ∃ zs2, EnW D F3 (pairE on ((clnE a).take i) (clnE b) ++ (((clnE b).take (j + 1)).filter fun y => fitB on (clnE a)[i].1 y.1).map fun y => ((clnE a)[i].1 ++ y.1, (clnE a)[i].2 * y.2)) z zs2, ?_, ?_⟩
   ·have sl1 := Qaq (clnE a)[i].1
    have sl2 := Qaq (clnE b)[j].1
    have sa1 := zca.2 _ hma
    have sb1 := zcb.2 _ hmb
    refine ⟨F2, Heap.le.refl _, ?_⟩
    refine SlIs.fL e1 hDF (z := 2) (fun _ => rfl) (by omega) rfl hlt (j := 0) (f := fun y => y.Row) (fun _ => rfl) fun y1 h1 => SlIs.fL e2 hDF (z := 2) (fun _ => rfl) (by omega) rfl hjl (j := 0) (f := fun y => y.Row) (fun _ => rfl) fun y2 h2 => ?_
    refine Qo1 h1.1 h2.1 (hp.le hAD) hDF h1.2.1 h2.2.1 (by omega) (by omega) (by omega) ⟨Heap.le.refl _, ?_⟩
    refine ift.of (fun hf => ?_) (fun hf => ?_)
    ·intro b38 n38
     have lb := Heap.le_put n38 (g := .row []) (m := true)
     refine SlIs.fL e1 (hDF.trans lb) (z := 2) (fun _ => rfl) (by omega) rfl hlt (j := 0) (f := fun y => y.Row) (fun _ => rfl) fun y3 h3 => ?_
     obtain ⟨xs, x1, x2, x3⟩ := h3.1
     have xl := x3.len
     refine Qdt (zc := Qb.c Qb.zero) (QjM (z := 4) n38) (QbR (hDF.trans lb) x1) (by rw [flat4]; show _ = y3.Row.len * 4; omega) (Qod xs) (by show (0 + y3.Row.len) * 56 ≤ _; omega) (by show 0 + y3.Row.len ≤ _; omega) fun r47 E47 q1 q2 => ?_
     have q2 : r47.len = y3.Row.len := by rw [q2]; show 0 + _ = _; omega
     refine SlIs.fL e2 (hDF.trans q1.le) (z := 2) (fun _ => rfl) (by omega) rfl hjl (j := 0) (f := fun y => y.Row) (fun _ => rfl) fun y4 h4 => ?_
     obtain ⟨us, u1, u2, u3⟩ := h4.1
     have ul := u3.len
     refine Qdt (zc := Qb.c Qb.zero) q1 (QbR (hDF.trans q1.le) u1) (by rw [flat4]; show _ = y4.Row.len * 4; omega) (Qod us) (by omega) (by omega) fun r56 H57 q3 q4 => ?_
     have hDo : D.le (H57.off r3) := (Heap.le_off hg3.own.le hg3.own.fresh).trans (QhL q3.le)
     refine ⟨H57.off r3, Heap.off_le _ _, ?_⟩
     refine SlIs.fI e1 hDo (z := 2) (fun _ => rfl) (by omega) rfl hlt (j := 1) (f := fun y => y.N) (fun _ => rfl) fun y5 h5 => SlIs.fI e2 hDo (z := 2) (fun _ => rfl) (by omega) rfl hjl (j := 1) (f := fun y => y.N) (fun _ => rfl) fun y6 h6 => ?_
     intro b75 n75
     have lb75 := Heap.le_put n75 (g := .row (Qa.c (⟨r56, (w .i64 (y5.N * y6.N))⟩ : Qa) ++ [])) (m := true)
     refine ⟨(Heap.off_le _ _).trans lb75, ?_⟩
     have mr := QnE (Qcp _ hma) (Qcp _ hmb)
     have hv : VRow (H57.off r3) r56 ((clnE a)[i].1 ++ (clnE b)[j].1) := by
      refine ⟨xs ++ us, ?_, by rw [List.length_append]; omega, Qfo (x3.le hDo) (u3.le hDo)⟩
      have := offr q3 (s := r3) fun p hp => hg3.own.own.mine hp
      rw [List.nil_append, ← List.flatMap_append] at this
      exact this
     refine hg3.stepS (e := ((clnE a)[i].1 ++ (clnE b)[j].1, (clnE a)[i].2 * (clnE b)[j].2)) (y := (⟨r56, (w .i64 (y5.N * y6.N))⟩ : Qa)) (q3.le.trans lb75) (Heap.put_same ..) ⟨hv.le (QhL lb75), QhH h1.2.1 h2.2.1, by rw [List.length_append]; omega, ?_, by dsimp only; omega, by dsimp only; omega⟩ hlen2 fun rr B2 hh hle => ⟨(QhL lb75).trans hle, zs ++ [(⟨r56, (w .i64 (y5.N * y6.N))⟩ : Qa)], ?_⟩
     ·show w .i64 (y5.N * y6.N) = _
      rw [h5.2.2.2.1, h6.2.2.2.1, Qq (by omega) (by omega)]
     ·rw [hsn, hf, if_pos rfl, ← List.append_assoc]; exact hh
    ·refine ⟨zs, ?_⟩
     rw [hsn, hf]
     simpa using hg3
   ·rintro z F3 ⟨zs2, h3⟩
    rw [Qq (by dsimp only; omega) (by dsimp only; omega)]
    exact ⟨⟨j + 1, zs2, by dsimp only; omega, by omega, h3⟩, by first | omega | (dsimp only; omega)⟩
  ·have hje : j = (clnE b).length := by have := of_decide_eq_false hc; dsimp only at this; omega
   subst hje
   rw [List.take_length] at hg3
   rw [Qq (by dsimp only; omega) (by dsimp only; omega)]
   exact ⟨⟨i + 1, zs, by dsimp only; omega, by omega, by rw [takeS hlt, Qlr]; exact hg3⟩, by first | omega | (dsimp only; omega)⟩
 ·have hie : i = (clnE a).length := by have := of_decide_eq_false hc; dsimp only at this; omega
  subst hie
  rw [List.take_length] at hg hlen
  have := hmul _ n1
  have hz : Sz 1000000 1000000 (pairE on (clnE a) (clnE b)) := (zca.pair (on := on) zcb).up (by omega) (by omega)
  refine dCleanF (hg.en (by omega)) (Heap.le.refl _) hz fun r80 H82 h82 e80 => ?_
  have := k r80 H82 (hD.trans (hg.own.le.trans h82)) (by unfold joinL; rw [if_neg (by rintro (h | h); exact h h0; exact h hb0)]; exact e80)
  have e : joinR on a b = errE (joinP on a b) := by unfold joinR err2; rw [if_neg (by simpa using h0), if_neg (by simpa using hb0)]
  rw [e] at this; exact this
end
end
section
open Go Go.Proofs
theorem QnL {l : List En} {e : En} (he : e ∈ posE (clnE l)) : mayR e.1 = true := by
 obtain ⟨x, hx, rfl⟩ := List.mem_map.1 he
 exact (QcM x (List.mem_filter.1 hx).1).1
section
variable {C : Ctx} {H A : Heap}
theorem Qmd {on : List Pr} {sa sb sn : Sl} {a b : List En} {K : Sl → Int → Heap → Prop} (ha : EnL A sa a) (hb : EnL A sb b) (hp : PrL A sn on) (hA : A.le H) (za : Sz 500 500 a) (zb : Sz 500 500 b) (hon : on.length ≤ 1000)
 (k : ∀ r D, H.le D → EnL D r (antiL on a b) → K r (antiR a b) D) : Qdw C sa sb sn K H := by
 apply Qkf
 unfold Qhg
 refine Qma ha hb hA za zb (fun s t D hD hn => QA (by simpa using hn) ?_) fun r1 r2 D hD h0 e1 e2 => ?_
 ·have := k Sl.nil D hD (by unfold antiL; rw [if_pos (.inl hn)]; exact EnL.nil)
  have e : antiR a b = errE a := by unfold antiR err2; rw [if_pos hn]
  rw [e] at this; exact this
 refine ift.of (fun he2 => ?_) (fun he2 => ?_)
 ·have := k Sl.nil D hD (by unfold antiL; rw [if_pos (.inr (ne0 he2))]; exact EnL.nil)
  have e : antiR a b = errE b := by unfold antiR err2; rw [if_neg (by simpa using h0), if_pos (ne0 he2)]
  rw [e] at this; exact this
 have hb0 := eq0 he2
 have hAD := hA.trans hD
 have zca := za.cln
 have zcb := zb.cln
 have n1 := zca.1
 have n2 := zcb.1
 refine ⟨fun z F => ∃ (i : Nat) (ys : List Qa), z.2 = (i : Int) ∧ i ≤ (clnE a).length ∧ EnX D D F (noneE on ((clnE a).take i) (posE (clnE b))) z.1 ys, fun z _ => (clnE a).length - z.2.toNat, ⟨0, [], rfl, Nat.zero_le _, EnX.nil⟩, ?_⟩
 rintro ⟨r, _⟩ F ⟨i, ys, rfl, hi, hg⟩
 have hDF := hg.own.le
 have hlen : (noneE on ((clnE a).take i) (posE (clnE b))).length ≤ i := Nat.le_trans (List.length_filter_le ..) (by rw [List.length_take]; omega)
 rw [e1.len]
 refine ift.of (fun hc => ?_) (fun hc => ?_)
 ·have hlt : i < (clnE a).length := by have := of_decide_eq_true hc; dsimp only at this; omega
  have hma := List.getElem_mem hlt
  have sl1 := Qaq (clnE a)[i].1
  have sa1 := zca.2 _ hma
  have hsn : noneE on ((clnE a).take (i + 1)) (posE (clnE b)) = noneE on ((clnE a).take i) (posE (clnE b)) ++ (if ((clnE b).any fun y => decide (y.2 > 0) && fitB on (clnE a)[i].1 y.1) then [] else [(clnE a)[i]]) := by
   unfold noneE
   rw [takeS hlt, List.filter_append, ← QpN]
   cases hb2 : (posE (clnE b)).any fun y => fitB on (clnE a)[i].1 y.1 <;> simp [List.filter_cons, hb2]
  refine ⟨fun z F2 => ∃ ys2, EnX D D F2 (noneE on ((clnE a).take (i + 1)) (posE (clnE b))) z ys2, ?_, ?_⟩
  ·refine ⟨fun z F2 => F2 = F ∧ ∃ j : Nat, z.2 = (j : Int) ∧ j ≤ (clnE b).length ∧ z.1 = ((clnE b).take j).any fun y => decide (y.2 > 0) && fitB on (clnE a)[i].1 y.1, fun z _ => (clnE b).length - z.2.toNat, ⟨rfl, 0, rfl, Nat.zero_le _, rfl⟩, ?_⟩
   rintro ⟨bb, _⟩ F2 ⟨rfl, j, rfl, hj, hbb⟩
   dsimp only at hbb
   rw [e2.len]
   refine ift.of (fun hc => ?_) (fun hc => ?_)
   ·have hjl : j < (clnE b).length := by have := of_decide_eq_true hc; dsimp only at this; omega
    have hmb := List.getElem_mem hjl
    have sl2 := Qaq (clnE b)[j].1
    have sb1 := zcb.2 _ hmb
    refine ⟨fun z F3 => F3 = F2 ∧ z = (bb || (decide ((clnE b)[j].2 > 0) && fitB on (clnE a)[i].1 (clnE b)[j].1)), ?_, ?_⟩
    ·refine ⟨F2, Heap.le.refl _, ift.of (fun h1 => ⟨rfl, ?_⟩) (fun h1 => ?_)⟩
     ·have h1 : bb = true := h1
      rw [h1]; rfl
     have h1 : bb = false := h1
     refine SlIs.fI e2 hDF (z := 2) (fun _ => rfl) (by omega) rfl hjl (j := 1) (f := fun y => y.N) (fun _ => rfl) fun y2 h2 => ?_
     rw [h2.2.2.2.1]
     refine ift.of (fun h3 => ?_) (fun h3 => ⟨rfl, ?_⟩)
     ·refine SlIs.fL e1 hDF (z := 2) (fun _ => rfl) (by omega) rfl hlt (j := 0) (f := fun y => y.Row) (fun _ => rfl) fun y1 h4 => SlIs.fL e2 hDF (z := 2) (fun _ => rfl) (by omega) rfl hjl (j := 0) (f := fun y => y.Row) (fun _ => rfl) fun y3 h5 => ?_
      refine Qo1 h4.1 h5.1 (hp.le hAD) hDF h4.2.1 h5.2.1 (by omega) (by omega) (by omega) ⟨Heap.le.refl _, rfl, ?_⟩
      rw [h1, h3]; rfl
     ·rw [h1, h3]; rfl
    ·rintro z F3 ⟨rfl, rfl⟩
     rw [Qq (by dsimp only; omega) (by dsimp only; omega)]
     refine ⟨⟨rfl, j + 1, by dsimp only; omega, by omega, ?_⟩, by first | omega | (dsimp only; omega)⟩
     rw [takeS hjl, List.any_append, ← hbb]; simp
   ·have hje : j = (clnE b).length := by have := of_decide_eq_false hc; dsimp only at this; omega
    rw [hje, List.take_length] at hbb
    rw [← hbb] at hsn
    refine ift.of (fun h1 => ?_) (fun h1 => ?_)
    ·have h1 : bb = false := by simpa using h1
     refine SlIs.ld e1 hDF (z := 2) (fun _ => rfl) (by omega) rfl hlt fun y2 h2 => ?_
     refine hg.step (e := (clnE a)[i]) (y := y2) (Heap.le.refl _) h2 (by omega) fun r2 B2 h3 _ => ⟨ys ++ [y2], ?_⟩
     rw [hsn, h1]; exact h3
    ·have h1 : bb = true := by simpa using h1
     refine ⟨ys, ?_⟩
     rw [hsn, h1]; simpa using hg
  ·rintro z F2 ⟨ys2, h2⟩
   rw [Qq (by dsimp only; omega) (by dsimp only; omega)]
   exact ⟨⟨i + 1, ys2, by dsimp only; omega, by omega, h2⟩, by first | omega | (dsimp only; omega)⟩
 ·have hie : i = (clnE a).length := by have := of_decide_eq_false hc; dsimp only at this; omega
  subst hie
  rw [List.take_length] at hg hlen
  have hz : Sz 1000000 1000000 (noneE on (clnE a) (posE (clnE b))) := (zca.none).up (by omega) (by omega)
  have hs : EnL F r (noneE on (clnE a) (posE (clnE b))) := SlIs.le (Heap.le.refl _) (hg.sl (by omega)) fun _ _ _ h => h.le hDF
  refine dCleanF hs (Heap.le.refl _) hz fun r80 H82 h82 e80 => ?_
  obtain ⟨s1, s2⟩ := Qlb on a b
  have s1' : errE (noneE on (clnE a) (posE (clnE b))) = 0 := s1
  have s2' : clnE (noneE on (clnE a) (posE (clnE b))) = antiP on a b := s2
  rw [s2'] at e80
  rw [s1']
  have := k r80 H82 (hD.trans (hDF.trans h82)) (by unfold antiL; rw [if_neg (by rintro (h | h); exact h h0; exact h hb0)]; exact e80)
  have e : antiR a b = 0 := by unfold antiR err2; rw [if_neg (by simpa using h0), if_neg (by simpa using hb0)]
  rw [e] at this; exact this
theorem Qky {sa sda sb sdb : Sl} {a da b db : List En} {K : Sl → Sl → Int → Heap → Prop} (ha : EnL A sa a) (hda : EnL A sda da) (hb : EnL A sb b) (hdb : EnL A sdb db) (hA : A.le H)
 (za : Sz 1000 1000 a) (zda : Sz 1000 1000 da) (zb : Sz 1000 1000 b) (zdb : Sz 1000 1000 db)
 (k : ∀ s t D, H.le D → (partsE a da b db = 0 → EnL D s (clnE (a ++ da)) ∧ EnL D t (clnE (b ++ db))) → K s t (partsE a da b db) D) : Qcf C sa sda sb sdb K H := by
 apply Qjh
 unfold QfX
 intro b1 n1
 have l1 := Heap.le_put n1 (g := .row [slv sa, slv sda, slv sb, slv sdb]) (m := true)
 have c1 : (H.put b1 (.row [slv sa, slv sda, slv sb, slv sdb])) b1 = some (true, .row [slv sa, slv sda, slv sb, slv sdb]) := Heap.put_same ..
 have hA1 := hA.trans l1
 generalize H.put b1 (.row [slv sa, slv sda, slv sb, slv sdb]) = H1 at *
 have eL : ∀ i, (h : i < 4) → EnL A ([sa, sda, sb, sdb][i]) ([a, da, b, db][i]) ∧ Sz 1000 1000 ([a, da, b, db][i]) := fun i h => by
  rcases (by omega : i = 0 ∨ i = 1 ∨ i = 2 ∨ i = 3) with rfl | rfl | rfl | rfl
  ·exact ⟨ha, za⟩
  ·exact ⟨hda, zda⟩
  ·exact ⟨hb, zb⟩
  ·exact ⟨hdb, zdb⟩
 have pE : ∀ i, (h : i < 4) → (∀ j, (h : j < 4) → j < i → errE ([a, da, b, db][j]) = 0) → errE ([a, da, b, db][i]) ≠ 0 → partsE a da b db = errE ([a, da, b, db][i]) := fun i h h2 h3 => by
  rcases (by omega : i = 0 ∨ i = 1 ∨ i = 2 ∨ i = 3) with rfl | rfl | rfl | rfl
  ·have h3 : errE a ≠ 0 := h3
   unfold partsE; rw [if_pos h3]; rfl
  ·have h3 : errE da ≠ 0 := h3
   have q0 := h2 0 (by omega) (by omega)
   unfold partsE; rw [if_neg (by simpa using q0), if_pos h3]; rfl
  ·have h3 : errE b ≠ 0 := h3
   have q0 := h2 0 (by omega) (by omega)
   have q1 := h2 1 (by omega) (by omega)
   unfold partsE; rw [if_neg (by simpa using q0), if_neg (by simpa using q1), if_pos h3]; rfl
  ·have h3 : errE db ≠ 0 := h3
   have q0 := h2 0 (by omega) (by omega)
   have q1 := h2 1 (by omega) (by omega)
   have q2 := h2 2 (by omega) (by omega)
   unfold partsE; rw [if_neg (by simpa using q0), if_neg (by simpa using q1), if_neg (by simpa using q2), if_pos h3]; rfl
 refine ⟨fun x D => H1.le D ∧ ∃ i : Nat, x = (i : Int) ∧ i ≤ 4 ∧ ∀ j, (h : j < 4) → j < i → errE ([a, da, b, db][j]) = 0, fun x _ => 4 - x.toNat, ⟨Heap.le.refl _, 0, rfl, by omega, fun j _ h => by omega⟩, ?_⟩
 rintro _ D ⟨hD, i, rfl, hi, hq⟩
 have hAD := hA1.trans hD
 refine ift.of (fun hc => ?_) (fun hc => ?_)
 ·have hlt : i < 4 := by have : (i : Int) < 4 := of_decide_eq_true hc; omega
  obtain ⟨hE, hZ⟩ := eL i hlt
  refine ⟨(b1, 0), rfl, rfl, by omega, by show (i : Int) < 4; omega, ⟨[sa, sda, sb, sdb][i], ?_, ?_⟩⟩
  ·have hc1 := hD _ _ c1
   rw [QeG hc1]
   show [slv sa, slv sda, slv sb, slv sdb][0 + (i : Int).toNat * 1]? = _
   rcases (by omega : i = 0 ∨ i = 1 ∨ i = 2 ∨ i = 3) with rfl | rfl | rfl | rfl <;> rfl
  refine dCleanF hE hAD (hZ.up (by omega) (by omega)) fun r14 H16 h16 e14 => ?_
  refine ift.of (fun he => ?_) (fun he => ?_)
  ·have hp := pE i hlt hq (ne0 he)
   have := k Sl.nil Sl.nil H16 (l1.trans (hD.trans h16)) fun h0 => absurd (hp.symm.trans h0) (ne0 he)
   rw [hp] at this; exact this
  ·rw [Qq (by omega) (by omega)]
   refine ⟨⟨hD.trans h16, i + 1, by omega, by omega, fun j hj hji => ?_⟩, by first | omega | (dsimp only; omega)⟩
   rcases Nat.lt_or_ge j i with h4 | h4
   ·exact hq j hj h4
   ·have : j = i := by omega
    subst this; exact eq0 he
 ·have hie : i = 4 := by have : ¬ (i : Int) < 4 := of_decide_eq_false hc; omega
  subst hie
  have f0 := hq 0 (by omega) (by omega)
  have f1 := hq 1 (by omega) (by omega)
  have f2 := hq 2 (by omega) (by omega)
  have f3 := hq 3 (by omega) (by omega)
  have hp0 : partsE a da b db = if errE (a ++ da) ≠ 0 then errE (a ++ da) else errE (b ++ db) := by
   unfold partsE; rw [if_neg (by simpa using f0), if_neg (by simpa using f1), if_neg (by simpa using f2), if_neg (by simpa using f3)]
  refine dAddF ha hda hAD za zda fun r18 H20 h20 e18 => ?_
  refine ift.of (fun he => ?_) (fun he => ?_)
  ·have hp : partsE a da b db = errE (a ++ da) := by rw [hp0, if_pos (ne0 he)]
   have := k Sl.nil Sl.nil H20 (l1.trans (hD.trans h20)) fun h0 => absurd (hp.symm.trans h0) (ne0 he)
   rw [hp] at this; exact this
  refine dAddF hb hdb (hAD.trans h20) zb zdb fun r22 H24 h24 e22 => ?_
  have hp : partsE a da b db = errE (b ++ db) := by rw [hp0, if_neg (by simpa using eq0 he)]
  have := k r18 r22 H24 (l1.trans (hD.trans (h20.trans h24))) fun _ => ⟨e18.le h24, e22⟩
  rw [hp] at this; exact this
theorem Qjr {on : List Pr} {sa sda sb sdb sn : Sl} {a da b db : List En} {K : Sl → Int → Heap → Prop} (ha : EnL A sa a) (hda : EnL A sda da) (hb : EnL A sb b) (hdb : EnL A sdb db) (hp : PrL A sn on) (hA : A.le H)
 (za : Sz 250 250 a) (zda : Sz 250 250 da) (zb : Sz 250 250 b) (zdb : Sz 250 250 db) (hon : on.length ≤ 1000)
 (k : ∀ r D, H.le D → EnL D r (jcL on a da b db) → K r (jcR on a da b db) D) : Qce C sa sda sb sdb sn K H := by
 apply Qgd
 unfold Qdo
 have u : ∀ {l : List En}, Sz 250 250 l → Sz 1000 1000 l := fun h => h.up (by omega) (by omega)
 refine Qky ha hda hb hdb hA (u za) (u zda) (u zb) (u zdb) fun s t D hD hst => ?_
 refine ift.of (fun he => ?_) (fun he => ?_)
 ·have := k Sl.nil D hD (by unfold jcL; rw [if_pos (.inl (ne0 he))]; exact EnL.nil)
  have e : jcR on a da b db = partsE a da b db := by unfold jcR; rw [if_pos (ne0 he)]
  rw [e] at this; exact this
 have hp0 := eq0 he
 obtain ⟨hs, ht⟩ := hst hp0
 obtain ⟨z1, z2, z3, z4, z5, z6⟩ := QgV hp0
 have hAD := hA.trans hD
 have zx : Sz 500 500 (clnE (a ++ da)) := (za.app zda).cln.up (by omega) (by omega)
 have zy : Sz 500 500 (clnE (b ++ db)) := (zb.app zdb).cln.up (by omega) (by omega)
 have zw : Sz 62500 500 (joinP on a b) := za.joinP zb
 have zi : Sz 250000 1000 (joinP on (a ++ da) (b ++ db)) := (za.app zda).joinP (zb.app zdb) |>.up (by omega) (by omega)
 have eJ : joinP on (clnE (a ++ da)) (clnE (b ++ db)) = joinP on (a ++ da) (b ++ db) := Qou (QbD _).2 (QbD _).2
 have r1 : joinR on a b = errE (joinP on a b) := by unfold joinR err2; rw [if_neg (by simpa using z1), if_neg (by simpa using z3)]
 have r2 : joinR on (clnE (a ++ da)) (clnE (b ++ db)) = errE (joinP on (a ++ da) (b ++ db)) := by unfold joinR err2; rw [if_neg (by simpa using (QbD (a ++ da)).1), if_neg (by simpa using (QbD (b ++ db)).1), eJ]
 have q1 : joinL on a b = clnE (joinP on a b) := by unfold joinL; rw [if_neg (by rintro (h | h); exact h z1; exact h z3)]
 have q2 : joinL on (clnE (a ++ da)) (clnE (b ++ db)) = clnE (joinP on (a ++ da) (b ++ db)) := by unfold joinL; rw [if_neg (by rintro (h | h); exact h (QbD _).1; exact h (QbD _).1), eJ]
 refine Qmf ha hb hp hAD (za.up (by omega) (by omega)) (zb.up (by omega) (by omega)) hon fun r6 H8 h8 e6 => ?_
 rw [r1]
 rw [q1] at e6
 refine ift.of (fun he2 => ?_) (fun he2 => ?_)
 ·have hn : errE (joinP on a b) ≠ 0 := ne0 he2
  have := k Sl.nil H8 (hD.trans h8) (by unfold jcL; rw [if_pos (.inr (.inl hn))]; exact EnL.nil)
  have e : jcR on a da b db = errE (joinP on a b) := by unfold jcR; rw [if_neg (by simpa using hp0), if_pos hn]
  rw [e] at this; exact this
 have hw0 : errE (joinP on a b) = 0 := eq0 he2
 refine Qmf (hs.le h8) (ht.le h8) (hp.le (hAD.trans h8)) (Heap.le.refl _) zx zy hon fun r10 H12 h12 e10 => ?_
 rw [r2]
 rw [q2] at e10
 refine ift.of (fun he3 => ?_) (fun he3 => ?_)
 ·have hn : errE (joinP on (a ++ da) (b ++ db)) ≠ 0 := ne0 he3
  have := k Sl.nil H12 (hD.trans (h8.trans h12)) (by unfold jcL; rw [if_pos (.inr (.inr hn))]; exact EnL.nil)
  have e : jcR on a da b db = errE (joinP on (a ++ da) (b ++ db)) := by unfold jcR; rw [if_neg (by simpa using hp0), if_neg (by simpa using hw0), if_pos hn]
  rw [e] at this; exact this
 have hi0 : errE (joinP on (a ++ da) (b ++ db)) = 0 := eq0 he3
 refine dLessF e10 (e6.le h12) (Heap.le.refl _) (zi.cln.up (by omega) (by omega)) (zw.cln.up (by omega) (by omega)) Qcp fun r14 H16 h16 e14 => ?_
 have := k r14 H16 (hD.trans (h8.trans (h12.trans h16))) (by unfold jcL; rw [if_neg (by rintro (h | h | h); exact h hp0; exact h hw0; exact h hi0)]; exact e14)
 have e : jcR on a da b db = errE (clnE (joinP on (a ++ da) (b ++ db)) ++ negL (clnE (joinP on a b))) := by unfold jcR; rw [if_neg (by simpa using hp0), if_neg (by simpa using hw0), if_neg (by simpa using hi0)]
 rw [e] at this; exact this
theorem Qjq {on : List Pr} {sa sda sb sdb sn : Sl} {a da b db : List En} {K : Sl → Int → Heap → Prop} (ha : EnL A sa a) (hda : EnL A sda da) (hb : EnL A sb b) (hdb : EnL A sdb db) (hp : PrL A sn on) (hA : A.le H)
 (za : Sz 250 250 a) (zda : Sz 250 250 da) (zb : Sz 250 250 b) (zdb : Sz 250 250 db) (hon : on.length ≤ 1000)
 (k : ∀ r D, H.le D → EnL D r (acL on a da b db) → K r (acR on a da b db) D) : Qcd C sa sda sb sdb sn K H := by
 apply Qgc
 unfold Qdn
 have u : ∀ {l : List En}, Sz 250 250 l → Sz 1000 1000 l := fun h => h.up (by omega) (by omega)
 refine Qky ha hda hb hdb hA (u za) (u zda) (u zb) (u zdb) fun s t D hD hst => ?_
 refine ift.of (fun he => ?_) (fun he => ?_)
 ·have := k Sl.nil D hD (by unfold acL; rw [if_pos (ne0 he)]; exact EnL.nil)
  have e : acR on a da b db = partsE a da b db := by unfold acR; rw [if_pos (ne0 he)]
  rw [e] at this; exact this
 have hp0 := eq0 he
 obtain ⟨hs, ht⟩ := hst hp0
 obtain ⟨z1, z2, z3, z4, z5, z6⟩ := QgV hp0
 have hAD := hA.trans hD
 have zx : Sz 500 500 (clnE (a ++ da)) := (za.app zda).cln.up (by omega) (by omega)
 have zy : Sz 500 500 (clnE (b ++ db)) := (zb.app zdb).cln.up (by omega) (by omega)
 have zw : Sz 250 250 (antiP on a b) := za.anti
 have zi : Sz 500 250 (antiP on (a ++ da) (b ++ db)) := (za.app zda).anti.up (by omega) (by omega)
 have eJ : antiP on (clnE (a ++ da)) (clnE (b ++ db)) = antiP on (a ++ da) (b ++ db) := Qol (QbD _).2 (QbD _).2
 have a1 := Qhu (on := on) z1 z3
 have a2 := Qhu (on := on) (QbD (a ++ da)).1 (QbD (b ++ db)).1
 rw [eJ] at a2
 refine Qmd ha hb hp hAD (za.up (by omega) (by omega)) (zb.up (by omega) (by omega)) hon fun r6 H8 h8 e6 => ?_
 rw [a1.1]
 rw [a1.2] at e6
 refine Qt rfl ?_
 refine Qmd (hs.le h8) (ht.le h8) (hp.le (hAD.trans h8)) (Heap.le.refl _) zx zy hon fun r10 H12 h12 e10 => ?_
 rw [a2.1]
 rw [a2.2] at e10
 refine Qt rfl ?_
 have rg2 : ∀ e ∈ antiP on a b, -2147483647 ≤ e.2 ∧ e.2 ≤ 2147483647 := fun e he => Qcp e (List.mem_filter.1 he).1
 refine dLessF e10 (e6.le h12) (Heap.le.refl _) (zi.up (by omega) (by omega)) (zw.up (by omega) (by omega)) rg2 fun r14 H16 h16 e14 => ?_
 have := k r14 H16 (hD.trans (h8.trans (h12.trans h16))) (by unfold acL; rw [if_neg (by simpa using hp0)]; exact e14)
 have e : acR on a da b db = errE (acW on a da b db) := by unfold acR; rw [if_neg (by simpa using hp0)]
 rw [e] at this; exact this
theorem Qgz {sa sda : Sl} {a da : List En} {K : Sl → Int → Heap → Prop} (ha : EnL A sa a) (hda : EnL A sda da) (hA : A.le H)
 (za : Sz 250 250 a) (zda : Sz 250 250 da) (k : ∀ r D, H.le D → EnL D r (dcL a da) → K r (dcR a da) D) : Qa7 C sa sda K H := by
 apply Qea
 unfold Qck
 have u : ∀ {l : List En}, Sz 250 250 l → Sz 1000 1000 l := fun h => h.up (by omega) (by omega)
 have znil : Sz 1000 1000 ([] : List En) := ⟨by simp, fun e he => by simp at he⟩
 refine Qky ha hda EnL.nil EnL.nil hA (u za) (u zda) znil znil fun s t D hD hst => ?_
 refine ift.of (fun he => ?_) (fun he => ?_)
 ·have := k Sl.nil D hD (by unfold dcL; rw [if_pos (ne0 he)]; exact EnL.nil)
  have e : dcR a da = partsE a da [] [] := by unfold dcR; rw [if_pos (ne0 he)]
  rw [e] at this; exact this
 have hp0 := eq0 he
 obtain ⟨hs, _⟩ := hst hp0
 obtain ⟨z1, z2, z3, z4, z5, z6⟩ := QgV hp0
 have hAD := hA.trans hD
 have zx : Sz 1000 1000 (clnE (a ++ da)) := (za.app zda).cln.up (by omega) (by omega)
 refine Qme ha hAD (u za) fun r6 H8 h8 e6 => ?_
 rw [z1]
 refine Qt rfl ?_
 refine Qme (hs.le h8) (Heap.le.refl _) zx fun r10 H12 h12 e10 => ?_
 rw [(QbD (a ++ da)).1]
 rw [(QbD (a ++ da)).2] at e10
 refine Qt rfl ?_
 have rg2 : ∀ e ∈ posE (clnE a), -2147483647 ≤ e.2 ∧ e.2 ≤ 2147483647 := fun e he => by
  obtain ⟨x, hx, rfl⟩ := List.mem_map.1 he
  exact ⟨by dsimp only; omega, by dsimp only; omega⟩
 have zp1 : Sz 250 250 (posE (clnE a)) := za.cln.pos
 have zp2 : Sz 1000 1000 (posE (clnE (a ++ da))) := zx.pos
 refine dLessF e10 (e6.le h12) (Heap.le.refl _) (zp2.up (by omega) (by omega)) (zp1.up (by omega) (by omega)) rg2 fun r14 H16 h16 e14 => ?_
 have dD : errE (chgE a da) = 0 := (Qp6 (a := a) zda.1).err (by decide)
 have t : ∀ r, totE (posE (clnE (a ++ da)) ++ negL (posE (clnE a))) r = totE (chgE a da) r := fun r => by
  rw [Qbq, QlE, QnK z5, QnK z1, Qpp z2]; omega
 have d0 : errE (posE (clnE (a ++ da)) ++ negL (posE (clnE a))) = 0 := by
  refine Qe3.2 ((Qe3.1 dD).of t (fun e he => ?_) fun e he => ?_)
  ·rcases List.mem_append.1 he with he | he
   ·exact (QnL he)
   ·exact QpE (fun e he => QnL he) e he
  ·rcases List.mem_append.1 he with he | he
   ·obtain ⟨x, hx, rfl⟩ := List.mem_map.1 he; rfl
   ·obtain ⟨y, hy, rfl⟩ := List.mem_map.1 he
    obtain ⟨x, hx, rfl⟩ := List.mem_map.1 hy; rfl
 rw [d0]
 rw [Qp7 d0 dD t] at e14
 have dc := Qmg hp0 dD
 have := k r14 H16 (hD.trans (h8.trans (h12.trans h16))) (by rw [dc.2]; exact e14)
 rw [dc.1] at this; exact this
end
end
section
open Go Go.Proofs
theorem Qoa {m n : Nat} : Sz m n ([] : List En) := ⟨by simp, fun e he => by simp at he⟩
theorem Qqj {on : List Pr} {a da b db : List En} (za : Sz 120 120 a) (zda : Sz 120 120 da) (zb : Sz 120 120 b) (zdb : Sz 120 120 db) : Sz 72000 240 (jcL on a da b db) := by
 unfold jcL
 split
 ·exact Qoa
 ·exact ((((za.app zda).joinP (zb.app zdb)).cln.app ((za.joinP zb).cln.neg)).cln).up (by omega) (by omega)
theorem Qqi {on : List Pr} {a da b db : List En} (za : Sz 120 120 a) (zda : Sz 120 120 da) (zb : Sz 120 120 b) (zdb : Sz 120 120 db) (oa : ∀ e ∈ a, okE e) (oda : ∀ e ∈ da, okE e) (ob : ∀ e ∈ b, okE e) (odb : ∀ e ∈ db, okE e) : ∀ e ∈ jcL on a da b db, okE e := by
 unfold jcL
 split
 ·intro e he; simp at he
 ·exact Qc8 (okA (okJ (okS (okA oa oda) ((za.app zda).up (Nat.le_refl _) (by omega))) (okS (okA ob odb) ((zb.app zdb).up (Nat.le_refl _) (by omega)))) (okNg (okJ (okS oa (za.up (Nat.le_refl _) (by omega))) (okS ob (zb.up (Nat.le_refl _) (by omega))))))
theorem Qp3 {on : List Pr} {a da b db : List En} (za : Sz 120 120 a) (zda : Sz 120 120 da) : Sz 360 120 (acL on a da b db) := by
 unfold acL
 split
 ·exact Qoa
 ·exact (((za.app zda).anti.app za.anti.neg).cln).up (by omega) (by omega)
theorem Qp2 {on : List Pr} {a da b db : List En} (oa : ∀ e ∈ a, okE e) (oda : ∀ e ∈ da, okE e) : ∀ e ∈ acL on a da b db, okE e := by
 unfold acL
 split
 ·intro e he; simp at he
 ·exact Qc8 (okAc oa oda)
theorem Qqa {a da : List En} (zda : Sz 120 120 da) : Sz 120 120 (dcL a da) := by
 unfold dcL
 split
 ·exact Qoa
 ·exact zda.chg.cln
theorem Qp9 {a da : List En} (oda : ∀ e ∈ da, okE e) : ∀ e ∈ dcL a da, okE e := by
 unfold dcL
 split
 ·intro e he; simp at he
 ·exact Qc8 (okChg oda)
section
variable {C : Ctx} {H A : Heap}
theorem Qii (hF : FmtC C) (hw : ∀ {K : Bool → Heap → Prop} {H : Heap}, (∀ H2, H.le H2 → K true H2) → Qb9 C K H) {v : CaseV} {x : Qi} {K : Bool → Heap → Prop} (hx : CaseIs H v x) (k : ∀ H2, K true H2) : QD C x K H := by
 apply QeT
 unfold QcD
 intro b1 n1
 have l1 := Heap.le_put n1 (g := .row (Qi.c x)) (m := true)
 have c1 : (H.put b1 (.row (Qi.c x))) b1 = some (true, .row (Qi.c x)) := Heap.put_same ..
 generalize H.put b1 (.row (Qi.c x)) = H2 at *
 refine bxT (c := Qi.c) c1 ?_
 have hx := hx.le l1
 refine QjV hx (Heap.le.refl _) fun r5 h5 => ?_
 refine ift.of (fun _ => hw fun H3 _ => k H3) (fun hb5 => ?_)
 have hB := h5 hb5
 have up2 : ∀ {l : List En}, Sz 120 120 l → Sz 250 250 l := fun h => h.up (by omega) (by omega)
 have vz : ∀ {l : List En}, Sz 120 120 l → ∀ e ∈ l, vsizes e.1 ≤ 1000000 := fun h e he => by have := h.2 e he; omega
 have za := hB.a.1
 have zda := hB.da.1
 have zb := hB.b.1
 have zdb := hB.db.1
 refine ⟨H2, Heap.le.refl _, fL c1 (t := x.A) rfl (fL c1 (t := x.DA) rfl (fL c1 (t := x.B) rfl (fL c1 (t := x.DB) rfl (fL c1 (t := x.On) rfl ?_))))⟩
 refine Qib hx.a (Heap.le.refl _) (by omega) (vz hB.a) fun ra ya H24 g1 => ⟨g1.own.le, ?_⟩
 refine Qib hx.da g1.own.le (by omega) (vz hB.da) fun rd yd H27 g2 => ⟨g1.own.le.trans g2.own.le, ?_⟩
 have l27 := g1.own.le.trans g2.own.le
 refine Qib hx.b l27 (by omega) (vz hB.b) fun rb yb H30 g3 => ⟨l27.trans g3.own.le, ?_⟩
 have l30 := l27.trans g3.own.le
 refine Qib hx.db l30 (by omega) (vz hB.db) fun re ye H33 g4 => ⟨l30.trans g4.own.le, ?_⟩
 have l33 := l30.trans g4.own.le
 refine QoA hx.on l33 (by have := hB.on; omega) fun rn H36 l36 hn => ⟨l33.trans l36, ?_⟩
 have lX := l33.trans l36
 have oa := hx.a.oks
 have oda := hx.da.oks
 have ob := hx.b.oks
 have odb := hx.db.oks
 have ea : EnL H36 ra v.a := (g1.en oa (by omega)).le (((g2.own.le.trans g3.own.le).trans g4.own.le).trans l36)
 have ed : EnL H36 rd v.da := (g2.en oda (by omega)).le ((g3.own.le.trans g4.own.le).trans l36)
 have eb : EnL H36 rb v.b := (g3.en ob (by omega)).le (g4.own.le.trans l36)
 have ee : EnL H36 re v.db := (g4.en odb (by omega)).le l36
 have hon : v.on.length ≤ 1000 := by have := hB.on; omega
 have c1 := lX _ _ c1
 have hx := hx.le lX
 clear g1 g2 g3 g4 l36 l33 l30 l27 lX
 -- joins
 refine Qgp hF ea ed eb ee hn (Heap.le.refl _) (up2 hB.a) (up2 hB.da) (up2 hB.b) (up2 hB.db) hon fun r37 y37 H39 q1 => ?_
 have c39 := q1.own.le _ _ c1
 refine fL c39 (t := x.A) rfl (fL c39 (t := x.DA) rfl (fL c39 (t := x.B) rfl (fL c39 (t := x.DB) rfl (fL c39 (t := x.On) rfl ?_))))
 refine Qjr hx.a hx.da hx.b hx.db hx.on q1.own.le (up2 hB.a) (up2 hB.da) (up2 hB.b) (up2 hB.db) hon fun r50 H52 h52 w1 => ?_
 refine QlT (q1.up h52) (Qqi hB.a hB.da hB.b hB.db oa oda ob odb) (Nat.le_trans (Qqj hB.a hB.da hB.b hB.db).1 (by omega)) w1 (Heap.le.refl _) fun H54 l54 => ?_
 refine Qt rfl ?_
 have ea := ea.le l54
 have ed := ed.le l54
 have eb := eb.le l54
 have ee := ee.le l54
 have hn := hn.le l54
 have c1 := l54 _ _ c1
 have hx := hx.le l54
 clear q1 w1 c39 h52
 -- antijoins
 refine Qgo hF ea ed eb ee hn (Heap.le.refl _) (up2 hB.a) (up2 hB.da) (up2 hB.b) (up2 hB.db) hon fun r56 y56 H58 q1 => ?_
 have c39 := q1.own.le _ _ c1
 refine fL c39 (t := x.A) rfl (fL c39 (t := x.DA) rfl (fL c39 (t := x.B) rfl (fL c39 (t := x.DB) rfl (fL c39 (t := x.On) rfl ?_))))
 refine Qjq hx.a hx.da hx.b hx.db hx.on q1.own.le (up2 hB.a) (up2 hB.da) (up2 hB.b) (up2 hB.db) hon fun r69 H71 h71 w1 => ?_
 refine QlT (q1.up h71) (Qp2 oa oda) (Nat.le_trans (Qp3 hB.a hB.da).1 (by omega)) w1 (Heap.le.refl _) fun H73 l73 => ?_
 refine Qt rfl ?_
 have ea := ea.le l73
 have ed := ed.le l73
 have eb := eb.le l73
 have ee := ee.le l73
 have c1 := l73 _ _ c1
 have hx := hx.le l73
 clear q1 w1 c39 h71
 -- what is there
 refine Qd0 hF ea ed (Heap.le.refl _) (up2 hB.a) (up2 hB.da) fun r75 y75 H77 q1 => ?_
 have c39 := q1.own.le _ _ c1
 refine fL c39 (t := x.A) rfl (fL c39 (t := x.DA) rfl ?_)
 refine Qgz hx.a hx.da q1.own.le (up2 hB.a) (up2 hB.da) fun r82 H84 h84 w1 => ?_
 refine ⟨H73, q1.own.le.trans h84, ?_⟩
 refine QlT (q1.up h84) (Qp9 oda) (Nat.le_trans (Qqa hB.da).1 (by omega)) w1 (Heap.le.refl _) fun H89 l89 => ⟨l89, ?_⟩
 refine QA rfl (fL c1 (t := x.A) rfl ?_)
 refine Qit ea l89 (by omega) fun r94 H95 h95 w2 => ⟨l89.trans h95, ?_⟩
 have l95 := l89.trans h95
 refine Qe2 w2 (hx.a.le l95) (Heap.le.refl _) fun t1 ht1 => ⟨l95, ?_⟩
 refine QA (ht1.2 rfl) (fL c1 (t := x.DA) rfl ?_)
 refine Qit ed l95 (by omega) fun r103 H104 h104 w3 => ⟨l95.trans h104, ?_⟩
 have l104 := l95.trans h104
 refine Qe2 w3 (hx.da.le l104) (Heap.le.refl _) fun t2 ht2 => ⟨l104, ?_⟩
 refine QA (ht2.2 rfl) (fL c1 (t := x.B) rfl ?_)
 refine Qit eb l104 (by omega) fun r112 H113 h113 w4 => ⟨l104.trans h113, ?_⟩
 have l113 := l104.trans h113
 refine Qe2 w4 (hx.b.le l113) (Heap.le.refl _) fun t3 ht3 => ⟨l113, ?_⟩
 refine QA (ht3.2 rfl) (fL c1 (t := x.DB) rfl ?_)
 refine Qit ee l113 (by omega) fun r121 H122 h122 w5 => ⟨l113.trans h122, ?_⟩
 have l122 := l113.trans h122
 refine Qe2 w5 (hx.db.le l122) (Heap.le.refl _) fun t4 ht4 => ⟨l122, ?_⟩
 refine QA (ht4.2 rfl) ?_
 exact hw fun H129 h129 => ⟨l122.trans h129, k _⟩
end
end
section
set_option maxRecDepth 100000
open Go Go.Proofs
section
variable {P : Program} {W : World}
theorem Qqs {α β : Type} {R : α → β → Prop} {c : β → List Value} {t e : TypeId} {z n : Nat} {cs : List Value} (h : TrW P W n t cs) (ht : P.underlying t = some (.slice e)) (hz : P.cellsOf e = z) (hz0 : 0 < z) (hb : 1 ≤ P.bytesOf e)
 (ih : ∀ m, m < n → ∀ cs, TrW P W m e cs → ∃ (v : α) (x : β), cs = c x ∧ R v x) : ∃ (s : Sl) (l : List α), cs = [slv s] ∧ SlIs R c (heapOf W) s l := by
 obtain ⟨s, css, m, hm, h1, h2, h3, h4, h5, h6, h7⟩ := h.slice ht hz hz0
 have key : ∀ (css : List (List Value)), (∀ c' ∈ css, ∃ (v : α) (x : β), c' = c x ∧ R v x) → ∃ (l : List α) (xs : List β), css.flatten = xs.flatMap c ∧ css.length = xs.length ∧ l.length = xs.length ∧ ∀ (i : Nat) (v : α) (x : β), l[i]? = some v → xs[i]? = some x → R v x := by
  intro css
  induction css with
  | nil => intro _; exact ⟨[], [], rfl, rfl, rfl, fun i v x hv => by simp at hv⟩
  | cons c' css ihc =>
   intro hh
   obtain ⟨v, x, g1, g2⟩ := hh c' (List.mem_cons_self ..)
   obtain ⟨l, xs, k1, k2, k3, k4⟩ := ihc fun c' hc => hh c' (List.mem_cons_of_mem _ hc)
   refine ⟨v :: l, x :: xs, by rw [List.flatten_cons, List.flatMap_cons, k1, g1], by simp [k2], by simp [k3], fun i v' x' hv hx => ?_⟩
   cases i with
   | zero => simp at hv hx; subst hv; subst hx; exact g2
   | succ i => exact k4 i v' x' (by simpa using hv) (by simpa using hx)
 obtain ⟨l, xs, k1, k2, k3, k4⟩ := key css fun c' hc => ih m hm c' (h7 c' hc).2
 have hmx : reachBytes = 140737488351232 := rfl
 rw [hmx] at h4
 have hsl : s.len ≤ 140737488351232 := Nat.le_trans (Nat.le_mul_of_pos_right _ (by omega)) h4
 exact ⟨s, l, h1, xs, by rw [← k1]; exact h6, by omega, k3, by omega, k4⟩
end
section
variable {W : World}
theorem valTE : ValT Tryz.prog 44 42 := ⟨⟨_, Tryz.underlying44, rfl, ⟨_, _, rfl, rfl, rfl, Tryz.underlying5, by kernel_rfl⟩, ⟨_, _, rfl, rfl, rfl, Tryz.underlying2, by kernel_rfl⟩, ⟨_, _, rfl, rfl, rfl, Tryz.underlying9, by kernel_rfl⟩, ⟨_, rfl, rfl, rfl, by kernel_rfl⟩⟩, by kernel_rfl, Tryz.underlying42⟩
theorem Qqv (n : Nat) {cs : List Value} (h : TrW Tryz.prog W n 59 cs) : ∃ (v : En) (x : Qa), cs = Qa.c x ∧ EnIs (heapOf W) v x := by
 obtain ⟨hl, m, rfl, hf⟩ := h.struct Tryz.underlying59
 rw [show Tryz.prog.cellsOf 59 = 2 by kernel_rfl] at hl
 match cs, hl with
 | [q0, q1], _ =>
 have g0 : TrW Tryz.prog W m 42 (([q0, q1].drop 0).take (Tryz.prog.cellsOf 42)) := hf 0 _ rfl
 have g1 : TrW Tryz.prog W m 3 (([q0, q1].drop 1).take (Tryz.prog.cellsOf 3)) := hf 1 _ rfl
 rw [show Tryz.prog.cellsOf 42 = 1 by kernel_rfl] at g0
 rw [show Tryz.prog.cellsOf 3 = 1 by kernel_rfl] at g1
 replace g0 : TrW Tryz.prog W m 42 [q0] := g0
 replace g1 : TrW Tryz.prog W m 3 [q1] := g1
 obtain ⟨y1, r1, z1, v1, w1, u1⟩ := QpQ valTE (of_decide_eq_true (by kernel_rfl)) g0
 obtain ⟨x1, e1, w2⟩ := g1.int Tryz.underlying3
 have hw : -9223372036854775808 ≤ x1 ∧ x1 ≤ 9223372036854775807 := by simpa [Lit.wf, IntKind.min, IntKind.max, IntKind.signed, IntKind.bits] using w2
 exact ⟨(r1, x1), ⟨y1, x1⟩, (show [q0, q1] = [q0] ++ [q1] from rfl).trans (by rw [z1, e1]; rfl), v1, w1, u1, rfl, hw.1, by show x1 < _; omega⟩
theorem Qpk (n : Nat) {cs : List Value} (h : TrW Tryz.prog W n 60 cs) : ∃ (v : Pr) (x : Qg), cs = Qg.c x ∧ PrIs v x := by
 obtain ⟨hl, m, rfl, hf⟩ := h.struct Tryz.underlying60
 rw [show Tryz.prog.cellsOf 60 = 2 by kernel_rfl] at hl
 match cs, hl with
 | [q0, q1], _ =>
 have g0 : TrW Tryz.prog W m 3 (([q0, q1].drop 0).take (Tryz.prog.cellsOf 3)) := hf 0 _ rfl
 have g1 : TrW Tryz.prog W m 3 (([q0, q1].drop 1).take (Tryz.prog.cellsOf 3)) := hf 1 _ rfl
 rw [show Tryz.prog.cellsOf 3 = 1 by kernel_rfl] at g0 g1
 replace g0 : TrW Tryz.prog W m 3 [q0] := g0
 replace g1 : TrW Tryz.prog W m 3 [q1] := g1
 obtain ⟨x0, e0, _⟩ := g0.int Tryz.underlying3
 obtain ⟨x1, e1, _⟩ := g1.int Tryz.underlying3
 exact ⟨(x0, x1), ⟨x0, x1⟩, (show [q0, q1] = [q0] ++ [q1] from rfl).trans (by rw [e0, e1]; rfl), rfl, rfl⟩
theorem Qmi {n : Nat} {cs : List Value} (h : TrW Tryz.prog W n 22 cs) : ∃ (s : Sl) (l : List En), cs = [slv s] ∧ EnL (heapOf W) s l :=
 Qqs (R := EnIs (heapOf W)) (c := Qa.c) h Tryz.underlying22 (show Tryz.prog.cellsOf 59 = 2 by kernel_rfl) (by omega) (of_decide_eq_true (by kernel_rfl)) (fun m hm cs hc => Qqv m hc)
theorem Qqo {n : Nat} {cs : List Value} (h : TrW Tryz.prog W n 23 cs) : ∃ (s : Sl) (l : List Pr), cs = [slv s] ∧ PrL (heapOf W) s l :=
 Qqs (R := PrIs) (c := Qg.c) h Tryz.underlying23 (show Tryz.prog.cellsOf 60 = 2 by kernel_rfl) (by omega) (of_decide_eq_true (by kernel_rfl)) (fun m hm cs hc => Qpk m hc)
theorem Qpi (n : Nat) {cs : List Value} (h : TrW Tryz.prog W n 25 cs) : ∃ (v : CaseV) (x : Qi), cs = Qi.c x ∧ CaseIs (heapOf W) v x := by
 obtain ⟨hl, m, rfl, hf⟩ := h.struct Tryz.underlying25
 rw [show Tryz.prog.cellsOf 25 = 5 by kernel_rfl] at hl
 match cs, hl with
 | [q0, q1, q2, q3, q4], _ =>
 have g0 : TrW Tryz.prog W m 22 (([q0, q1, q2, q3, q4].drop 0).take (Tryz.prog.cellsOf 22)) := hf 0 _ rfl
 have g1 : TrW Tryz.prog W m 22 (([q0, q1, q2, q3, q4].drop 1).take (Tryz.prog.cellsOf 22)) := hf 1 _ rfl
 have g2 : TrW Tryz.prog W m 22 (([q0, q1, q2, q3, q4].drop 2).take (Tryz.prog.cellsOf 22)) := hf 2 _ rfl
 have g3 : TrW Tryz.prog W m 22 (([q0, q1, q2, q3, q4].drop 3).take (Tryz.prog.cellsOf 22)) := hf 3 _ rfl
 have g4 : TrW Tryz.prog W m 23 (([q0, q1, q2, q3, q4].drop 4).take (Tryz.prog.cellsOf 23)) := hf 4 _ rfl
 rw [show Tryz.prog.cellsOf 22 = 1 by kernel_rfl] at g0 g1 g2 g3
 rw [show Tryz.prog.cellsOf 23 = 1 by kernel_rfl] at g4
 replace g0 : TrW Tryz.prog W m 22 [q0] := g0
 replace g1 : TrW Tryz.prog W m 22 [q1] := g1
 replace g2 : TrW Tryz.prog W m 22 [q2] := g2
 replace g3 : TrW Tryz.prog W m 22 [q3] := g3
 replace g4 : TrW Tryz.prog W m 23 [q4] := g4
 obtain ⟨s0, l0, e0, r0⟩ := Qmi g0
 obtain ⟨s1, l1, e1, r1⟩ := Qmi g1
 obtain ⟨s2, l2, e2, r2⟩ := Qmi g2
 obtain ⟨s3, l3, e3, r3⟩ := Qmi g3
 obtain ⟨s4, l4, e4, r4⟩ := Qqo g4
 exact ⟨⟨l0, l1, l2, l3, l4⟩, ⟨s0, s1, s2, s3, s4⟩, (show [q0, q1, q2, q3, q4] = [q0] ++ ([q1] ++ ([q2] ++ ([q3] ++ [q4]))) from rfl).trans (by rw [e0, e1, e2, e3, e4]; rfl), r0, r1, r2, r3, r4⟩
theorem Qm9 {H : Type} {enc : TypeId × Value → H} {base : Nat} {v : Value} {d : DataW H} {p : List MemPlace} (hv : Value.okWide Tryz.prog W .any base 25 v) (h : DataW.Trod enc Tryz.prog W 0 (fun _ => true) true 25 v d p) (hw : ∀ w ∈ d.weights Tryz.prog 25, w ≤ reachBytes) :
 ∃ (a : CaseV) (x : Qi), v = .agg (Qi.c x).toArray ∧ CaseIs (heapOf W) a x := by
 obtain ⟨cs, rfl, hl⟩ := WideShapes.okWide_struct Tryz.underlying25 hv
 obtain ⟨n, hn⟩ := TrW.of h hw
 obtain ⟨a, x, h1, h2⟩ := Qpi n hn
 refine ⟨a, x, ?_, h2⟩
 simp only [Value.cells] at h1
 rw [← h1]
end
end
section
open Go Go.Proofs
theorem Law_all {C : Ctx} (hF : FmtC C) {H : Heap} {x : Qi} {v : CaseV} (hx : CaseIs H v x) : QD C x (fun r _ => r = true) H :=
 Qii hF (fun k => Qom hF k) hx fun _ => rfl
end
end Sx
end
