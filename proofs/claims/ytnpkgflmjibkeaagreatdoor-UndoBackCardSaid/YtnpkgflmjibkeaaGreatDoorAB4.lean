/-
  Texts of this family, one behind the other: UdO, UdK, UdM, UdN, UdP, UdR, UdS1, UdS2, UdS3, UdS4, UdT, UdB, UdC, UdE, UdF, UdG, UdH, UdI, UdJ, OpRBack, RowIBack.
-/
import Derived.Test.YtnpkgflmjibkeaaGreatDoorAB3
import Derived.Shelf.SlSortCmp.Kit1
import Derived.Sort.EncStr
noncomputable section
set_option linter.unusedVariables false
set_option linter.unusedSimpArgs false
set_option maxRecDepth 10000
namespace Sx
section
open Go Go.Proofs
theorem QgN {C : Ctx} {A : Heap} {l : List V} {t : Sl} {H : Heap} {K : Sl → Heap → Prop} (hv : VRow A t l) (hle : A.le H) (hz : vsizes l ≤ 1000000) (k : ∀ t2 H2, Made H H2 l t2 → K t2 H2) : Qar C t K H := by
 have main : ∀ v : V, ∀ (A : Heap) (t : Sl) (H : Heap) (K : Sl → Heap → Prop), VRow A t v.l → A.le H → vsizes v.l ≤ 1000000 → (∀ t2 H2, Made H H2 v.l t2 → K t2 H2) → Qar C t K H := by
  refine fun v => V.rec_ (P := fun v => ∀ (A : Heap) (t : Sl) (H : Heap) (K : Sl → Heap → Prop), VRow A t v.l → A.le H → vsizes v.l ≤ 1000000 → (∀ t2 H2, Made H H2 v.l t2 → K t2 H2) → Qar C t K H) (fun v ih => ?_) v
  intro A t H K hv hle hz k
  apply Qhp
  unfold QfL
  have hl := hv.len
  have hll := QeQ v.l
  refine ift.of (fun h => ?_) (fun h => ?_)
  ·simp only [beq_iff_eq] at h
   have : v.l = [] := List.length_eq_zero_iff.1 (by omega)
   refine k _ _ ?_
   rw [this]; exact Made.nil rfl
  ·simp only [beq_eq_false_iff_ne] at h
   obtain ⟨xs, r1, r2, r3⟩ := hv
   refine Qjg (QcX hle r1) r2 (by omega) (by omega) fun b sp cap B hB nb hcap => ?_
   rw [hl] at hcap ⊢
   refine ⟨fun x D => ∃ (i : Nat) (ys : List TV) (E : Heap), x = (i : Int) ∧ i ≤ v.l.length ∧ D = E.put b (.row (ys.flatMap Qa.c ++ sp)) ∧ Ow A H E b i v.l xs ys, fun x _ => v.l.length - x.toNat,
    ⟨0, xs, B, rfl, Nat.zero_le _, rfl, hB, hle.trans hB, nb, by omega, by omega, r3, fun _ _ => rfl, fun j v x hj => by omega⟩, ?_⟩
   rintro _ D ⟨i, ys, E, rfl, hi, rfl, ho⟩
   have hlen : (Sl.of (some (b, 0)) v.l.length cap).len = v.l.length := rfl
   refine ift.of (fun h => ?_) (fun h => ?_)
   ·have hlt : i < v.l.length := by have := of_decide_eq_true h; omega
    have hi2 : i < ys.length := by rw [ho.len]; exact hlt
    have hyx := ho.rest i (Nat.le_refl _)
    rw [List.getElem?_eq_getElem hi2] at hyx
    have hold := QcL.1 (ho.old.get i _ _ (List.getElem?_eq_getElem hlt) hyx.symm)
    have hmem := List.getElem_mem hlt
    have hsz := Qey hmem
    have hszl : vsize v.l[i] = vsizes v.l[i].l + 1 := by cases v.l[i]; rfl
    have e0 : 0 + ((i : Int).toNat) * 4 + 3 = i * 4 + 3 := by omega
    have hf := flat4 ys
    refine ⟨(b, 0), rfl, rfl, by omega, by rw [hlen]; omega, ?_⟩
    refine ⟨ys[i].L, ?_, ?_⟩
    ·show rd _ (b, 0 + ((i : Int).toNat) * 4 + 3) = _
     rw [e0, Qj7, List.getElem?_append_left (by omega)]
     exact Qdz Qa.c 4 TV.c_len ys i _ (List.getElem?_eq_getElem hi2) 3 _ rfl
    ·refine ih _ hmem A _ _ _ hold.2.2.2 (ho.ale.trans (Heap.le_put ho.nb)) (by omega) fun t2 H2 hm => ?_
     obtain ⟨s1, s2⟩ := ho.step hlt hi2 hm
     refine ⟨(b, 0), rfl, rfl, by omega, by rw [hlen]; omega, ?_⟩
     refine ⟨_, hm.le _ _ (Heap.put_same ..), ?_, ?_⟩
     ·show 0 + ((i : Int).toNat) * 4 + 3 < _
      rw [e0, List.length_append, hf]; omega
     ·show _ ∧ _
      have e1 : (b, 0 + ((i : Int).toNat) * 4 + 3).2 = i * 4 + 3 := e0
      rw [Qaq (by omega) (by omega)]
      refine ⟨⟨i + 1, _, _, by omega, by omega, ?_, s1⟩, by first | omega | (dsimp only; omega)⟩
      rw [← s2, ← Qkn ys i hi2]
      show H2.put b (.row ((List.flatMap Qa.c ys ++ sp).set (0 + ((i : Int).toNat) * 4 + 3) (slv t2))) = _
      rw [e0]
   ·have hie : i = v.l.length := by have := of_decide_eq_false h; omega
    refine k _ _ ?_
    have := ho.fin (sp := sp) (cap := cap) hie (ho.le.none ho.nb) (by omega) (by omega)
    rw [hie] at this
    exact this
 exact main (.mk 0 0 [] l) A t H K hv hle hz k
end
section
open Go Go.Proofs
def showK (vs : List V) : Str := vs.flatMap fun v => showV v ++ [59]
theorem Qh9 (vs : List V) (v : V) : showK (vs ++ [v]) = showK vs ++ (showV v ++ [59]) := by simp [showK]
theorem QhX {v : V} {vs : List V} : showK (v :: vs) ≠ [] := fun e => by
 have := congrArg List.length e
 simp [showK] at this
theorem Qhb : ∀ {vs ws : List V}, (∀ v ∈ vs, mayV v = true) → (∀ v ∈ ws, mayV v = true) → showK vs = showK ws → vs = ws
 | [], [], _, _, _ => rfl
 | [], w :: ws, _, _, h => absurd h.symm QhX
 | v :: vs, [], _, _, h => absurd h QhX
 | v :: vs, w :: ws, h1, h2, h => by
  have e : ∀ (v : V) (vs : List V), showK (v :: vs) = showV v ++ (59 :: showK vs) := fun v vs => by simp [showK]
  rw [e, e] at h
  have m1 := h1 v (List.mem_cons_self ..)
  have m2 := h2 w (List.mem_cons_self ..)
  obtain ⟨e1, e2⟩ := QjB v w _ _ (Qcw m1) (Qcw m2) (.inr ⟨59, _, rfl, by simp⟩) (.inr ⟨59, _, rfl, by simp⟩) h
  injection e2 with _ e2
  rw [e1, Qhb (fun x hx => h1 x (List.mem_cons_of_mem _ hx)) (fun x hx => h2 x (List.mem_cons_of_mem _ hx)) e2]
theorem QiB {r : List V} (h : mayR r = true) : ∀ v ∈ r, mayV v = true := fun v hv => List.all_eq_true.1 h v hv
/-- a row that is handed in -/
structure okR (r : List V) : Prop where
 b : VBs r
 z : vsizes r ≤ 1000
theorem okR.len {r : List V} (h : okR r) : r.length ≤ 1000 := by have := QeQ r; have := h.z; omega
/-- a row that is there -/
structure inR (r : List V) : Prop extends okR r where
 m : mayR r = true
theorem inR.inj {r q : List V} (h : inR r) (h2 : inR q) (e : showK r = showK q) : r = q := Qhb (QiB h.m) (QiB h2.m) e
theorem QjA {v : V} {row : List V} (hv : v ∈ row) (hB : VB v) (hm : mayV v = true) (hs : vsizes row ≤ 1000) : (showV v).length ≤ 17000000 := by
 have hsz := Qey hv
 obtain ⟨_, q2, q3⟩ := (QhO v).1 hm
 have := QiZ v hB q2 q3
 have h2 : 17000 * vsize v ≤ 17000 * 1000 := Nat.mul_le_mul_left _ (by omega)
 omega
section
variable {C : Ctx} {H A : Heap}
theorem Qix (hF : FmtC C) {row : List V} {s : Sl} {K : Str → Bool → Heap → Prop} (hr : VRow A s row) (hA : A.le H) (hk : okR row)
 (k1 : mayR row = true → ∀ H2, H.le H2 → K (showK row) true H2) (k0 : mayR row = false → ∀ H2, H.le H2 → K [] false H2) : Qcv C s K H := by
 have hB := hk.b
 have hs := hk.z
 have hlen := hk.len
 apply Qho
 unfold QfK
 refine ⟨fun y D => H.le D ∧ ∃ i : Nat, y = (showK (row.take i), (i : Int)) ∧ i ≤ row.length ∧ (row.take i).all mayV = true ∧ (showK (row.take i)).length ≤ i * 17000001, fun y _ => row.length - y.2.toNat, ⟨Heap.le.refl _, 0, rfl, Nat.zero_le _, rfl, by simp [showK]⟩, ?_⟩
 rintro _ D ⟨hD, i, rfl, hi, hmay, hll⟩
 have hAD := hA.trans hD
 rw [hr.len]
 refine ift.of (fun h => ?_) (fun h => ?_)
 ·have hlt : i < row.length := by have := of_decide_eq_true h; dsimp only at this; omega
  have hmem := List.getElem_mem hlt
  have hBi := hB.mem hmem
  refine hr.ld hAD rfl hlt fun z hz => ?_
  intro b6 n6
  refine nwT rfl ?_
  have hle6 := Heap.le_put n6 (g := .row (Qa.c z)) (m := true)
  have hb6 : (D.put b6 (.row (Qa.c z))) b6 = some (true, .row (Qa.c z)) := Heap.put_same ..
  have hz6 := hz.le (hAD.trans hle6)
  have hD6 := hD.trans hle6
  generalize D.put b6 (.row (Qa.c z)) = H3 at *
  refine bxV hb6 (Qcs hz6 hBi ?_)
  have hck : ((checkV row[i] : Int) != 0) = !(mayV row[i]) := by unfold mayV; rfl
  rw [hck]
  refine ift.of (fun h2 => ?_) (fun h2 => ?_)
  ·have h2 : mayV row[i] = false := by simpa using h2
   refine k0 ?_ H3 hD6
   unfold mayR
   rw [List.all_eq_false]
   exact ⟨row[i], hmem, by simp [h2]⟩
  ·have hmv : mayV row[i] = true := by simpa using h2
   have hb := QjA hmem hBi hmv hs
   have hi2 : i * 17000001 ≤ 1000 * 17000001 := Nat.mul_le_mul_right _ (by omega)
   refine bxV hb6 (QjU hF hz6 hBi (fun _ => by omega) fun H2 l2 => ?_)
   rw [if_pos hmv]
   refine ⟨by unfold catOk; simp; omega, by unfold catOk; rw [List.length_append]; simp; omega, ?_⟩
   rw [Qaq (by dsimp only; omega) (by dsimp only; omega)]
   have ht : showK (row.take (i + 1)) = showK (row.take i) ++ (showV row[i] ++ [59]) := by
    rw [List.take_add_one, List.getElem?_eq_getElem hlt, Option.toList_some, Qh9]
   refine ⟨⟨hD6.trans l2, i + 1, by rw [ht]; rfl, by omega, ?_, ?_⟩, by first | omega | (dsimp only; omega)⟩
   ·rw [List.take_add_one, List.getElem?_eq_getElem hlt, List.all_append, hmay]
    simp [hmv]
   ·rw [ht, List.length_append, List.length_append]
    simp only [List.length_singleton]
    omega
 ·have hie : i = row.length := by have := of_decide_eq_false h; dsimp only at this; omega
  subst hie
  rw [List.take_length] at hmay ⊢
  exact k1 hmay D hD
end
end
section
open Go Go.Proofs
/-- whose a block is -/
inductive Uw where
 | log : Uw
 | done : Uw
 | rels : Uw
 | leaf : Str → Uw
abbrev Own_ := Nat → Option Uw
def mapP : Uw → Prop
 | .rels => True
 | .leaf _ => True
 | _ => False
theorem Qiz {α : Type} {l : List (Str × α)} (h : l.Pairwise fun p q => p.1 ≠ q.1) {p : Str × α} : p ∈ l ↔ lkL p.1 l = some p.2 :=
 ⟨fun hp => QaR h hp, fun hp => QaG hp⟩
def FineS (S : Sta) : Prop := ∀ x, S x → inR x.2
/-- what has changed: blocks of some owners, and new ones -/
structure Chg (P : Uw → Prop) (o : Own_) (H : Heap) (o2 : Own_) (H2 : Heap) : Prop where
 kp : ∀ c e, H c = some e → (∀ w, o c = some w → ¬ P w) → H2 c = some e
 up : ∀ c w, o c = some w → o2 c = some w
 dn : ∀ c w, o2 c = some w → o c = some w ∨ (H c = none ∧ P w ∧ H2 c ≠ none)
 li : ∀ c, H c ≠ none → H2 c ≠ none
section
variable {P : Uw → Prop} {o o2 o3 : Own_} {A H H2 H3 : Heap}
theorem Chg.of_le (h : H.le H2) : Chg P o H o H2 := ⟨fun c e hc _ => h c e hc, fun _ _ h => h, fun _ _ h => .inl h, fun c hc => by
 cases he : H c with
 | none => exact absurd he hc
 | some e => rw [h c e he]; simp⟩
theorem Chg.trans (h : Chg P o H o2 H2) (h' : Chg P o2 H2 o3 H3) : Chg P o H o3 H3 := by
 refine ⟨fun c e hc hn => h'.kp c e (h.kp c e hc hn) fun w hw => ?_, fun c w hw => h'.up c w (h.up c w hw), fun c w hw => ?_, fun c hc => h'.li c (h.li c hc)⟩
 ·rcases h.dn c w hw with h1 | ⟨h1, h2⟩
  ·exact hn w h1
  ·rw [h1] at hc; cases hc
 ·rcases h'.dn c w hw with h1 | ⟨h1, h2⟩
  ·exact (h.dn c w h1).imp id fun ⟨a, b, d⟩ => ⟨a, b, h'.li c d⟩
  ·refine .inr ⟨?_, h2⟩
   cases he : H c with
   | none => rfl
   | some e => exact absurd h1 (h.li c (by rw [he]; simp))
theorem Chg.imp {Q : Uw → Prop} (h : Chg P o H o2 H2) (hi : ∀ w, P w → Q w) : Chg Q o H o2 H2 :=
 ⟨fun c e hc hn => h.kp c e hc fun w hw hp => hn w hw (hi w hp), h.up, fun c w hw => (h.dn c w hw).imp id fun ⟨a, b, d⟩ => ⟨a, hi w b, d⟩, h.li⟩
/-- a block of an owner written -/
theorem Chg.put {c : Nat} {w : Uw} {g : GO} (ho : o c = some w) (hP : P w) : Chg P o H o (H.put c g) := by
 refine ⟨fun x e hx hn => ?_, fun _ _ h => h, fun _ _ h => .inl h, fun x hx => ?_⟩
 ·have : x ≠ c := fun e' => by subst e'; exact hn w ho hP
  rw [Heap.put_ne _ _ _ this]; exact hx
 ·by_cases hxc : x = c
  ·subst hxc; rw [Heap.put_same]; simp
  ·rw [Heap.put_ne _ _ _ hxc]; exact hx
def Own_.set (o : Own_) (b : Nat) (w : Uw) : Own_ := fun c => if c = b then some w else o c
theorem Own_.set_same {b : Nat} {w : Uw} : o.set b w b = some w := by simp [Own_.set]
theorem Own_.set_ne {b c : Nat} {w : Uw} (h : c ≠ b) : o.set b w c = o c := by simp [Own_.set, h]
/-- a new block of an owner -/
theorem Chg.new {b : Nat} {w : Uw} {g : GO} {m : Bool} (hb : H b = none) (ho : ∀ w, o b = some w → False) (hP : P w) : Chg P o H (o.set b w) (H.put b g m) := by
 refine ⟨fun x e hx hn => Heap.le_put hb x e hx, fun c w' hc => ?_, fun c w' hc => ?_, fun x hx => ?_⟩
 ·have : c ≠ b := fun e => by subst e; exact ho w' hc
  rw [Own_.set_ne this]; exact hc
 ·by_cases hcb : c = b
  ·subst hcb; rw [Own_.set_same] at hc; injection hc with hc; subst hc
   exact .inr ⟨hb, hP, by rw [Heap.put_same]; simp⟩
  ·rw [Own_.set_ne hcb] at hc; exact .inl hc
 ·have : x ≠ b := fun e => by subst e; exact hx hb
  rw [Heap.put_ne _ _ _ this]; exact hx
/-- owners and rows' memory -/
structure OH (o : Own_) (A H : Heap) : Prop where
 le : A.le H
 ap : ∀ c w, o c = some w → A c = none
 oh : ∀ c w, o c = some w → H c ≠ none
theorem OH.no (h : OH o A H) {b : Nat} (hb : H b = none) : ∀ w, o b = some w → False := fun w hw => h.oh b w hw hb
theorem OH.chg (h : OH o A H) (hc : Chg P o H o2 H2) : OH o2 A H2 := by
 refine ⟨fun c e hc2 => hc.kp c e (h.le c e hc2) (fun w hw _ => by rw [h.ap c w hw] at hc2; cases hc2), fun c w hw => ?_, fun c w hw => ?_⟩
 ·rcases hc.dn c w hw with h1 | ⟨h1, _⟩
  ·exact h.ap c w h1
  ·exact h.le.none h1
 ·rcases hc.dn c w hw with h1 | ⟨_, _, h1⟩
  ·exact hc.li c (h.oh c w h1)
  ·exact h1
end
/-- a map of rows by their texts -/
def RM (A H : Heap) (m : Nat) (R : List V → Prop) (N : Nat) : Prop := ∃ l : List (Str × Sl), MapS sv slv H m l ∧ (∀ p ∈ l, ∃ r, R r ∧ p.1 = showK r ∧ VRow A p.2 r) ∧ (∀ r, R r → ∃ s, (showK r, s) ∈ l) ∧ l.length ≤ N
section
variable {A B H H2 : Heap} {m N M : Nat} {R R2 : List V → Prop}
theorem RM.same (h : RM A H m R N) (hb : H2 m = H m) : RM A H2 m R N := by
 obtain ⟨l, h1, h2, h3⟩ := h
 exact ⟨l, h1.same hb, h2, h3⟩
theorem RM.up (h : RM A H m R N) (hle : A.le B) : RM B H m R N := by
 obtain ⟨l, h1, h2, h3⟩ := h
 exact ⟨l, h1, fun p hp => (h2 p hp).imp fun r ⟨q1, q2, q3⟩ => ⟨q1, q2, q3.le hle⟩, h3⟩
theorem RM.more (h : RM A H m R N) (hle : N ≤ M) : RM A H m R M := by
 obtain ⟨l, h1, h2, h3, h4⟩ := h
 exact ⟨l, h1, h2, h3, by omega⟩
theorem RM.congr (h : RM A H m R N) (he : ∀ r, R r ↔ R2 r) : RM A H m R2 N := by
 have : R = R2 := funext fun r => propext (he r)
 rw [← this]; exact h
theorem RM.isS (h : RM A H m R N) : ∃ g, H m = some (true, g) := by
 obtain ⟨l, ⟨es, ck, h1⟩, _⟩ := h
 exact ⟨_, h1.at_⟩
theorem RM.new {b : Nat} (h : ∀ r, ¬ R r) : RM A (H.put b (.obj (.map #[] 0))) b R N := ⟨[], MapS.new, (fun p hp => by cases hp), (fun r hr => absurd hr (h r)), Nat.zero_le _⟩
theorem RM.put {r : List V} {s : Sl} {K : Heap → Prop} (h : RM A H m R N) (hs : VRow A s r) (k : ∀ g, RM A (H.put m g) m (fun r' => R r' ∨ r' = r) (N + 1) → K (H.put m g)) : upS sv slv (some m) (showK r) s K H := by
 obtain ⟨l, h1, h2, h3, h4⟩ := h
 refine ⟨m, l, rfl, h1, fun g l2 q1 q2 q3 => k g ⟨l2, q1, fun p hp => ?_, fun r' hr' => ?_, ?_⟩⟩
 ·have hl := (Qiz q1.is.nd).1 hp
  rw [q2] at hl
  split at hl
  ·rename_i he
   injection hl with hl
   exact ⟨r, .inr rfl, he, hl ▸ hs⟩
  ·obtain ⟨r', a, b⟩ := h2 p (QaG hl)
   exact ⟨r', .inl a, b⟩
 ·by_cases he : showK r' = showK r
  ·exact ⟨s, QaG (by rw [q2, if_pos he])⟩
  ·have hr : R r' := hr'.resolve_right fun e => he (by rw [e])
   obtain ⟨s', hs'⟩ := h3 r' hr
   exact ⟨s', QaG (by rw [q2, if_neg he]; exact QaR h1.is.nd hs')⟩
 ·rw [q3]; split <;> omega
theorem RM.del {r : List V} {K : Heap → Prop} (h : RM A H m R N) (hF : ∀ r, R r → inR r) (hr : inR r) (k : ∀ g, RM A (H.put m g) m (fun r' => R r' ∧ r' ≠ r) N → K (H.put m g)) : delS sv slv (some m) (showK r) K H := by
 obtain ⟨l, h1, h2, h3, h4⟩ := h
 refine .inr ⟨m, l, rfl, h1, fun g l2 q1 q2 => k g ⟨l2, q1, fun p hp => ?_, fun r' hr' => ?_, ?_⟩⟩
 ·obtain ⟨a, b⟩ := (q2 p).1 hp
  obtain ⟨r', c, d, e⟩ := h2 p a
  exact ⟨r', ⟨c, fun e' => b (by rw [d, e'])⟩, d, e⟩
 ·obtain ⟨s, hs⟩ := h3 r' hr'.1
  exact ⟨s, (q2 _).2 ⟨hs, fun e => hr'.2 ((hF r' hr'.1).inj hr e)⟩⟩
 ·have := QgZ (f := fun p : Str × Sl => p.1) q1.is.nd fun p hp => ((q2 p).1 hp).1
  omega
theorem RM.ln {K : Nat → Prop} (h : RM A H m R N) (k0 : (∀ r, ¬ R r) → K 0) (k1 : ∀ n, n ≠ 0 → n ≤ N → (∃ r, R r) → K n) : lnM (some m) K H := by
 obtain ⟨l, h1, h2, h3, h4⟩ := h
 refine h1.is.ln ?_
 cases l with
 | nil => exact k0 fun r hr => by obtain ⟨s, hs⟩ := h3 r hr; cases hs
 | cons p l =>
  obtain ⟨r, hr, _⟩ := h2 p (List.mem_cons_self ..)
  exact k1 _ (by simp) h4 ⟨r, hr⟩
/-- a leaf that was looked up -/
def LfIs (A H : Heap) (x : Option Nat) (R : List V → Prop) : Prop := (x = none ∧ ∀ r, ¬ R r) ∨ ∃ e N, x = some e ∧ RM A H e R N
theorem LfIs.look {x : Option Nat} {r : List V} {K : Sl → Bool → Prop} (h : LfIs A H x R) (hF : ∀ r, R r → inR r) (hr : inR r) (k1 : R r → ∀ s, VRow A s r → K s true) (k0 : ¬ R r → K Sl.nil false) : lkM sv slv Sl.nil x (showK r) K H := by
 rcases h with ⟨rfl, hn⟩ | ⟨e, N, rfl, l, h1, h2, h3, h4⟩
 ·exact ⟨Sl.nil, false, .inl ⟨rfl, rfl, rfl⟩, k0 (hn r)⟩
 ·refine h1.is.lk (fun x hx => ?_) (fun hx => k0 fun hr' => ?_)
  ·obtain ⟨r', a, b, c⟩ := h2 _ (QaG hx)
   have := (hF r' a).inj hr b.symm
   subst this
   exact k1 a x c
  ·obtain ⟨s, hs⟩ := h3 r hr'
   rw [QaR h1.is.nd hs] at hx; cases hx
theorem LfIs.any {x : Option Nat} {k : Str} {K : Sl → Bool → Prop} (h : LfIs A H x R) (kk : ∀ s b, K s b) : lkM sv slv Sl.nil x k K H := by
 rcases h with ⟨rfl, hn⟩ | ⟨e, N, rfl, l, h1, h2, h3, h4⟩
 ·exact ⟨Sl.nil, false, .inl ⟨rfl, rfl, rfl⟩, kk _ _⟩
 ·exact h1.is.lk (fun x hx => kk _ _) fun hx => kk _ _
end
/-- the map of all leaves; X: these may be empty -/
structure RelsL (o : Own_) (A H : Heap) (m : Nat) (S : Sta) (N : Nat) (L : List (Str × Option Nat)) (X : Str → Prop) : Prop where
 om : o m = some .rels
 ms : MapS sv mv H m L
 lf : ∀ p ∈ L, ∃ e, p.2 = some e ∧ o e = some (.leaf p.1) ∧ RM A H e (fun r => S (p.1, r)) N ∧ (¬ X p.1 → ∃ r, S (p.1, r))
 al : ∀ n r, S (n, r) → ∃ e, (n, e) ∈ L
 ln : L.length ≤ N
section
variable {o o2 : Own_} {A B H H2 : Heap} {m N M b : Nat} {S : Sta} {L : List (Str × Option Nat)} {X Y : Str → Prop} {n : Str} {r : List V}
theorem RelsL.keep (h : RelsL o A H m S N L X) (hk : ∀ c w, o c = some w → mapP w → o2 c = some w ∧ H2 c = H c) : RelsL o2 A H2 m S N L X := by
 obtain ⟨k1, k2⟩ := hk m _ h.om trivial
 refine ⟨k1, h.ms.same k2, fun p hp => ?_, h.al, h.ln⟩
 obtain ⟨e, q1, q2, q3, q4⟩ := h.lf p hp
 obtain ⟨k1, k2⟩ := hk e _ q2 trivial
 exact ⟨e, q1, k1, q3.same k2, q4⟩
theorem RelsL.up (h : RelsL o A H m S N L X) (hle : A.le B) : RelsL o B H m S N L X := by
 refine ⟨h.om, h.ms, fun p hp => ?_, h.al, h.ln⟩
 obtain ⟨e, q1, q2, q3, q4⟩ := h.lf p hp
 exact ⟨e, q1, q2, q3.up hle, q4⟩
theorem RelsL.more (h : RelsL o A H m S N L X) (hle : N ≤ M) : RelsL o A H m S M L X := by
 refine ⟨h.om, h.ms, fun p hp => ?_, h.al, by have := h.ln; omega⟩
 obtain ⟨e, q1, q2, q3, q4⟩ := h.lf p hp
 exact ⟨e, q1, q2, q3.more hle, q4⟩
theorem RelsL.ne (h : RelsL o A H m S N L X) {p : Str × Option Nat} {e : Nat} (hp : p ∈ L) (he : p.2 = some e) : e ≠ m ∧ (∃ g, H e = some (true, g)) ∧ o e = some (.leaf p.1) := by
 obtain ⟨e', q1, q2, q3, _⟩ := h.lf p hp
 rw [he] at q1; injection q1 with q1; subst q1
 exact ⟨(fun e' => by subst e'; rw [h.om] at q2; cases q2), q3.isS, q2⟩
theorem RelsL.mine (h : RelsL o A H m S N L X) : ∃ g, H m = some (true, g) := by
 obtain ⟨es, ck, h1⟩ := h.ms
 exact ⟨_, h1.at_⟩
theorem RelsL.look {K : Option Nat → Bool → Prop} (h : RelsL o A H m S N L X) (k : ∀ x is, LfIs A H x (fun r => S (n, r)) → K x is) : lkM sv mv none (some m) n K H := by
 refine h.ms.is.lk (fun x hx => ?_) fun hx => ?_
 ·obtain ⟨e, q1, _, q3, _⟩ := h.lf _ (QaG hx)
  dsimp only at q1 q3
  exact k _ _ (.inr ⟨e, N, q1, q3⟩)
 ·refine k _ _ (.inl ⟨rfl, fun r hr => ?_⟩)
  obtain ⟨e, he⟩ := h.al n r hr
  rw [QaR h.ms.is.nd he] at hx; cases hx
/-- a new leaf -/
theorem RelsL.leaf {K : Heap → Prop} (h : RelsL o A H m S N L X) (hO : OH o A H) (hl : lkL n L = none)
 (kk : ∀ b2 o2 H2 L2, Chg mapP o H o2 H2 → RelsL o2 A H2 m S (N + 1) L2 (fun n' => n' = n ∨ X n') → (n, some b2) ∈ L2 → K H2) : mkM (fun b2 H3 => upS sv mv (some m) n (some b2) K H3) H := by
 intro b2 n2
 obtain ⟨gq, hq⟩ := h.mine
 have hle := Heap.le_put n2 (g := .obj (.map #[] 0)) (m := true)
 have hqb : m ≠ b2 := fun e => by subst e; rw [n2] at hq; cases hq
 refine ⟨m, L, rfl, h.ms.le hle, fun g l2 q1 q2 q3 => kk b2 (o.set b2 (.leaf n)) _ l2 ((Chg.new (P := mapP) (w := .leaf n) n2 (hO.no n2) trivial).trans (Chg.put (P := mapP) (w := .rels) (by rw [Own_.set_ne hqb]; exact h.om) trivial)) ⟨by rw [Own_.set_ne hqb]; exact h.om, q1, fun p hp => ?_, fun n' r hr => ?_, ?_⟩ (QaG (by rw [q2, if_pos rfl]))⟩
 ·have hl2 := (Qiz q1.is.nd).1 hp
  rw [q2] at hl2
  split at hl2
  ·rename_i he
   injection hl2 with hl2
   refine ⟨b2, hl2.symm, by rw [Own_.set_same, he], ?_, fun hx => absurd (.inl he) hx⟩
   refine (RM.new (A := A) (H := H) (b := b2) (N := N + 1) fun r hr => ?_).same (by rw [Heap.put_ne _ _ _ hqb.symm])
   obtain ⟨e, hm⟩ := h.al _ _ hr
   rw [he] at hm
   rw [QaR h.ms.is.nd hm] at hl; cases hl
  ·have hpL := QaG hl2
   obtain ⟨e, r1, r2, r3, r4⟩ := h.lf _ hpL
   obtain ⟨s1, ⟨g', s2⟩, s3⟩ := h.ne hpL r1
   have hb2 : e ≠ b2 := fun e' => by subst e'; rw [n2] at s2; cases s2
   exact ⟨e, r1, by rw [Own_.set_ne hb2]; exact r2, (r3.same (by rw [Heap.put_ne _ _ _ s1, Heap.put_ne _ _ _ hb2])).more (Nat.le_succ _), fun hx => r4 fun hx2 => hx (.inr hx2)⟩
 ·obtain ⟨e, he⟩ := h.al n' r hr
  by_cases hk : n' = n
  ·exact ⟨some b2, QaG (by rw [q2, if_pos hk])⟩
  ·exact ⟨e, QaG (by rw [q2, if_neg hk]; exact QaR h.ms.is.nd he)⟩
 ·have := h.ln
  rw [q3]; split <;> omega
/-- the leaf of a name -/
theorem RelsL.one (h : RelsL o A H m S N L X) {e e2 : Nat} {p : Str × Option Nat} (hm : (n, some e) ∈ L) (hp : p ∈ L) (he : p.2 = some e2) : (p.1 = n → e2 = e) ∧ (p.1 ≠ n → e2 ≠ e) := by
 refine ⟨fun e1 => ?_, fun e1 e3 => ?_⟩
 ·have : p = (n, some e2) := by rw [← e1, ← he]
  rw [this] at hp
  have h5 := QaR h.ms.is.nd hp
  rw [QaR h.ms.is.nd hm] at h5
  injection h5 with h5; injection h5 with h5; exact h5.symm
 ·subst e3
  have q1 := (h.ne hm rfl).2.2
  have q2 := (h.ne hp he).2.2
  rw [q1] at q2; injection q2 with q2; injection q2 with q2
  exact e1 q2.symm
/-- a row put to a leaf -/
theorem RelsL.put {e : Nat} {s : Sl} {K : Heap → Prop} (h : RelsL o A H m S N L (fun n' => n' = n)) (hm : (n, some e) ∈ L) (hs : VRow A s r)
 (kk : ∀ g, Chg mapP o H o (H.put e g) → RelsL o A (H.put e g) m (putS S (n, r)) (N + 1) L (fun _ => False) → K (H.put e g)) : upS sv slv (some e) (showK r) s K H := by
 obtain ⟨e', r1, r2, r3, _⟩ := h.lf _ hm
 injection r1 with r1; subst r1
 obtain ⟨s1, _, _⟩ := h.ne hm rfl
 refine r3.put hs fun g hR => kk g (Chg.put r2 trivial) ⟨h.om, h.ms.same (by rw [Heap.put_ne _ _ _ s1.symm]), fun p hp => ?_, fun n' r' hr' => ?_, by have := h.ln; omega⟩
 ·obtain ⟨e2, t1, t2, t3, t4⟩ := h.lf p hp
  obtain ⟨o1, o2⟩ := h.one hm hp t1
  refine ⟨e2, t1, t2, ?_, fun _ => ?_⟩
  ·by_cases hpk : p.1 = n
   ·rw [o1 hpk]
    refine hR.congr fun r' => ?_
    unfold putS
    rw [hpk]
    exact ⟨fun h => h.imp id fun e => by rw [e], fun h => h.imp id fun e => (Prod.ext_iff.1 e).2⟩
   ·refine ((t3.same (Heap.put_ne _ _ _ (o2 hpk))).more (Nat.le_succ _)).congr fun r' => ?_
    exact ⟨.inl, fun h => h.resolve_right fun e => hpk (Prod.ext_iff.1 e).1⟩
  ·by_cases hpk : p.1 = n
   ·exact ⟨r, .inr (by rw [hpk])⟩
   ·obtain ⟨r', hr'⟩ := t4 hpk
    exact ⟨r', .inl hr'⟩
 ·rcases hr' with hr' | hr'
  ·exact h.al n' r' hr'
  ·rw [show n' = n from (Prod.ext_iff.1 hr').1]; exact ⟨_, hm⟩
/-- a row taken from a leaf -/
theorem RelsL.del {e : Nat} {K : Heap → Prop} (h : RelsL o A H m S N L (fun _ => False)) (hF : FineS S) (hr : inR r) (hm : (n, some e) ∈ L)
 (kk : ∀ g, Chg mapP o H o (H.put e g) → RelsL o A (H.put e g) m (Qeg S (n, r)) N L (fun n' => n' = n) → RM A (H.put e g) e (fun r' => Qeg S (n, r) (n, r')) N → K (H.put e g)) : delS sv slv (some e) (showK r) K H := by
 obtain ⟨e', r1, r2, r3, _⟩ := h.lf _ hm
 injection r1 with r1; subst r1
 obtain ⟨s1, _, _⟩ := h.ne hm rfl
 have key : ∀ (n' : Str) r', (S (n', r') ∧ (n' = n → r' ≠ r)) ↔ Qeg S (n, r) (n', r') := fun n' r' => by
  unfold Qeg
  exact ⟨fun h => ⟨h.1, fun e => h.2 (Prod.ext_iff.1 e).1 (Prod.ext_iff.1 e).2⟩, fun h => ⟨h.1, fun e1 e2 => h.2 (by rw [e1, e2])⟩⟩
 refine r3.del (fun r' h' => hF _ h') hr fun g hR => ?_
 have hR2 : RM A (H.put e g) e (fun r' => Qeg S (n, r) (n, r')) N := hR.congr fun r' => by
  rw [← key]
  exact ⟨fun h => ⟨h.1, fun _ => h.2⟩, fun h => ⟨h.1, h.2 rfl⟩⟩
 refine kk g (Chg.put r2 trivial) ⟨h.om, h.ms.same (by rw [Heap.put_ne _ _ _ s1.symm]), fun p hp => ?_, fun n' r' hr' => h.al n' r' hr'.1, h.ln⟩ hR2
 obtain ⟨e2, t1, t2, t3, t4⟩ := h.lf p hp
 obtain ⟨o1, o2⟩ := h.one hm hp t1
 refine ⟨e2, t1, t2, ?_, fun hpk => ?_⟩
 ·by_cases hpk : p.1 = n
  ·rw [o1 hpk, hpk]; exact hR2
  ·refine (t3.same (Heap.put_ne _ _ _ (o2 hpk))).congr fun r' => ?_
   rw [← key]
   exact ⟨fun h => ⟨h, fun e => absurd e hpk⟩, fun h => h.1⟩
 ·obtain ⟨r', hr'⟩ := t4 id
  exact ⟨r', (key _ _).1 ⟨hr', fun e => absurd e hpk⟩⟩
/-- an empty leaf goes -/
theorem RelsL.rem {K : Heap → Prop} (h : RelsL o A H m S N L (fun n' => n' = n)) (h0 : ∀ r, ¬ S (n, r))
 (kk : ∀ g L2, Chg mapP o H o (H.put m g) → RelsL o A (H.put m g) m S N L2 (fun _ => False) → K (H.put m g)) : delS sv mv (some m) n K H := by
 refine .inr ⟨m, L, rfl, h.ms, fun g l2 q1 q2 => kk g l2 (Chg.put h.om trivial) ⟨h.om, q1, fun p hp => ?_, fun n' r' hr' => ?_, ?_⟩⟩
 ·obtain ⟨a, b⟩ := (q2 p).1 hp
  obtain ⟨e2, t1, t2, t3, t4⟩ := h.lf p a
  obtain ⟨s1, _, _⟩ := h.ne a t1
  exact ⟨e2, t1, t2, t3.same (by rw [Heap.put_ne _ _ _ s1]), fun _ => t4 b⟩
 ·obtain ⟨e, he⟩ := h.al n' r' hr'
  exact ⟨e, (q2 _).2 ⟨he, fun e' => h0 r' (by rw [← e']; exact hr')⟩⟩
 ·have := QgZ (f := fun p : Str × Option Nat => p.1) q1.is.nd fun p hp => ((q2 p).1 hp).1
  have := h.ln
  omega
theorem RelsL.fine (h : RelsL o A H m S N L fun _ => False) (n : Str) : RelsL o A H m S N L fun n' => n' = n := ⟨h.om, h.ms, fun p hp => by
 obtain ⟨e, q1, q2, q3, q4⟩ := h.lf p hp
 exact ⟨e, q1, q2, q3, fun _ => q4 id⟩, h.al, h.ln⟩
end
end
section
open Go Go.Proofs
/-- a log's object and its maps -/
structure Lc (o : Own_) (A H : Heap) (x m : Nat) (s : Sl) (S : Sta) (N : Nat) : Prop where
 oh : OH o A H
 hx : H x = some (true, .row [mv (some m), slv s])
 ox : o x = some .log
 rl : ∃ L, RelsL o A H m S N L fun _ => False
section
variable {C : Ctx} {o o2 : Own_} {A B H H2 : Heap} {x m N M : Nat} {s : Sl} {S : Sta} {L : List (Str × Option Nat)} {X Y : Str → Prop} {n : Str} {r : List V}
theorem RelsL.imp (h : RelsL o A H m S N L X) (hi : ∀ n, X n → Y n) : RelsL o A H m S N L Y := ⟨h.om, h.ms, fun p hp => by
 obtain ⟨e, q1, q2, q3, q4⟩ := h.lf p hp
 exact ⟨e, q1, q2, q3, fun hy => q4 fun hx => hy (hi _ hx)⟩, h.al, h.ln⟩
theorem RelsL.full (h : RelsL o A H m S N L fun n' => n' = n) (hr : ∃ r, S (n, r)) : RelsL o A H m S N L fun _ => False := ⟨h.om, h.ms, fun p hp => by
 obtain ⟨e, q1, q2, q3, q4⟩ := h.lf p hp
 refine ⟨e, q1, q2, q3, fun _ => ?_⟩
 by_cases e : p.1 = n
 ·rw [e]; exact hr
 ·exact q4 e, h.al, h.ln⟩
theorem Lc.ld0 (h : Lc o A H x m s S N) {K : Option Nat → Prop} (k : K (some m)) : ldM H ((x, 0).1, (x, 0).2 + 0) K := ⟨some m, by rw [Qn h.hx]; rfl, k⟩
theorem Lc.ld1 (h : Lc o A H x m s S N) {K : Sl → Prop} (k : K s) : ldL H ((x, 0).1, (x, 0).2 + 1) K := ⟨s, by rw [Qn h.hx]; rfl, k⟩
theorem Lc.hxc (h : Lc o A H x m s S N) (hc : Chg mapP o H o2 H2) : H2 x = some (true, .row [mv (some m), slv s]) :=
 hc.kp _ _ h.hx fun w hw hp => by rw [h.ox] at hw; injection hw with hw; subst hw; exact hp
theorem Lc.chg (h : Lc o A H x m s S N) (hc : Chg mapP o H o2 H2) {S2 : Sta} (hr : ∃ L, RelsL o2 A H2 m S2 M L fun _ => False) : Lc o2 A H2 x m s S2 M :=
 ⟨h.oh.chg hc, h.hxc hc, hc.up _ _ h.ox, hr⟩
theorem Lc.keep (h : Lc o A H x m s S N) (hA : A.le H2) (hk : ∀ c w, o c = some w → H2 c = H c) : Lc o A H2 x m s S N := by
 obtain ⟨L, hr⟩ := h.rl
 exact ⟨⟨hA, h.oh.ap, fun c w hw => by rw [hk c w hw]; exact h.oh.oh c w hw⟩, by rw [hk _ _ h.ox]; exact h.hx, h.ox, L, hr.keep fun c w hw _ => ⟨hw, hk c w hw⟩⟩
theorem OH.eq_le (h : OH o A H) (hle : H.le H2) {c : Nat} {w : Uw} (hw : o c = some w) : H2 c = H c := by
 cases he : H c with
 | none => exact absurd he (h.oh c w hw)
 | some e => exact hle c e he
theorem Lc.up (h : Lc o A H x m s S N) (hle : H.le H2) : Lc o A H2 x m s S N := h.keep (h.oh.le.trans hle) fun c w hw => h.oh.eq_le hle hw
theorem Lc.grow (h : Lc o A H x m s S N) (hle : A.le B) (hB : B.le H) (hap : ∀ c w, o c = some w → B c = none) : Lc o B H x m s S N := by
 obtain ⟨L, hr⟩ := h.rl
 exact ⟨⟨hB, hap, h.oh.oh⟩, h.hx, h.ox, L, hr.up hle⟩
theorem Lc.more (h : Lc o A H x m s S N) (hle : N ≤ M) : Lc o A H x m s S M := by
 obtain ⟨L, hr⟩ := h.rl
 exact ⟨h.oh, h.hx, h.ox, L, hr.more hle⟩
theorem Qki {t : Sl} {K : Heap → Prop} (h : Lc o A H x m s S N) (hv : VRow A t r) (k : ∀ o2 H2, Chg mapP o H o2 H2 → Lc o2 A H2 x m s (putS S (n, r)) (N + 2) → K H2) : QbO C (some (x, 0)) n (showK r) t K H := by
 apply QfW
 unfold QdV
 obtain ⟨L, hr⟩ := h.rl
 refine ⟨fun _ D => ∃ o2 L2 e, Chg mapP o H o2 D ∧ RelsL o2 A D m S (N + 1) L2 (fun n' => n' = n) ∧ (n, some e) ∈ L2, ?_, ?_⟩
 ·refine ⟨_, rfl, h.ld0 ?_⟩
  refine hr.ms.is.lk (fun y hy => ?_) fun hy => ?_
  ·have hm := QaG hy
   obtain ⟨e, q1, _, _⟩ := hr.lf _ hm
   dsimp only at q1; subst q1
   exact Qi rfl ⟨o, L, e, Chg.of_le (Heap.le.refl _), (hr.fine n).more (Nat.le_succ _), hm⟩
  ·refine QA rfl ⟨_, rfl, h.ld0 ?_⟩
   exact hr.leaf h.oh hy fun b2 o2 H2 L2 q1 q2 q3 => ⟨o2, L2, b2, q1, q2.imp fun n' hn => hn.resolve_right id, q3⟩
 ·rintro _ D ⟨o2, L2, e, c4, R4, hm⟩
  refine ⟨_, rfl, ⟨some m, by rw [Qn (h.hxc c4)]; rfl, ?_⟩⟩
  refine R4.ms.is.lk (fun y hy => ?_) fun hy => ?_
  ·rw [QaR R4.ms.is.nd hm] at hy
   injection hy with hy; subst hy
   exact R4.put hm hv fun g q1 q2 => k o2 _ (c4.trans q1) (h.chg (c4.trans q1) ⟨L2, q2⟩)
  ·rw [QaR R4.ms.is.nd hm] at hy; cases hy
theorem QjM {K : Heap → Prop} (h : Lc o A H x m s S N) (hF : FineS S) (hS : S (n, r)) (k : ∀ H2, Chg mapP o H o H2 → Lc o A H2 x m s (Qeg S (n, r)) N → K H2) : Qbn C (some (x, 0)) n (showK r) K H := by
 apply Qfj
 unfold Qdt
 obtain ⟨L, hr⟩ := h.rl
 have hin := hF _ hS
 obtain ⟨e', hm⟩ := hr.al n r hS
 obtain ⟨e, q1, _, _⟩ := hr.lf _ hm
 dsimp only at q1; subst q1
 refine ⟨_, rfl, h.ld0 ?_⟩
 refine hr.ms.is.lk (fun y hy => ?_) fun hy => ?_
 ·rw [QaR hr.ms.is.nd hm] at hy
  injection hy with hy; subst hy
  refine hr.del hF hin hm fun g c1 R1 M1 => ?_
  refine ⟨_, rfl, ⟨some m, by rw [Qn (h.hxc c1)]; rfl, ?_⟩⟩
  refine R1.ms.is.lk (fun y hy => ?_) fun hy => ?_
  ·rw [QaR R1.ms.is.nd hm] at hy
   injection hy with hy; subst hy
   refine M1.ln (fun h0 => ?_) fun j hj _ hex => ?_
   ·refine QA rfl ⟨_, rfl, ⟨some m, by rw [Qn (h.hxc c1)]; rfl, ?_⟩⟩
    exact R1.rem h0 fun g2 L2 c2 R2 => k _ (c1.trans c2) (h.chg (c1.trans c2) ⟨L2, R2⟩)
   ·exact Qi (by simp; omega) (k _ c1 (h.chg c1 ⟨L, R1.full hex⟩))
  ·rw [QaR R1.ms.is.nd hm] at hy; cases hy
 ·rw [QaR hr.ms.is.nd hm] at hy; cases hy
end
/-- the function that undoes a thing, and what it holds -/
def UndoIs (A : Heap) (x : Nat) (t : Th) (f : Value) : Prop :=
 ∃ (b1 b3 b13 : Nat) (m1 m2 m3 : Bool) (y : Qc), A b1 = some (m1, .row [pv (some (x, 0))]) ∧ A b3 = some (m2, .row (Qc.c y)) ∧ y.Rel = t.2.1 ∧ A b13 = some (m3, .row [sv (showK t.2.2)]) ∧
  ((t.1 = true ∧ f = .func (.func 40) (List.toArray []) (List.toArray [pv (some (b1, 0)), pv (some (b3, 0)), pv (some (b13, 0))])) ∨
   (t.1 = false ∧ ∃ (b36 : Nat) (m4 : Bool) (u : Sl), A b36 = some (m4, .row [slv u]) ∧ VRow A u t.2.2 ∧ f = .func (.func 42) (List.toArray []) (List.toArray [pv (some (b1, 0)), pv (some (b3, 0)), pv (some (b13, 0)), pv (some (b36, 0))])))
/-- a thing in memory -/
structure ThIs (A : Heap) (x : Nat) (t : Th) (v : Qd) : Prop where
 rel : v.rel_ = t.2.1
 key : v.key_ = showK t.2.2
 row : VRow A v.row_ t.2.2
 inn : inR t.2.2
 und : UndoIs A x t v.undo_
section
variable {C : Ctx} {o o2 : Own_} {A B H H2 : Heap} {x m N : Nat} {s : Sl} {S S2 : Sta} {t : Th} {f : Value} {v : Qd}
theorem UndoIs.le (h : UndoIs A x t f) (hle : A.le B) : UndoIs B x t f := by
 obtain ⟨b1, b3, b13, m1, m2, m3, y, h1, h2, h3, h4, h5⟩ := h
 refine ⟨b1, b3, b13, m1, m2, m3, y, hle _ _ h1, hle _ _ h2, h3, hle _ _ h4, h5.imp id fun ⟨q1, b36, m4, u, q2, q3, q4⟩ => ⟨q1, b36, m4, u, hle _ _ q2, q3.le hle, q4⟩⟩
theorem ThIs.le (h : ThIs A x t v) (hle : A.le B) : ThIs B x t v := ⟨h.rel, h.key, h.row.le hle, h.inn, h.und.le hle⟩
theorem ThIs.cell (h : ThIs A x t v) : List.all (Qd.c v) Value.oneCell' = true := by
 obtain ⟨b1, b3, b13, m1, m2, m3, y, h1, h2, h3, h4, h5⟩ := h.und
 rcases h5 with ⟨_, hf⟩ | ⟨_, _, _, _, _, _, hf⟩ <;> simp [Qd.c, hf] <;> exact ⟨rfl, rfl, rfl, rfl⟩
/-- a thing is undone -/
theorem Qi5 {Φ : Value → Heap → Prop} (h : Lc o A H x m s S2 N) (hF : FineS S2) (ht : UndoIs A x t f) (hst : stepS t S S2) (k : ∀ o2 H2, Chg mapP o H o2 H2 → Lc o2 A H2 x m s S (N + 2) → Φ (.tuple #[]) H2) : callU Tryz.prog C f [] H Φ := by
 obtain ⟨b1, b3, b13, m1, m2, m3, y, h1, h2, h3, h4, h5⟩ := ht
 obtain ⟨b, n, r⟩ := t
 have g1 := h.oh.le _ _ h1
 have g2 := h.oh.le _ _ h2
 have g4 := h.oh.le _ _ h4
 rcases h5 with ⟨rfl, rfl⟩ | ⟨rfl, b36, m4, u, q2, q3, rfl⟩
 ·obtain ⟨hn, hS⟩ := QgK.1 hst
  refine ⟨40, [], _, rfl, QeL, ?_⟩
  have : QbA C (b1, 0) (b3, 0) (b13, 0) (fun H2 => Φ (.tuple #[]) H2) H := by
   apply QeD
   unfold QcH
   refine ⟨_, by rw [Qn g1]; rfl, ⟨y.Rel, by rw [Qn g2]; rfl, ⟨_, by rw [Qn g4]; rfl, ?_⟩⟩⟩
   rw [h3]
   refine QjM h hF (by rw [hS]; exact .inr rfl) fun H2 c1 l1 => ?_
   rw [hS, Qjr hn] at l1
   exact k o H2 c1 (l1.more (by omega))
  unfold QbA at this
  exact this.mono fun v H' hv => by obtain ⟨hv, hk⟩ := hv; subst hv; exact hk
 ·obtain ⟨hn, hS⟩ := QgJ.1 hst
  refine ⟨42, [], _, rfl, QeK, ?_⟩
  have g36 := h.oh.le _ _ q2
  have : Qbz C (b1, 0) (b3, 0) (b13, 0) (b36, 0) (fun H2 => Φ (.tuple #[]) H2) H := by
   apply QeB
   unfold QcF
   refine ⟨_, by rw [Qn g1]; rfl, ⟨y.Rel, by rw [Qn g2]; rfl, ⟨_, by rw [Qn g4]; rfl, ⟨u, by rw [Qn g36]; rfl, ?_⟩⟩⟩⟩
   rw [h3]
   refine Qki h q3 fun o2 H2 c1 l1 => ?_
   rw [hS] at l1
   have := Qji hn
   rw [this] at l1
   exact k o2 H2 c1 l1
  unfold Qbz at this
  exact this.mono fun v H' hv => by obtain ⟨hv, hk⟩ := hv; subst hv; exact hk
end
end
section
open Go Go.Proofs
def Heap.or (A N : Heap) : Heap := fun c => match A c with | some e => some e | none => N c
section
variable {A N H : Heap}
theorem Heap.le_or : A.le (A.or N) := fun c e h => by unfold Heap.or; rw [h]
theorem Heap.or_le (h1 : A.le H) (h2 : N.le H) : (A.or N).le H := fun c e h => by
 unfold Heap.or at h
 cases ha : A c with
 | some e' => rw [ha] at h; injection h with h; subst h; exact h1 c _ ha
 | none => rw [ha] at h; exact h2 c e h
theorem Heap.or_some {c : Nat} (h : A.or N c ≠ none) : A c ≠ none ∨ N c ≠ none := by
 unfold Heap.or at h
 cases ha : A c with
 | some e' => exact .inl (by simp)
 | none => rw [ha] at h; exact .inr h
theorem Heap.or_none {c : Nat} (h1 : A c = none) (h2 : N c = none) : A.or N c = none := by unfold Heap.or; rw [h1]; exact h2
theorem Heap.le_or2 (h : ∀ c e, N c = some e → A c = none) : N.le (A.or N) := fun c e hc => by unfold Heap.or; rw [h c e hc]; exact hc
end
/-- what a log's method changes -/
structure Mv (o : Own_) (A H : Heap) (o2 : Own_) (A2 H2 : Heap) : Prop where
 c : Chg (fun _ => True) o H o2 H2
 a : A.le A2
 n : ∀ c, A2 c ≠ none → A c ≠ none ∨ H c = none
/-- a part of memory that the log's methods keep -/
structure Bs (o : Own_) (B H : Heap) : Prop where
 le : B.le H
 ap : ∀ c w, o c = some w → B c = none
/-- two logs apart -/
structure Dj (o : Own_) (A : Heap) (o' : Own_) (A' : Heap) : Prop where
 a : ∀ c w, o c = some w → o' c = none ∧ A' c = none
 b : ∀ c w, o' c = some w → A c = none
section
variable {o o2 o3 o' : Own_} {A A2 A3 A' B B2 H H2 H3 : Heap}
theorem Mv.of_le (h : H.le H2) : Mv o A H o A H2 := ⟨Chg.of_le h, Heap.le.refl _, fun c hc => .inl hc⟩
theorem Mv.trans (h : Mv o A H o2 A2 H2) (h' : Mv o2 A2 H2 o3 A3 H3) : Mv o A H o3 A3 H3 := ⟨h.c.trans h'.c, h.a.trans h'.a, fun c hc => by
 rcases h'.n c hc with h1 | h1
 ·exact h.n c h1
 ·refine .inr ?_
  cases he : H c with
  | none => rfl
  | some e => exact absurd h1 (h.c.li c (by rw [he]; simp))⟩
theorem Bs.mv (h : Bs o B H) (hm : Mv o A H o2 A2 H2) : Bs o2 B H2 := by
 refine ⟨fun c e hc => hm.c.kp c e (h.le c e hc) (fun w hw _ => by rw [h.ap c w hw] at hc; cases hc), fun c w hw => ?_⟩
 rcases hm.c.dn c w hw with h1 | ⟨h1, _⟩
 ·exact h.ap c w h1
 ·exact h.le.none h1
theorem Bs.up (h : Bs o B H) (hle : H.le H2) : Bs o B H2 := ⟨h.le.trans hle, h.ap⟩
/-- all that is not the log's -/
def Heap.wo_ (o : Own_) (H : Heap) : Heap := fun c => match o c with | none => H c | some _ => none
theorem Heap.wo_none {c : Nat} (h : o c = none) : Heap.wo_ o H c = H c := by unfold Heap.wo_; rw [h]
theorem Heap.wo_own {c : Nat} {w : Uw} (h : o c = some w) : Heap.wo_ o H c = none := by unfold Heap.wo_; rw [h]
theorem Heap.wo_le : (Heap.wo_ o H).le H := fun c e hc => by
 cases ho : o c with
 | none => rwa [Heap.wo_none ho] at hc
 | some w => rw [Heap.wo_own ho] at hc; cases hc
theorem Bs.wo : Bs o (Heap.wo_ o H) H := ⟨Heap.wo_le, fun c w hw => Heap.wo_own hw⟩
theorem Bs.to (h : Bs o B H) : B.le (Heap.wo_ o H) := fun c e hc => by
 cases ho : o c with
 | none => rw [Heap.wo_none ho]; exact h.le c e hc
 | some w => rw [h.ap c w ho] at hc; cases hc
theorem Dj.symm (h : Dj o A o' A') : Dj o' A' o A := by
 refine ⟨fun c w hw => ⟨?_, h.b c w hw⟩, fun c w hw => (h.a c w hw).2⟩
 cases he : o c with
 | none => rfl
 | some w' => rw [(h.a c w' he).1] at hw; cases hw
end
theorem Qjf {H : Heap} {zc : List Value} {bytes : Nat} {s : Sl} {cs ys : List Value} {m : Nat} {K : Sl → Heap → Prop} (ho : Own H zc.length s cs) (hy : ys.length = m * zc.length)
 (hb : (s.len + m) * bytes ≤ 140737488355328) (h63 : s.len + m ≤ 9223372036854775807) (k : ∀ r H2, Own H2 zc.length r (cs ++ ys) → r.len = s.len + m → (r.p = s.p ∨ ∀ q, r.p = some q → H q.1 = none) → (∀ c, (∀ q, r.p = some q → c ≠ q.1) → H2 c = H c) → K r H2) : apd zc bytes s ys m K H := by
 have ho' := ho
 obtain ⟨hl, hx, hc, hcase⟩ := ho
 refine ⟨cs, ho'.rdsl, hl, hy, hb, h63, fun hfit => ?_, fun hgrow b cap hnone hcap => ?_⟩
 ·rcases hcase with ⟨hp, h0⟩ | ⟨b, sp, hp, hbk, hcl⟩
  ·left
   have hm : m = 0 := by omega
   subst hm
   have hy0 : ys = [] := List.length_eq_zero_iff.1 (by simpa using hy)
   subst hy0
   refine ⟨rfl, k _ _ ⟨?_, hx, hfit, .inl ⟨hp, h0⟩⟩ rfl (.inl rfl) fun _ _ => rfl⟩
   simpa using hl
  ·right
   have hle2 : (s.len + m) * zc.length ≤ s.cap * zc.length := Nat.mul_le_mul_right _ hfit
   rw [Nat.add_mul] at hle2
   refine ⟨_, _, hp, hx, hbk, ?_, k _ _ ⟨?_, hx, hfit, .inr ⟨b, sp.drop ys.length, hp, ?_, ?_⟩⟩ rfl (.inl rfl) fun c hc => Heap.put_ne _ _ _ (hc _ hp)⟩
   ·simp only [Nat.zero_add]; rw [hy]; omega
   ·simp only [List.length_append, hl, hy, Nat.add_mul]
   ·rw [Heap.put_same]
    simp only [Nat.zero_add, splice, ← hl]
    rw [List.take_append_of_le_length (Nat.le_refl _), List.take_length, List.drop_append, List.drop_eq_nil_of_le (by omega)]
    simp
   ·simp only [List.length_append, List.length_drop] at hcl ⊢
    omega
 ·refine k _ _ ⟨by simp only [List.length_append, hl, hy, Nat.add_mul], rfl, hcap, .inr ⟨b, zeros zc (cap - (s.len + m)), rfl, by rw [Heap.put_same], ?_⟩⟩ rfl (.inr fun q hq => by injection hq with hq; subst hq; exact hnone) fun c hc => Heap.put_ne _ _ _ (hc _ rfl)
  simp only [List.length_append, QaK, hl, hy]
  rw [← Nat.add_mul, ← Nat.add_mul]
  exact Nat.mul_le_mul_right _ (by omega)
/-- things done, in memory -/
structure Dn (o : Own_) (A H : Heap) (x : Nat) (s : Sl) (T : List Th) : Prop where
 ex : ∃ xs : List Qd, Own H 4 s (xs.flatMap Qd.c) ∧ xs.length = T.length ∧ ∀ (i : Nat) (t : Th) (v : Qd), T[i]? = some t → xs[i]? = some v → ThIs A x t v
 ow : ∀ q, s.p = some q → o q.1 = some .done
/-- a log in memory: what was there at each mark -/
structure LG (o : Own_) (A H : Heap) (x : Nat) (a : Nat → Sta) (n N : Nat) : Prop where
 ex : ∃ m s T, Lc o A H x m s (a n) N ∧ Dn o A H x s T ∧ T.length = n ∧ ∀ (i : Nat) (t : Th), T[i]? = some t → stepS t (a i) (a (i + 1))
 f : ∀ i, i ≤ n → FineS (a i)
 nm : ∀ i, i ≤ n → ∀ y, a i y → y.1.length ≤ 1000000
/-- one mark more -/
def ext (a : Nat → Sta) (n : Nat) (S : Sta) : Nat → Sta := fun i => if i ≤ n then a i else S
theorem QdL {a : Nat → Sta} {n i : Nat} {S : Sta} (h : i ≤ n) : ext a n S i = a i := by unfold ext; rw [if_pos h]
theorem Qc2 {a : Nat → Sta} {n : Nat} {S : Sta} : ext a n S (n + 1) = S := by unfold ext; rw [if_neg (by omega)]
theorem Qi3 (v : Qd) : (Qd.c v).length = 4 := rfl
theorem Qc1 (l : List Qd) : (l.flatMap Qd.c).length = l.length * 4 := by
 induction l with
 | nil => rfl
 | cons a l ih => rw [List.flatMap_cons, List.length_append, ih, Qi3, List.length_cons, Nat.add_mul]; omega
section
variable {C : Ctx} {o o2 : Own_} {A B H H2 : Heap} {x m n N M : Nat} {s : Sl} {S S2 : Sta} {T : List Th} {t : Th} {v : Qd} {a : Nat → Sta}
theorem Dn.keep (h : Dn o A H x s T) (hk : ∀ c, o c = some .done → o2 c = some .done ∧ H2 c = H c) : Dn o2 A H2 x s T := by
 obtain ⟨⟨xs, ⟨q1, q2, q3, q4⟩, h2, h3⟩, ho⟩ := h
 refine ⟨⟨xs, ⟨q1, q2, q3, q4.imp id fun ⟨b, sp, p1, p2, p3⟩ => ⟨b, sp, p1, ?_, p3⟩⟩, h2, h3⟩, fun q hq => (hk _ (ho q hq)).1⟩
 rw [(hk b (ho _ p1)).2]; exact p2
theorem Dn.grow (h : Dn o A H x s T) (hle : A.le B) : Dn o B H x s T := by
 obtain ⟨⟨xs, h1, h2, h3⟩, ho⟩ := h
 exact ⟨⟨xs, h1, h2, fun i t v ht hv => (h3 i t v ht hv).le hle⟩, ho⟩
theorem Dn.chg (h : Dn o A H x s T) (hO : OH o A H) (hc : Chg mapP o H o2 H2) : Dn o2 A H2 x s T := h.keep fun c hw => ⟨hc.up _ _ hw, by
 cases he : H c with
 | none => exact absurd he (hO.oh c _ hw)
 | some e => exact hc.kp c e he fun w hw' hp => by rw [hw] at hw'; injection hw' with hw'; subst hw'; exact hp⟩
theorem LG.oh (h : LG o A H x a n N) : OH o A H := by obtain ⟨⟨m, s, T, h1, _⟩, _⟩ := h; exact h1.oh
theorem LG.up (h : LG o A H x a n N) (hle : H.le H2) : LG o A H2 x a n N := by
 obtain ⟨⟨m, s, T, h1, h2, h3⟩, h4, h5⟩ := h
 exact ⟨⟨m, s, T, h1.up hle, h2.keep fun c hw => ⟨hw, h1.oh.eq_le hle hw⟩, h3⟩, h4, h5⟩
theorem LG.more (h : LG o A H x a n N) (hle : N ≤ M) : LG o A H x a n M := by
 obtain ⟨⟨m, s, T, h1, h2, h3⟩, h4, h5⟩ := h
 exact ⟨⟨m, s, T, h1.more hle, h2, h3⟩, h4, h5⟩
theorem LG.other {o' : Own_} {A' : Heap} {y : Nat} {A2 : Heap} (h : LG o' A' H y a n N) (hm : Mv o A H o2 A2 H2) (hd : Dj o A o' A') : LG o' A' H2 y a n N ∧ Dj o2 A2 o' A' := by
 have hO := h.oh
 obtain ⟨⟨m, s, T, h1, h2, h3⟩, h4, h5⟩ := h
 have hk : ∀ c w, o' c = some w → H2 c = H c := fun c w hw => by
  cases he : H c with
  | none => exact absurd he (hO.oh c w hw)
  | some e => exact hm.c.kp c e he fun w' hw' _ => by rw [(hd.a c w' hw').1] at hw; cases hw
 refine ⟨⟨⟨m, s, T, h1.keep (fun c e hc => hm.c.kp c e (hO.le c e hc) fun w hw _ => by rw [(hd.a c w hw).2] at hc; cases hc) hk, h2.keep fun c hw => ⟨hw, hk c _ hw⟩, h3⟩, h4, h5⟩, ⟨fun c w hw => ?_, fun c w hw => ?_⟩⟩
 ·rcases hm.c.dn c w hw with h1 | ⟨h1, _⟩
  ·exact hd.a c w h1
  ·refine ⟨?_, hO.le.none h1⟩
   cases he : o' c with
   | none => rfl
   | some w' => exact absurd h1 (hO.oh c w' he)
 ·cases he : A2 c with
  | none => rfl
  | some e =>
   rcases hm.n c (by rw [he]; simp) with h1 | h1
   ·exact absurd (hd.b c w hw) h1
   ·exact absurd h1 (hO.oh c w hw)
/-- the owner of a slice's block -/
def Own_.dn (o : Own_) (r : Sl) : Own_ := match r.p with
 | some q => o.set q.1 .done
 | none => o
theorem Own_.dn_eq {r : Sl} {q : Nat × Nat} (h : r.p = some q) : o.dn r = o.set q.1 .done := by unfold Own_.dn; rw [h]
theorem Own_.dn_none {r : Sl} (h : r.p = none) : o.dn r = o := by unfold Own_.dn; rw [h]
/-- a thing is put behind those that were done -/
theorem QiM {K : Heap → Prop} (h : Lc o A H x m s S N) (hD : Dn o A H x s T) (hn : T.length ≤ 1000000) (ht : ThIs A x t v)
 (k : ∀ o3 H3 r, Mv o A H o3 A H3 → Lc o3 A H3 x m r S N → Dn o3 A H3 x r (T ++ [t]) → K H3) :
 nw (Qd.c v ++ []) (fun b60 H61 => Heap.le (H.off s) H61 ∧ apS (Qd.c Qd.zero) 64 s (Sl.of (some (b60, 0)) 1 1) (fun r63 H64 => Heap.le (H.off s) H64 ∧ nck (some (x, 0)) fun p65 => st (p65.1, p65.2 + 1) (slv r63) (fun H67 => K H67) H64) H61) H := by
 intro b nb
 have hle := Heap.le_put nb (g := .row (Qd.c v ++ [])) (m := true)
 refine ⟨(Heap.off_le _ _).trans hle, Qd.c v, ?_, fun u hu => List.all_eq_true.1 ht.cell u hu, ?_⟩
 ·refine .inr ⟨rfl, (b, 0), rfl, Qb2 (Heap.put_same ..) fun j w hj => ?_⟩
  rw [Nat.zero_add, List.append_nil]; exact hj
 have hOH := h.oh
 have hL := h.up hle
 have hD2 := hD.keep (o2 := o) (H2 := H.put b (.row (Qd.c v ++ []))) fun c hw => ⟨hw, hOH.eq_le hle hw⟩
 generalize H.put b (.row (Qd.c v ++ [])) = H1 at *
 obtain ⟨⟨xs, hO, hxl, hall⟩, how⟩ := hD2
 have hsl : s.len = xs.length := by have h1 := hO.1; rw [Qc1] at h1; omega
 refine Qjf (zc := Qd.c Qd.zero) hO rfl (by simp only [Sl.of]; omega) (by simp only [Sl.of]; omega) fun r H4 q1 q2 q3 q4 => ?_
 -- the slice's block
 have hrp : ∀ q, r.p = some q → o q.1 = some .done ∨ H1 q.1 = none := fun q hq => by
  rcases q3 with e | e
  ·exact .inl (how q (by rw [← e]; exact hq))
  ·exact .inr (e q hq)
 have hrx : ∀ q, r.p = some q → x ≠ q.1 := fun q hq e => by
  rcases hrp q hq with h1 | h1
  ·rw [← e, h.ox] at h1; cases h1
  ·rw [← e, hL.hx] at h1; cases h1
 have hx4 : H4 x = some (true, .row [mv (some m), slv s]) := (q4 x hrx).trans hL.hx
 refine ⟨fun c e hc => ?_, _, rfl, _, hx4, by simp, ?_⟩
 ·have hc2 := hle _ _ (Heap.off_le _ _ _ _ hc)
  refine (q4 c fun q hq e' => ?_).trans hc2
  rcases q3 with e1 | e1
  ·unfold Heap.off at hc
   rw [if_pos (by rw [← e1, hq, e']; rfl)] at hc; cases hc
  ·rw [e', e1 q hq] at hc2; cases hc2
 show K (H4.put x (.row [mv (some m), slv r]))
 have hkeep : ∀ c, (∀ q, r.p = some q → c ≠ q.1) → c ≠ x → (H4.put x (.row [mv (some m), slv r])) c = H1 c := fun c hc hcx => by
  rw [Heap.put_ne _ _ _ hcx]; exact q4 c hc
 have hli : ∀ c, H1 c ≠ none → (H4.put x (.row [mv (some m), slv r])) c ≠ none := fun c hc => by
  by_cases hcx : c = x
  ·rw [hcx, Heap.put_same]; simp
  ·rw [Heap.put_ne _ _ _ hcx]
   by_cases hr : ∃ q, r.p = some q ∧ c = q.1
   ·obtain ⟨q, hq, e⟩ := hr
    obtain ⟨g, hg⟩ := q1.mine hq
    rw [e, hg]; simp
   ·rw [q4 c fun q hq e => hr ⟨q, hq, e⟩]; exact hc
 have hdn : ∀ c w, o c = some w → (o.dn r) c = some w := fun c w hw => by
  cases hr : r.p with
  | none => rw [Own_.dn_none hr]; exact hw
  | some q =>
   rw [Own_.dn_eq hr]
   by_cases e : c = q.1
   ·rw [e, Own_.set_same]
    rcases hrp q hr with h1 | h1
    ·rw [e, h1] at hw; exact hw
    ·rw [e] at hw; exact absurd h1 (hL.oh.oh _ _ hw)
   ·rw [Own_.set_ne e]; exact hw
 have hup : ∀ c w, (o.dn r) c = some w → o c = some w ∨ (H1 c = none ∧ ∃ q, r.p = some q ∧ q.1 = c) := fun c w hw => by
  cases hr : r.p with
  | none => rw [Own_.dn_none hr] at hw; exact .inl hw
  | some q =>
   rw [Own_.dn_eq hr] at hw
   by_cases e : c = q.1
   ·rw [e, Own_.set_same] at hw
    rcases hrp q hr with h1 | h1
    ·rw [e]; exact .inl (h1.trans hw)
    ·exact .inr ⟨by rw [e]; exact h1, q, rfl, e.symm⟩
   ·rw [Own_.set_ne e] at hw; exact .inl hw
 have hlive : ∀ q, r.p = some q → (H4.put x (.row [mv (some m), slv r])) q.1 ≠ none := fun q hq => by
  obtain ⟨g, hg⟩ := q1.mine hq
  rw [Heap.put_ne _ _ _ (hrx q hq).symm, hg]; simp
 -- a block that is neither the slice's nor the log's
 have hne : ∀ c e, H1 c = some e → o c ≠ some .done → ∀ q, r.p = some q → c ≠ q.1 := fun c e hc ho q hq e' => by
  rcases hrp q hq with h1 | h1
  ·exact ho (by rw [e']; exact h1)
  ·rw [← e', hc] at h1; cases h1
 have hmap : ∀ c w, o c = some w → mapP w → (H4.put x (.row [mv (some m), slv r])) c = H1 c := fun c w hw hp => by
  cases hc : H1 c with
  | none => exact absurd hc (hL.oh.oh c w hw)
  | some e =>
   rw [hkeep c (hne c e hc fun e' => by rw [hw] at e'; injection e' with e'; subst e'; exact hp) (fun e' => by rw [e', h.ox] at hw; injection hw with hw; subst hw; exact hp), hc]
 have hA : A.le (H4.put x (.row [mv (some m), slv r])) := fun c e hc => by
  have ho : o c = none := by
   cases ho : o c with
   | none => rfl
   | some w => rw [hOH.ap c w ho] at hc; cases hc
  have hc1 := hL.oh.le _ _ hc
  rw [hkeep c (hne c e hc1 (by rw [ho]; simp)) (fun e' => by rw [e', h.ox] at ho; cases ho), hc1]
 have hmv : Mv o A H1 (o.dn r) A (H4.put x (.row [mv (some m), slv r])) := by
  refine ⟨⟨fun c e hc hn => ?_, hdn, fun c w hw => ?_, hli⟩, Heap.le.refl _, fun c hc => .inl hc⟩
  ·have ho : o c = none := by
    cases ho : o c with
    | none => rfl
    | some w => exact absurd trivial (hn w ho)
   rw [hkeep c (hne c e hc (by rw [ho]; simp)) (fun e' => by rw [e', h.ox] at ho; cases ho), hc]
  ·rcases hup c w hw with h1 | ⟨h1, q, hq, rfl⟩
   ·exact .inl h1
   ·exact .inr ⟨h1, trivial, hlive q hq⟩
 obtain ⟨L, hr⟩ := hL.rl
 refine k _ _ r ((Mv.of_le hle).trans hmv) ⟨hL.oh.chg hmv.c, Heap.put_same .., hdn _ _ h.ox, L, hr.keep fun c w hw hp => ⟨hdn c w hw, hmap c w hw hp⟩⟩ ⟨⟨xs ++ [v], ?_, by simp [hxl], fun i t' v' hi hv' => ?_⟩, fun q hq => by rw [Own_.dn_eq hq, Own_.set_same]⟩
 ·rw [List.flatMap_append, List.flatMap_singleton]
  obtain ⟨w1, w2, w3, w4⟩ := q1
  refine ⟨w1, w2, w3, w4.imp id fun ⟨b', sp, p1, p2, p3⟩ => ⟨b', sp, p1, ?_, p3⟩⟩
  rw [Heap.put_ne _ _ _ (hrx _ p1).symm]; exact p2
 ·by_cases hlt : i < T.length
  ·rw [List.getElem?_append_left hlt] at hi
   rw [List.getElem?_append_left (by omega)] at hv'
   exact hall i t' v' hi hv'
  ·have hi2 : i = T.length := by
    have := (List.getElem?_eq_some_iff.1 hi).1
    simp at this; omega
   subst hi2
   rw [List.getElem?_append_right (by omega)] at hi
   rw [← hxl, List.getElem?_append_right (by omega)] at hv'
   simp at hi hv'
   subst hi; subst hv'
   exact ht
end
end
section
open Go Go.Proofs
section
variable {C : Ctx} {o o2 : Own_} {A B H H2 : Heap} {x m n N M : Nat} {s t : Sl} {S S2 : Sta} {T : List Th} {a : Nat → Sta} {r : List V} {nm : Str}
theorem nwS {b : Nat} {v v0 : Value} {K : Heap → Prop} (k : K (H.put b (.row [v]))) : st (b, 0) v K (H.put b (.row [v0])) :=
 ⟨_, Heap.put_same .., by simp, by rw [Heap.put_put]; exact k⟩
theorem Qg0 (hO : OH o A H) (hle : H.le H2) : (A.or (Heap.new H H2)).le H2 ∧ (∀ c w, o c = some w → (A.or (Heap.new H H2)) c = none) ∧ (Heap.new H H2).le (A.or (Heap.new H H2)) ∧ ∀ c, (A.or (Heap.new H H2)) c ≠ none → A c ≠ none ∨ H c = none :=
 ⟨Heap.or_le (hO.le.trans hle) (Heap.new_le _ _), fun c w hw => Heap.or_none (hO.ap c w hw) (by
  cases hn : Heap.new H H2 c with
  | none => rfl
  | some e => exact absurd (Heap.new_inv hn).1 (hO.oh c w hw)), Heap.le_or2 fun c e hc => hO.le.none (Heap.new_inv hc).1, fun c hc => (Heap.or_some hc).imp id fun h => by
  cases hn : Heap.new H H2 c with
  | none => exact absurd hn h
  | some e => exact (Heap.new_inv hn).1⟩
theorem Qhf {T : List Th} {t : Th} (hT : ∀ (i : Nat) (t : Th), T[i]? = some t → stepS t (a i) (a (i + 1))) (hn : T.length = n) (ht : stepS t (a n) S) : ∀ (i : Nat) (t' : Th), (T ++ [t])[i]? = some t' → stepS t' (ext a n S i) (ext a n S (i + 1)) := fun i t' hi => by
 by_cases hlt : i < T.length
 ·rw [List.getElem?_append_left hlt] at hi
  rw [QdL (by omega), QdL (by omega)]; exact hT i t' hi
 ·have hi2 : i = T.length := by
   have := (List.getElem?_eq_some_iff.1 hi).1
   simp at this; omega
  subst hi2
  rw [List.getElem?_append_right (by omega)] at hi
  simp at hi
  subst hi
  rw [hn, QdL (Nat.le_refl _), Qc2]; exact ht
theorem Qfc {K : Int → Heap → Prop} (h : LG o A H x a n N) (k : K n H) : Qy C (some (x, 0)) K H := by
 apply Qe4
 unfold Qda
 obtain ⟨⟨m, s, T, h1, ⟨⟨xs, q1, q2, _⟩, _⟩, h3, _⟩, _⟩ := h
 refine Qi rfl ⟨_, rfl, h1.ld1 ?_⟩
 have hl := q1.1
 rw [Qc1] at hl
 rw [show (s.len : Int) = n by omega]; exact k
theorem Qh0 {j : Int} {K : Int → Heap → Prop} (h : LG o A H x a n N) (k : K (if 0 ≤ j ∧ j ≤ n then 0 else 1) H) : Qa1 C (some (x, 0)) j K H := by
 apply QeF
 unfold QcJ
 obtain ⟨⟨m, s, T, h1, ⟨⟨xs, q1, q2, _⟩, _⟩, h3, _⟩, _⟩ := h
 have hl := q1.1
 rw [Qc1] at hl
 have hs : s.len = n := by omega
 refine Qi rfl (jn.inl ?_)
 refine ift.of (fun h => ?_) (fun h => ?_)
 ·have h := of_decide_eq_true h
  rw [if_neg (by omega)] at k
  exact QA rfl k
 ·have h := of_decide_eq_false h
  refine ⟨_, rfl, h1.ld1 ?_⟩
  refine ift.of (fun h2 => ?_) (fun h2 => ?_)
  ·have h2 := of_decide_eq_true h2
   rw [if_neg (by omega)] at k; exact k
  ·have h2 := of_decide_eq_false h2
   rw [if_pos (by omega)] at k; exact k
theorem Qkd (hFm : FmtC C) {K : Bool → Heap → Prop} (h : LG o A H x a n N) (hb : Bs o B H) (hv : VRow B t r) (hr : okR r) (k : ∀ b H2, H.le H2 → (b = true ↔ a n (nm, r)) → K b H2) : QaU C (some (x, 0)) ⟨nm, t⟩ K H := by
 apply Qfh
 unfold Qdr
 intro b1 n1
 have l1 := Heap.le_put n1 (g := .row (Qc.c (⟨nm, t⟩ : Qc))) (m := true)
 have c1 : (H.put b1 (.row (Qc.c (⟨nm, t⟩ : Qc)))) b1 = some (true, .row (Qc.c (⟨nm, t⟩ : Qc))) := Heap.put_same ..
 generalize H.put b1 (.row (Qc.c (⟨nm, t⟩ : Qc))) = E1 at *
 refine Qi rfl (fL c1 (t := t) rfl ?_)
 have hF := h.f n (Nat.le_refl _)
 refine Qix hFm hv (hb.le.trans l1) hr (fun hm H8 h8 => ?_) fun hm H8 h8 => ?_
 ·have hL := h.up (l1.trans h8)
  obtain ⟨⟨m, s, T, p1, _⟩, _⟩ := hL
  obtain ⟨L, hR⟩ := p1.rl
  refine ⟨_, rfl, p1.ld0 ⟨nm, by rw [Qn (h8 _ _ c1)]; rfl, hR.look fun y is hl => ?_⟩⟩
  exact hl.look (fun r' hr' => hF _ hr') ⟨hr, hm⟩ (fun hS _ _ => k _ _ (l1.trans h8) ⟨fun _ => hS, fun _ => rfl⟩) fun hS => k _ _ (l1.trans h8) ⟨fun e => (by cases e), fun e => absurd e hS⟩
 ·have hL := h.up (l1.trans h8)
  obtain ⟨⟨m, s, T, p1, _⟩, _⟩ := hL
  obtain ⟨L, hR⟩ := p1.rl
  refine ⟨_, rfl, p1.ld0 ⟨nm, by rw [Qn (h8 _ _ c1)]; rfl, hR.look fun y is hl => hl.any fun s' b => ?_⟩⟩
  rw [Bool.false_and]
  exact k _ _ (l1.trans h8) ⟨fun e => (by cases e), fun e => by have := (hF _ e).m; dsimp only at this; rw [hm] at this; cases this⟩
theorem QgO (hFm : FmtC C) {K : Bool → Int → Heap → Prop} (h : LG o A H x a n N) (hn : n ≤ 1000000) (hb : Bs o B H) (hv : VRow B t r) (hr : okR r) (hnm : nm.length ≤ 1000000)
 (k0 : mayR r = false → ∀ H2, H.le H2 → K false 4 H2)
 (k1 : mayR r = true → a n (nm, r) → ∀ H2, H.le H2 → K false 0 H2)
 (k2 : mayR r = true → ¬ a n (nm, r) → ∀ o2 A2 H2, Mv o A H o2 A2 H2 → LG o2 A2 H2 x (ext a n (putS (a n) (nm, r))) (n + 1) (N + 2) → K true 0 H2) : Qq C (some (x, 0)) ⟨nm, t⟩ K H := by
 apply Qfi
 unfold Qds
 intro b1 n1 b3 n3
 have l1 := Heap.le_put n1 (g := .row [pv (some (x, 0))]) (m := true)
 have l3 := Heap.le_put n3 (g := .row (Qc.c (⟨nm, t⟩ : Qc))) (m := true)
 have c1 := l3 _ _ (show (H.put b1 (.row [pv (some (x, 0))])) b1 = some (true, .row [pv (some (x, 0))]) from Heap.put_same ..)
 have c3 : ((H.put b1 (.row [pv (some (x, 0))])).put b3 (.row (Qc.c (⟨nm, t⟩ : Qc)))) b3 = some (true, .row (Qc.c (⟨nm, t⟩ : Qc))) := Heap.put_same ..
 have h3n : H b3 = none := l1.none n3
 have lE := l1.trans l3
 generalize (H.put b1 (.row [pv (some (x, 0))])).put b3 (.row (Qc.c (⟨nm, t⟩ : Qc))) = E at *
 refine ⟨_, by rw [Qn c1]; rfl, Qi rfl (fL c3 (t := t) rfl ?_)⟩
 have hF := h.f n (Nat.le_refl _)
 refine Qix hFm hv (hb.le.trans lE) hr (fun hm E2 l4 => ?_) fun hm E2 l4 => ?_
 rotate_left
 ·intro b13 n13
  refine nwS (QA rfl (k0 hm _ (lE.trans (l4.trans (Heap.le_put n13)))))
 intro b13 n13
 refine nwS (Qi rfl ?_)
 have l13 := Heap.le_put n13 (g := .row [sv (showK r)]) (m := true)
 have c13 : (E2.put b13 (.row [sv (showK r)])) b13 = some (true, .row [sv (showK r)]) := Heap.put_same ..
 have h13n : H b13 = none := lE.none (l4.none n13)
 have l5 := l4.trans l13
 generalize E2.put b13 (.row [sv (showK r)]) = E3 at *
 have d1 := l5 _ _ c1
 have d3 := l5 _ _ c3
 have lH := lE.trans l5
 have hL := h.up lH
 have hmt := h.f
 have hnms := h.nm
 obtain ⟨⟨m, s, T, p1, p2, p3, p4⟩, _, _⟩ := hL
 obtain ⟨L, hR⟩ := p1.rl
 refine ⟨_, by rw [Qn d1]; rfl, _, rfl, p1.ld0 ⟨nm, by rw [Qn d3]; rfl, hR.look fun y is hl => ⟨_, by rw [Qn c13]; rfl, ?_⟩⟩⟩
 refine hl.look (fun r' hr' => hF _ hr') ⟨hr, hm⟩ (fun hS s2 hs => QA rfl (k1 hm hS _ lH)) fun hS => Qi rfl ?_
 refine fL d3 (t := t) rfl ?_
 refine QgN hv (hb.le.trans lH) (by have := hr.z; omega) fun t2 E4 hM => ?_
 have l6 := lH.trans hM.le
 have hO := h.oh
 obtain ⟨w1, w2, w3, w4⟩ := Qg0 hO l6
 have e1 := hM.le _ _ d1
 have e3 := hM.le _ _ d3
 have e13 := hM.le _ _ c13
 have n1' : H b1 = none := n1
 have a1 := w3 _ _ (Heap.new_some e1 n1)
 have a3 := w3 _ _ (Heap.new_some e3 h3n)
 have a13 := w3 _ _ (Heap.new_some e13 h13n)
 have hrow : VRow (A.or (Heap.new H E4)) t2 r := hM.row.le fun c e hc => by
  obtain ⟨q1, q2⟩ := Heap.new_inv hc
  exact w3 _ _ (Heap.new_some q2 (lH.none q1))
 have g1 := (p1.up hM.le).grow Heap.le_or w1 w2
 have g2 := (p2.keep (o2 := o) fun c hw => ⟨hw, p1.oh.eq_le hM.le hw⟩).grow (B := A.or (Heap.new H E4)) Heap.le_or
 have hAle : A.le (A.or (Heap.new H E4)) := Heap.le_or
 have hmv0 : Mv o A H o (A.or (Heap.new H E4)) E4 := ⟨Chg.of_le l6, hAle, w4⟩
 generalize A.or (Heap.new H E4) = A2 at *
 refine ⟨_, by rw [Qn e1]; rfl, ⟨nm, by rw [Qn e3]; rfl, ⟨_, by rw [Qn e13]; rfl, ?_⟩⟩⟩
 refine Qki (n := nm) g1 hrow fun o2 E5 c5 L5 => ?_
 have D5 := g2.chg g1.oh c5
 have hoff : ∀ {c : Nat} {e : Bool × GO}, A2 c = some e → (E5.off s) c = some e := fun {c e} hc => Heap.off_some (L5.oh.le _ _ hc) fun q hq e' => by
  have := L5.oh.ap _ _ (D5.ow q hq)
  rw [e', hc] at this; cases this
 have hx5 : (E5.off s) x = some (true, .row [mv (some m), slv s]) := Heap.off_some L5.hx fun q hq e' => by
  have := D5.ow q hq
  rw [e', L5.ox] at this; cases this
 refine ⟨E5.off s, Heap.off_le _ _, ⟨_, by rw [Qn (hoff a1)]; rfl, ⟨_, by rw [Qn (hoff a1)]; rfl, _, rfl, ⟨s, by rw [Qn hx5]; rfl, ⟨nm, by rw [Qn (hoff a3)]; rfl, ⟨_, by rw [Qn (hoff a13)]; rfl, ?_⟩⟩⟩⟩⟩⟩
 refine QiM (t := (true, nm, r)) L5 D5 (by omega) ⟨rfl, rfl, hrow, ⟨hr, hm⟩, b1, b3, b13, true, true, true, ⟨nm, t⟩, a1, a3, rfl, a13, .inl ⟨rfl, rfl⟩⟩ fun o3 E6 s3 m6 L6 D6 => ?_
 have hmv5 : Mv o A2 E4 o2 A2 E5 := ⟨c5.imp fun _ _ => trivial, Heap.le.refl _, fun c hc => .inl hc⟩
 refine k2 hm hS o3 A2 E6 (hmv0.trans (hmv5.trans m6)) ⟨⟨m, s3, T ++ [(true, nm, r)], by rw [Qc2]; exact L6, D6, by simp [p3], Qhf p4 p3 (QgK.2 ⟨hS, rfl⟩)⟩, fun i hi => ?_, fun i hi y hy => ?_⟩
 ·by_cases hin : i ≤ n
  ·rw [QdL hin]; exact hmt i hin
  ·have : i = n + 1 := by omega
   subst this
   rw [Qc2]
   intro y hy
   rcases hy with hy | hy
   ·exact hF y hy
   ·rw [hy]; exact ⟨hr, hm⟩
 ·by_cases hin : i ≤ n
  ·rw [QdL hin] at hy; exact hnms i hin y hy
  ·have : i = n + 1 := by omega
   subst this
   rw [Qc2] at hy
   rcases hy with hy | hy
   ·exact hnms n (Nat.le_refl _) y hy
   ·rw [hy]; exact hnm
theorem Qid (hFm : FmtC C) {K : Bool → Int → Heap → Prop} (h : LG o A H x a n N) (hn : n ≤ 1000000) (hb : Bs o B H) (hv : VRow B t r) (hr : okR r)
 (k0 : mayR r = false → ∀ H2, H.le H2 → K false 4 H2)
 (k1 : mayR r = true → ¬ a n (nm, r) → ∀ H2, H.le H2 → K false 0 H2)
 (k2 : mayR r = true → a n (nm, r) → ∀ o2 A2 H2, Mv o A H o2 A2 H2 → LG o2 A2 H2 x (ext a n (Qeg (a n) (nm, r))) (n + 1) (N + 2) → K true 0 H2) : QV C (some (x, 0)) ⟨nm, t⟩ K H := by
 apply Qfg
 unfold Qdq
 intro b1 n1 b3 n3
 have l1 := Heap.le_put n1 (g := .row [pv (some (x, 0))]) (m := true)
 have l3 := Heap.le_put n3 (g := .row (Qc.c (⟨nm, t⟩ : Qc))) (m := true)
 have c1 := l3 _ _ (show (H.put b1 (.row [pv (some (x, 0))])) b1 = some (true, .row [pv (some (x, 0))]) from Heap.put_same ..)
 have c3 : ((H.put b1 (.row [pv (some (x, 0))])).put b3 (.row (Qc.c (⟨nm, t⟩ : Qc)))) b3 = some (true, .row (Qc.c (⟨nm, t⟩ : Qc))) := Heap.put_same ..
 have h3n : H b3 = none := l1.none n3
 have lE := l1.trans l3
 generalize (H.put b1 (.row [pv (some (x, 0))])).put b3 (.row (Qc.c (⟨nm, t⟩ : Qc))) = E at *
 refine ⟨_, by rw [Qn c1]; rfl, Qi rfl (fL c3 (t := t) rfl ?_)⟩
 have hF := h.f n (Nat.le_refl _)
 refine Qix hFm hv (hb.le.trans lE) hr (fun hm E2 l4 => ?_) fun hm E2 l4 => ?_
 rotate_left
 ·intro b13 n13
  refine nwS (QA rfl (k0 hm _ (lE.trans (l4.trans (Heap.le_put n13)))))
 intro b13 n13
 refine nwS (Qi rfl ?_)
 have l13 := Heap.le_put n13 (g := .row [sv (showK r)]) (m := true)
 have c13 : (E2.put b13 (.row [sv (showK r)])) b13 = some (true, .row [sv (showK r)]) := Heap.put_same ..
 have h13n : H b13 = none := lE.none (l4.none n13)
 have l5 := l4.trans l13
 generalize E2.put b13 (.row [sv (showK r)]) = E3 at *
 have d1 := l5 _ _ c1
 have d3 := l5 _ _ c3
 have lH := lE.trans l5
 have hL := h.up lH
 have hmt := h.f
 have hnms := h.nm
 obtain ⟨⟨m, s, T, p1, p2, p3, p4⟩, _, _⟩ := hL
 obtain ⟨L, hR⟩ := p1.rl
 refine ⟨E3, Heap.le.refl _, _, by rw [Qn d1]; rfl, _, rfl, p1.ld0 ⟨nm, by rw [Qn d3]; rfl, hR.look fun y is hl => ⟨_, by rw [Qn c13]; rfl, ?_⟩⟩⟩
 refine hl.look (fun r' hr' => hF _ hr') ⟨hr, hm⟩ (fun hS s2 hs => ?_) fun hS => ?_
 rotate_left
 ·intro b36 n36
  have l36 := Heap.le_put n36 (g := .row [slv Sl.nil]) (m := true)
  exact ⟨l36, nwS ⟨Heap.le_put n36, QA rfl (k1 hm hS _ (lH.trans (Heap.le_put n36)))⟩⟩
 intro b36 n36
 have l36 := Heap.le_put n36 (g := .row [slv Sl.nil]) (m := true)
 refine ⟨l36, nwS ⟨Heap.le_put n36, Qi rfl ?_⟩⟩
 have l37 := Heap.le_put n36 (g := .row [slv s2]) (m := true)
 have c36 : (E3.put b36 (.row [slv s2])) b36 = some (true, .row [slv s2]) := Heap.put_same ..
 have h36n : H b36 = none := lH.none n36
 generalize E3.put b36 (.row [slv s2]) = E4 at *
 have l6 := lH.trans l37
 have hO := h.oh
 obtain ⟨w1, w2, w3, w4⟩ := Qg0 hO l6
 have e1 := l37 _ _ d1
 have e3 := l37 _ _ d3
 have e13 := l37 _ _ c13
 have a1 := w3 _ _ (Heap.new_some e1 n1)
 have a3 := w3 _ _ (Heap.new_some e3 h3n)
 have a13 := w3 _ _ (Heap.new_some e13 h13n)
 have a36 := w3 _ _ (Heap.new_some c36 h36n)
 have hrow : VRow (A.or (Heap.new H E4)) s2 r := hs.le Heap.le_or
 have g1 := (p1.up l37).grow Heap.le_or w1 w2
 have g2 := (p2.keep (o2 := o) fun c hw => ⟨hw, p1.oh.eq_le l37 hw⟩).grow (B := A.or (Heap.new H E4)) Heap.le_or
 have hAle : A.le (A.or (Heap.new H E4)) := Heap.le_or
 have hmv0 : Mv o A H o (A.or (Heap.new H E4)) E4 := ⟨Chg.of_le l6, hAle, w4⟩
 generalize A.or (Heap.new H E4) = A2 at *
 refine ⟨_, by rw [Qn e1]; rfl, ⟨nm, by rw [Qn e3]; rfl, ⟨_, by rw [Qn e13]; rfl, ?_⟩⟩⟩
 refine QjM (n := nm) g1 hF hS fun E5 c5 L5 => ?_
 have D5 := g2.chg g1.oh c5
 have hoff : ∀ {c : Nat} {e : Bool × GO}, A2 c = some e → (E5.off s) c = some e := fun {c e} hc => Heap.off_some (L5.oh.le _ _ hc) fun q hq e' => by
  have := L5.oh.ap _ _ (D5.ow q hq)
  rw [e', hc] at this; cases this
 have hx5 : (E5.off s) x = some (true, .row [mv (some m), slv s]) := Heap.off_some L5.hx fun q hq e' => by
  have := D5.ow q hq
  rw [e', L5.ox] at this; cases this
 refine ⟨E5.off s, Heap.off_le _ _, ⟨_, by rw [Qn (hoff a1)]; rfl, ⟨_, by rw [Qn (hoff a1)]; rfl, _, rfl, ⟨s, by rw [Qn hx5]; rfl, ⟨nm, by rw [Qn (hoff a3)]; rfl, ⟨_, by rw [Qn (hoff a13)]; rfl, ⟨s2, by rw [Qn (hoff a36)]; rfl, ?_⟩⟩⟩⟩⟩⟩⟩
 refine QiM (t := (false, nm, r)) L5 D5 (by omega) ⟨rfl, rfl, hrow, ⟨hr, hm⟩, b1, b3, b13, true, true, true, ⟨nm, t⟩, a1, a3, rfl, a13, .inr ⟨rfl, b36, true, s2, a36, hrow, rfl⟩⟩ fun o3 E6 s3 m6 L6 D6 => ?_
 have hmv5 : Mv o A2 E4 o A2 E5 := ⟨c5.imp fun _ _ => trivial, Heap.le.refl _, fun c hc => .inl hc⟩
 refine k2 hm hS o3 A2 E6 (hmv0.trans (hmv5.trans m6)) ⟨⟨m, s3, T ++ [(false, nm, r)], by rw [Qc2]; exact L6.more (by omega), D6, by simp [p3], Qhf p4 p3 (QgJ.2 ⟨hS, rfl⟩)⟩, fun i hi => ?_, fun i hi y hy => ?_⟩
 ·by_cases hin : i ≤ n
  ·rw [QdL hin]; exact hmt i hin
  ·have : i = n + 1 := by omega
   subst this
   rw [Qc2]
   exact fun y hy => hF y hy.1
 ·by_cases hin : i ≤ n
  ·rw [QdL hin] at hy; exact hnms i hin y hy
  ·have : i = n + 1 := by omega
   subst this
   rw [Qc2] at hy
   exact hnms n (Nat.le_refl _) y hy.1
theorem Qie {K : Option (Nat × Nat) → Heap → Prop} (k : ∀ x o H2, H.le H2 → (∀ c w, o c = some w → H c = none) → LG o (fun _ => none) H2 x (fun _ => noS) 0 0 → K (some (x, 0)) H2) : Qcu C K H := by
 apply Qhn
 unfold QfJ
 intro m nm x nx
 have l1 := Heap.le_put nm (g := .obj (.map #[] 0)) (m := true)
 have l2 := Heap.le_put nx (g := .row (QZ.c (⟨some m, Sl.nil⟩ : QZ))) (m := true)
 have hxm : x ≠ m := fun e => by subst e; rw [Heap.put_same] at nx; cases nx
 refine k x (fun c => if c = m then some .rels else if c = x then some .log else none) _ (l1.trans l2) (fun c w hw => ?_) ⟨⟨m, Sl.nil, [], ⟨⟨fun c e hc => (by cases hc), fun c w hw => rfl, fun c w hw => ?_⟩, Heap.put_same .., by rw [if_neg hxm, if_pos rfl], [], ⟨by rw [if_pos rfl], ?_, fun p hp => (by cases hp), fun n r hr => hr.elim, Nat.le_refl _⟩⟩, ⟨⟨[], Own.nil _ 4, rfl, fun i t v hi => by simp at hi⟩, fun q hq => by cases hq⟩, rfl, fun i t hi => by simp at hi⟩, fun i hi y hy => hy.elim, fun i hi y hy => hy.elim⟩
 ·split at hw
  ·rename_i e; rw [e]; exact nm
  ·split at hw
   ·rename_i e; rw [e]; exact l1.none nx
   ·cases hw
 ·split at hw
  ·rename_i e; rw [e, Heap.put_ne _ _ _ hxm.symm, Heap.put_same]; simp
  ·split at hw
   ·rename_i e; rw [e, Heap.put_same]; simp
   ·cases hw
 ·exact (MapS.new (H := H) (b := m)).same (by rw [Heap.put_ne _ _ _ hxm.symm])
end
end
section
open Go Go.Proofs
/-- what is called behind keeps the world's blocks: it has grown -/
theorem Qip {w1 w' : World} {H' : Heap} (h : St (ctxOf w1) w' H') : ∃ q os', w' = Go.Sort.grow (w1.drewN q) os' := by
 have h1 : w'.os = w1.os := congrArg (fun q : Os × (Nat → Question → Nat) => q.1) h.os.1
 have h2 : w'.tape = w1.tape := congrArg (fun q : Os × (Nat → Question → Nat) => q.2) h.os.1
 have h3 : w1.drawn ≤ w'.drawn := h.os.2
 have h4 : w'.output = w1.output := h.out
 have h5 : w1.heap.size ≤ w'.heap.size := h.old_le
 have h6 : ∀ i, i < w1.heap.size → w'.heap[i]? = w1.heap[i]? := fun i hi => h.old i hi
 refine ⟨w'.drawn - w1.drawn, w'.heap.extract w1.heap.size w'.heap.size, ?_⟩
 have hh : w'.heap = w1.heap ++ w'.heap.extract w1.heap.size w'.heap.size := by
  apply Array.ext_getElem?
  intro i
  rw [Array.getElem?_append]
  split
  ·exact h6 i ‹_›
  ·rw [Array.getElem?_extract]
   have e : w1.heap.size + (i - w1.heap.size) = i := by omega
   rw [e]
   split
   ·rfl
   ·rw [Array.getElem?_eq_none (by omega)]
 have hd : w'.drawn = w1.drawn + (w'.drawn - w1.drawn) := by omega
 unfold Go.Sort.grow World.drewN
 generalize w'.drawn - w1.drawn = q at *
 generalize w'.heap.extract w1.heap.size w'.heap.size = es at *
 obtain ⟨a1, a2, a3, a4, a5⟩ := w'
 obtain ⟨b1, b2, b3, b4, b5⟩ := w1
 simp only at *
 subst h1; subst h2; subst h4; subst hd; subst hh
 rfl
theorem QjR {A B : Heap} (h : ∀ p v, rd A p = some v → rd B p = some v) : ∀ {cs : List Value} {p : Nat × Nat}, rds A p cs → rds B p cs
 | [], _, _ => trivial
 | v :: r, p, ⟨h1, h2⟩ => ⟨h _ _ h1, QjR h h2⟩
theorem QiS {A B : Heap} (h : ∀ p v, rd A p = some v → rd B p = some v) {s : Sl} {cs : List Value} (hr : rdsl A s cs) : rdsl B s cs := by
 rcases hr with hr | ⟨a, p, b, c⟩
 ·exact .inl hr
 ·exact .inr ⟨a, p, b, QjR h c⟩
mutual
theorem VIs.to {A B : Heap} (h : ∀ p v, rd A p = some v → rd B p = some v) : ∀ {v : V} {x : TV}, VIs A v x → VIs B v x
 | .mk k n s l, x, ⟨h1, h2, h3, xs, h4, h5, h6⟩ => ⟨h1, h2, h3, xs, QiS h h4, h5, VsAre.to h h6⟩
theorem VsAre.to {A B : Heap} (h : ∀ p v, rd A p = some v → rd B p = some v) : ∀ {l : List V} {xs : List TV}, VsAre A l xs → VsAre B l xs
 | [], [], _ => trivial
 | v :: l, x :: xs, ⟨h1, h2⟩ => ⟨VIs.to h h1, VsAre.to h h2⟩
end
theorem VRow.to {A B : Heap} (h : ∀ p v, rd A p = some v → rd B p = some v) {t : Sl} {l : List V} (hr : VRow A t l) : VRow B t l := by
 obtain ⟨xs, h1, h2, h3⟩ := hr
 exact ⟨xs, QiS h h1, h2, h3.to h⟩
/-- what is read in a part of the heap is read in a world that keeps its blocks -/
theorem QhS {C : Ctx} {w w1 : World} {A H : Heap} (hs : St C w H) (hA : A.le H) (hb : ∀ c, A c ≠ none → w1.heap[c]? = w.heap[c]?) (p : Nat × Nat) (v : Value) (h : rd A p = some v) : rd (heapOf w1) p = some v := by
 unfold rd at h
 split at h
 ·rename_i m g hg
  obtain ⟨ob, ho, hr⟩ := hs.blk _ _ _ (hA _ _ hg)
  have hw1 := (hb p.1 (by rw [hg]; simp)).trans ho
  cases hc : g.cells? with
  | none => rw [hc] at h; cases h
  | some c =>
   rw [hc] at h
   have : ∃ t fr, ob = .cells c.toArray t fr := by
    cases g <;> simp only [GO.cells?, Option.some.injEq, reduceCtorEq] at hc <;> cases ob <;> simp only [GO.rel] at hr
    ·subst hc; exact ⟨_, _, by rw [hr.1]⟩
    ·subst hc; exact ⟨_, _, by rw [hr.1]⟩
   obtain ⟨t, fr, e⟩ := this
   subst e
   unfold rd heapOf
   rw [hw1]
   exact h
 ·cases h
end
section
open Go Go.Proofs
/-- a row that can be compared, in a part of memory -/
def ZR (A : Heap) : Type := {z : Sl × List V // VRow A z.1 z.2 ∧ VBs z.2 ∧ z.2.length ≤ 140737488355328}
instance (A : Heap) : Inhabited (ZR A) := ⟨⟨(Sl.nil, []), ⟨[], .inl rfl, rfl, trivial⟩, trivial, Nat.zero_le _⟩⟩
def ZR.cf {A : Heap} (a b : ZR A) : Int := cmpR a.1.2 b.1.2
theorem Qka (A : Heap) : Go.Sort.SWO (ltOf (ZR.cf (A := A))) := by
 have hL := Lin.row
 refine ⟨fun x => ?_, fun x y z h1 h2 => ?_, fun x y z h1 h2 => ?_⟩
 ·have := hL.refl (a := x.1.2) trivial
  unfold ltOf ZR.cf; rw [this]; rfl
 ·have h1 := of_decide_eq_true h1
  have h2 := of_decide_eq_true h2
  have := (hL.tr x.1.2 y.1.2 z.1.2 trivial trivial trivial (by unfold ZR.cf at h1; omega) (by unfold ZR.cf at h2; omega)).2 (.inl h1)
  exact decide_eq_true this
 ·have h1 := of_decide_eq_false h1
  have h2 := of_decide_eq_false h2
  refine decide_eq_false ?_
  unfold ZR.cf at *
  have a1 := hL.anti x.1.2 y.1.2 trivial trivial
  have a2 := hL.anti y.1.2 z.1.2 trivial trivial
  have a3 := hL.anti x.1.2 z.1.2 trivial trivial
  have := (hL.tr z.1.2 y.1.2 x.1.2 trivial trivial trivial (by omega) (by omega)).1
  omega
theorem Qhe {α : Type} [Inhabited α] {enc : α → Value} {w : World} {blk m c : Nat} {dk : Array α} {os : Array Obj} (hc : c ≠ blk) (hl : c < w.heap.size) : (sortWorld enc w blk 0 m dk os).heap[c]? = w.heap[c]? := by
 unfold sortWorld Go.Sort.grow Go.Sort.putRow Go.Sort.mapBlock Go.Sort.ahead
 simp only
 rw [Array.getElem?_append_left (by simpa using hl), Array.getElem?_modify, if_neg hc.symm]
theorem Qjh {C : Ctx} {w : World} {H A : Heap} {blk size : Nat} (hs : St C w H) (hA : A.le H) (hb : A blk = none) : CmpLays1 Tryz.prog 37 #[] (fun z : ZR A => slv z.1.1) ZR.cf blk 0 size w := by
 intro m os dk hd x y
 have hrd : ∀ p v, rd A p = some v → rd (heapOf (sortWorld (fun z : ZR A => slv z.1.1) w blk 0 m dk os)) p = some v := fun p v h =>
  QhS hs hA (fun c hc => Qhe (fun e => hc (by rw [e]; exact hb)) (by
   cases hac : A c with
   | none => exact absurd hac hc
   | some e => exact hs.lt (hA _ _ hac))) p v h
 have hspec : Qbj (ctxOf (sortWorld (fun z : ZR A => slv z.1.1) w blk 0 m dk os)) x.1.1 y.1.1 (fun r _ => r = cmpR x.1.2 y.1.2) (heapOf (sortWorld (fun z : ZR A => slv z.1.1) w blk 0 m dk os)) :=
  QfD (x.2.1.to hrd) (y.2.1.to hrd) x.2.2.2 y.2.2.2 x.2.2.1 y.2.2.1 rfl
 have hcall := hspec _ (QfM _)
 refine hcall.mono ?_
 rintro e w' ⟨v, H', rfl, hst, r, rfl, hr⟩
 subst hr
 exact ⟨rfl, Qip hst⟩
theorem Qir {C : Ctx} {w : World} {H A : Heap} {blk : Nat} {d : Array (ZR A)} {sp : List Value} (hs : St C w H) (hb : H blk = some (true, .row ((d.toList.map fun z => slv z.1.1) ++ sp))) : Go.Sort.Holds (fun z : ZR A => slv z.1.1) w blk 0 d := by
 intro j hj
 obtain ⟨ob, ho, hr⟩ := hs.blk _ _ _ hb
 cases ob <;> simp only [GO.rel] at hr
 rename_i c t fr
 obtain ⟨rfl, hfr⟩ := hr
 have hfr := hfr trivial
 have hl : 0 + j < ((d.toList.map fun z : ZR A => slv z.1.1) ++ sp).length := by simp; omega
 constructor
 ·unfold World.cell?
  simp only [ho]
  rw [if_neg (by simp), List.getElem?_toArray, Nat.zero_add, List.getElem?_append_left (by simpa using hj), List.getElem?_map, Array.getElem?_toList, Array.getElem?_eq_getElem hj]
  simp [hj]
 ·unfold World.frozen?
  simp only [ho]
  obtain ⟨lo, hi⟩ := fr
  simp only at hfr ⊢
  rcases hfr with h | h
  ·subst h; simp; try omega
  ·simp; try omega
theorem St.putR {α : Type} [Inhabited α] {enc : α → Value} {C : Ctx} {w : World} {H : Heap} {b : Nat} {cs sp : List Value} {d : Array α} (hs : St C w H) (hb : H b = some (true, .row (cs ++ sp))) (hl : cs.length = d.size) : St C (Go.Sort.putRow enc w b 0 d) (H.put b (.row ((d.toList.map enc) ++ sp))) := by
 obtain ⟨ob, ho, hr⟩ := hs.blk _ _ _ hb
 cases ob <;> simp only [GO.rel] at hr
 rename_i c t fr
 obtain ⟨rfl, hfr⟩ := hr
 have hfr := hfr trivial
 refine hs.set hb (o' := .cells (Go.Sort.putCells enc 0 d (cs ++ sp).toArray) t fr) ⟨rfl, rfl, ?_, fun x hx => ?_⟩ ⟨?_, fun _ => ?_⟩
 ·unfold Go.Sort.putRow Go.Sort.mapBlock
  simp only
  rw [Array.getElem?_modify, if_pos rfl, ho]
  rfl
 ·unfold Go.Sort.putRow Go.Sort.mapBlock
  simp only
  rw [Array.getElem?_modify, if_neg hx.symm]
 ·apply Array.ext_getElem?
  intro k
  unfold Go.Sort.putCells
  rw [Array.getElem?_mapIdx, List.getElem?_toArray, List.getElem?_toArray, Nat.zero_add]
  by_cases hk : k < d.size
  ·have hk1 : k < cs.length := by omega
   have hk2 : k < (d.toList.map enc).length := by simpa using hk
   have e1 : (cs ++ sp)[k]? = some cs[k] := by rw [List.getElem?_append_left hk1, List.getElem?_eq_getElem hk1]
   have e2 : (d.toList.map enc ++ sp)[k]? = some (enc d[k]) := by rw [List.getElem?_append_left hk2, List.getElem?_map, Array.getElem?_toList, Array.getElem?_eq_getElem hk]; rfl
   rw [e1, e2]
   simp [hk]
  ·have e1 : (cs ++ sp)[k]? = sp[k - d.size]? := by rw [List.getElem?_append_right (by omega), hl]
   have e2 : (d.toList.map enc ++ sp)[k]? = sp[k - d.size]? := by rw [List.getElem?_append_right (by simp; omega)]; simp
   rw [e1, e2]
   cases hsp : sp[k - d.size]? with
   | none => rfl
   | some v => simp [hk]
 ·simp only [List.length_append, List.length_map, Array.length_toList] at hfr ⊢
  omega
theorem St.sortW {α : Type} [Inhabited α] {enc : α → Value} {C : Ctx} {w : World} {H : Heap} {b n : Nat} {cs sp : List Value} {d : Array α} {os : Array Obj} (hs : St C w H) (hb : H b = some (true, .row (cs ++ sp))) (hl : cs.length = d.size) : St C (sortWorld enc w b 0 n d os) (H.put b (.row ((d.toList.map enc) ++ sp))) := by
 have h1 := St.putR (enc := enc) (hs.drewN n) hb hl
 have h2 := St.growL os.toList h1
 rw [Array.toArray_toList] at h2
 exact h2
theorem Qjd {A : Heap} : ∀ (zs : List (Sl × List V)), (∀ z ∈ zs, VRow A z.1 z.2 ∧ VBs z.2 ∧ z.2.length ≤ 140737488355328) → ∃ dl : List (ZR A), dl.map (fun z => z.1) = zs
 | [], _ => ⟨[], rfl⟩
 | z :: zs, h => by
  obtain ⟨dl, e⟩ := Qjd zs fun z hz => h z (List.mem_cons_of_mem _ hz)
  exact ⟨⟨z, h z (List.mem_cons_self ..)⟩ :: dl, congrArg (fun l => z :: l) e⟩
theorem QhZ {C : Ctx} {H0 H : Heap} {s : Sl} {zs : List (Sl × List V)} {K : Heap → Prop} (ho : OwnF H0 H 1 s (zs.map fun z => slv z.1)) (hz : ∀ z ∈ zs, VRow (H.off s) z.1 z.2 ∧ VBs z.2 ∧ z.2.length ≤ 140737488355328) (hn : zs.length ≤ 1000000000)
 (k : ∀ (ws : List (Sl × List V)) H2, ws.Perm zs → ws.Pairwise (fun a b => cmpR a.2 b.2 ≤ 0) → OwnF H0 H2 1 s (ws.map fun z => slv z.1) → H2.off s = H.off s → K H2) : Qx C s (.func (.func 37) (List.toArray []) (List.toArray [])) K H := by
 intro w hw
 obtain ⟨hle, ⟨hlen, hx, hcap, hcase⟩, hfr⟩ := ho
 have hlen : s.len = zs.length := by simpa using hlen.symm
 by_cases h0 : zs = []
 ·have hl0 : s.len = 0 := by rw [hlen, h0]; rfl
  have hall := AnyF.slices_SortFunc_none (P := Tryz.prog) (ρ := Tryz.laysSrt_ren) (by have L := Tryz.laysSrt; exact { L with }) s.ad s.cap (.func (.func 37) #[] #[]) w
  have harg : (#[.slice s.ad 0 s.cap, .func (.func 37) #[] #[]] : Array Value) = [slv s, .func (.func 37) (List.toArray []) (List.toArray [])].toArray := by
   unfold slv; rw [hl0]
  rw [← harg]
  refine hall.mono ?_
  rintro e w' ⟨rfl, rfl⟩
  exact ⟨.tuple #[], H, rfl, hw, rfl, k zs H (List.Perm.refl _) (by rw [h0]; exact .nil) ⟨hle, ⟨by simpa using hlen.symm, hx, hcap, hcase⟩, hfr⟩ rfl⟩
 ·rcases hcase with ⟨_, hc0⟩ | ⟨b, sp, hp, hb, hsz⟩
  ·have : zs.length = 0 := by omega
   exact absurd (List.length_eq_zero_iff.1 this) h0
  ·have hoff : (H.off s) b = none := Heap.off_fresh s H _ hp
   have had : s.ad = some ⟨b, 0, none⟩ := by unfold Sl.ad; rw [hp, hx]; rfl
   obtain ⟨dl, hdl⟩ := Qjd zs hz
   have hdv : dl.toArray.toList.map (fun z : ZR (H.off s) => z.1) = zs := hdl
   have hdm : (dl.toArray.toList.map fun z : ZR (H.off s) => slv z.1.1) = zs.map fun z => slv z.1 := by
    rw [← hdv, List.map_map]; rfl
   have hds : dl.toArray.size = zs.length := by rw [← hdv]; simp
   generalize dl.toArray = d at *
   have hall := Any.slices_SortFunc Tryz.laysSrt (fun z : ZR (H.off s) => slv z.1.1) (fun z => rfl) ZR.cf (Qka _) 37 #[] b 0 s.cap d w (Qbu Qc6) (Qjh hw (Heap.off_le s H) hoff) (Qir (sp := sp) hw (by rw [hdm]; exact hb)) (hw.lt hb) (by omega)
   have harg : (#[.slice (some ⟨b, 0, none⟩) d.size s.cap, .func (.func 37) #[] #[]] : Array Value) = [slv s, .func (.func 37) (List.toArray []) (List.toArray [])].toArray := by
    unfold slv; rw [had, hds, hlen]
   rw [← harg]
   refine hall.mono ?_
   rintro e w' ⟨rfl, d', n, os, hperm, hsort, rfl⟩
   obtain ⟨p1, _, p3⟩ := hperm
   have hP : d'.toList.Perm d.toList := by
    have e1 : d'.extract 0 d.size = d' := by rw [← p1]; simp
    have e2 : d.extract 0 d.size = d := by simp
    rw [e1, e2] at p3; exact p3
   have hwp : (d'.toList.map fun z : ZR (H.off s) => z.1).Perm zs := by
    have := hP.map (fun z : ZR (H.off s) => z.1)
    rw [hdv] at this; exact this
   have hst := St.sortW (enc := fun z : ZR (H.off s) => slv z.1.1) (n := n) (os := os) (d := d') hw hb (by rw [List.length_map, p1, hds])
   refine ⟨.tuple #[], _, rfl, hst, rfl, k (d'.toList.map fun z => z.1) _ hwp ?_ ⟨?_, ⟨?_, hx, hcap, .inr ⟨b, sp, hp, ?_, ?_⟩⟩, hfr⟩ ?_⟩
   ·rw [List.pairwise_map, List.pairwise_iff_getElem]
    intro i j hi hj hij
    have hj2 : j < d'.size := by simpa using hj
    have hi2 : i < d'.size := by omega
    have h1 := of_decide_eq_false (hsort i j (Nat.zero_le _) hij (by omega))
    have e1 : d'[i]! = d'[i] := by simp [hi2]
    have e2 : d'[j]! = d'[j] := by simp [hj2]
    rw [e1, e2] at h1
    unfold ZR.cf at h1
    have := Lin.row.anti d'[i].1.2 d'[j].1.2 trivial trivial
    simp only [Array.getElem_toList]
    omega
   ·intro c e hc
    have : c ≠ b := fun e' => by rw [e'] at hc; have := hfr _ hp; rw [this] at hc; cases hc
    rw [Heap.put_ne _ _ _ this]; exact hle _ _ hc
   ·rw [List.length_map, hwp.length_eq]; omega
   ·rw [Heap.put_same, List.map_map]; rfl
   ·rw [List.map_map] at *
    simp only [List.length_append, List.length_map, Array.length_toList] at hsz ⊢
    omega
   ·funext c
    unfold Heap.off
    split
    ·rfl
    ·rename_i hc
     have : c ≠ b := fun e => hc (by rw [hp, e]; rfl)
     rw [Heap.put_ne _ _ _ this]
end
section
open Go Go.Proofs
theorem QjJ : ∀ x y : Str, x < y ↔ vcmpS x y < 0
 | [], [] => by simp [vcmpS]
 | [], b :: y => by simp [vcmpS]
 | a :: x, [] => by simp [vcmpS]
 | a :: x, b :: y => by
  rw [List.cons_lt_cons_iff, QjJ x y]
  simp only [vcmpS]
  by_cases he : a = b
  ·subst he
   rw [if_pos rfl]
   exact ⟨fun h => h.elim (fun h => absurd h (fun h => Nat.lt_irrefl _ h)) fun h => h.2, fun h => .inr ⟨rfl, h⟩⟩
  ·rw [if_neg he, QeO]
   refine ⟨fun h => h.elim (fun h => ?_) fun h => absurd h.1 he, fun h => .inl ?_⟩
   ·have := UInt8.lt_iff_toNat_lt.1 h; omega
   ·exact UInt8.lt_iff_toNat_lt.2 (by omega)
theorem QhK (x y : Str) : x ≤ y ↔ vcmpS x y ≤ 0 := by
 have h1 : x ≤ y ↔ ¬ y < x := Iff.rfl
 rw [h1, QjJ]
 have := Lin.txt.anti y x trivial trivial
 omega
theorem Qis {C : Ctx} {w : World} {H : Heap} {blk : Nat} {d : Array Str} {sp : List Value} (hs : St C w H) (hb : H blk = some (true, .row ((d.toList.map sv) ++ sp))) : Go.Sort.Holds Go.Proofs.encStr w blk 0 d := by
 intro j hj
 obtain ⟨ob, ho, hr⟩ := hs.blk _ _ _ hb
 cases ob <;> simp only [GO.rel] at hr
 rename_i c t fr
 obtain ⟨rfl, hfr⟩ := hr
 have hfr := hfr trivial
 have hl : 0 + j < ((d.toList.map sv) ++ sp).length := by simp; omega
 constructor
 ·unfold World.cell?
  simp only [ho]
  rw [if_neg (by simp), List.getElem?_toArray, Nat.zero_add, List.getElem?_append_left (by simpa using hj), List.getElem?_map, Array.getElem?_toList, Array.getElem?_eq_getElem hj]
  simp [hj, sv]
 ·unfold World.frozen?
  simp only [ho]
  obtain ⟨lo, hi⟩ := fr
  simp only at hfr ⊢
  rcases hfr with h | h
  ·subst h; simp; try omega
  ·simp; try omega
theorem QjD {C : Ctx} {H0 H : Heap} {s : Sl} {zs : List Str} {K : Heap → Prop} (ho : OwnF H0 H 1 s (zs.map sv)) (hn : zs.length ≤ 1000000000)
 (k : ∀ (ws : List Str) H2, ws.Perm zs → ws.Pairwise (fun a b => vcmpS a b ≤ 0) → OwnF H0 H2 1 s (ws.map sv) → K H2) : QaF C s K H := by
 intro w hw
 obtain ⟨hle, ⟨hlen, hx, hcap, hcase⟩, hfr⟩ := ho
 have hlen : s.len = zs.length := by simpa using hlen.symm
 by_cases h0 : zs = []
 ·have hl0 : s.len = 0 := by rw [hlen, h0]; rfl
  have hall := Any.slices_Sort_string_none (P := Tryz.prog) (ρ := Tryz.lays190_ren) Tryz.lays190 s.ad s.cap w
  have harg : (#[.slice s.ad 0 s.cap] : Array Value) = [slv s].toArray := by
   unfold slv; rw [hl0]
  rw [← harg]
  refine hall.mono ?_
  rintro e w' ⟨rfl, rfl⟩
  exact ⟨.tuple #[], H, rfl, hw, rfl, k zs H (List.Perm.refl _) (by rw [h0]; exact .nil) ⟨hle, ⟨by simpa using hlen.symm, hx, hcap, hcase⟩, hfr⟩⟩
 ·rcases hcase with ⟨_, hc0⟩ | ⟨b, sp, hp, hb, hsz⟩
  ·have : zs.length = 0 := by omega
   exact absurd (List.length_eq_zero_iff.1 this) h0
  ·have had : s.ad = some ⟨b, 0, none⟩ := by unfold Sl.ad; rw [hp, hx]; rfl
   have hall := Any.slices_Sort_string Tryz.lays190 b 0 s.cap zs w (Qis (d := zs.toArray) (sp := sp) hw hb) (hw.lt hb) (by omega)
   have harg : (#[.slice (some ⟨b, 0, none⟩) zs.length s.cap] : Array Value) = [slv s].toArray := by
    unfold slv; rw [had, hlen]
   rw [← harg]
   refine hall.mono ?_
   rintro e w' ⟨rfl, n, os, rfl⟩
   have hP : (zs.mergeSort fun x y => decide (x ≤ y)).Perm zs := List.mergeSort_perm _ _
   have hS : (zs.mergeSort fun x y => decide (x ≤ y)).Pairwise fun a b => vcmpS a b ≤ 0 := by
    have := List.pairwise_mergeSort (le := fun x y : Str => decide (x ≤ y)) (fun a b c h1 h2 => by
     rw [decide_eq_true_iff, QhK] at *
     exact (Lin.txt.tr a b c trivial trivial trivial h1 h2).1) (fun a b => by
     rw [Bool.or_eq_true, decide_eq_true_iff, decide_eq_true_iff, QhK, QhK]
     have := Lin.txt.anti a b trivial trivial
     omega) zs
    exact this.imp fun {a b} h => (QhK a b).1 (of_decide_eq_true h)
   generalize (zs.mergeSort fun x y => decide (x ≤ y)) = ws at *
   have hst := St.sortW (enc := Go.Proofs.encStr) (n := n) (os := os) (d := ws.toArray) hw hb (by rw [List.length_map, List.size_toArray, hP.length_eq])
   refine ⟨.tuple #[], _, rfl, hst, rfl, k ws _ hP hS ⟨?_, ⟨?_, hx, hcap, .inr ⟨b, sp, hp, Heap.put_same .., ?_⟩⟩, hfr⟩⟩
   ·intro c e hc
    have : c ≠ b := fun e' => by rw [e'] at hc; have := hfr _ hp; rw [this] at hc; cases hc
    rw [Heap.put_ne _ _ _ this]; exact hle _ _ hc
   ·rw [List.length_map, hP.length_eq]; omega
   ·simp only [List.length_append, List.length_map] at hsz ⊢
    rw [hP.length_eq]; omega
end
section
open Go Go.Proofs
section
variable {C : Ctx} {H A : Heap}
theorem Qh1 {x y : Str} {K : Int → Heap → Prop} (k : K (vcmpS x y) H) : Qw C x y K H := by
 have nan : ∀ {s : Str} {K : Bool → Heap → Prop}, K false H → Q0 C s K H := fun {s K} k => by
  apply QbS
  unfold Qa6
  simpa using k
 apply Qbo
 unfold QaI
 obtain ⟨h1, h2, h3, h4⟩ := vslt x y
 refine nan (nan (Qi rfl (Qi rfl ?_)))
 refine ift.of (fun h => ?_) (fun h => ?_)
 ·rw [h1] at h
  have := of_decide_eq_true h
  rw [show vcmpS x y = -1 by omega] at k; exact k
 ·have hlt : ¬ vcmpS x y < 0 := by rw [h1] at h; exact of_decide_eq_false h
  rw [h, Bool.false_or]
  refine ift.of (fun h => ?_) (fun h => ?_)
  ·have hne : x ≠ y := by simpa using h
   have : vcmpS x y ≠ 0 := fun e => hne (h2.1 e)
   rw [show vcmpS x y = 1 by omega] at k; exact k
  ·have he : x = y := by simpa using h
   rw [show vcmpS x y = 0 from h2.2 he] at k; exact k
theorem Qkl {b : Nat} {x y : Int} {m : Bool} {K : Int → Heap → Prop} (h : H b = some (m, .row [.int .i64 x, .int .i64 y])) (k : K (if x ≠ 0 then x else y) H) : Qa7 C (Sl.of (some (b, 0)) 2 2) K H := by
 apply Qeb
 unfold QcY
 refine ⟨fun i D => D = H ∧ (i = 0 ∨ (i = 1 ∧ x = 0) ∨ (i = 2 ∧ x = 0 ∧ y = 0)), fun i _ => 2 - i.toNat, ⟨rfl, .inl rfl⟩, ?_⟩
 rintro i D ⟨rfl, h0 | ⟨h0, h1⟩ | ⟨h0, h1, h2⟩⟩ <;> subst h0
 ·refine QA rfl ⟨(b, 0), rfl, rfl, by omega, by simp [Sl.of], ⟨x, by rw [Qn h]; rfl, ?_⟩⟩
  refine ift.of (fun h => ?_) (fun h => ?_)
  ·rw [if_pos (by simpa using h)] at k; exact k
  ·exact ⟨⟨rfl, .inr (.inl ⟨rfl, by simpa using h⟩)⟩, by show 2 - (1 : Int).toNat < 2 - (0 : Int).toNat; decide⟩
 ·refine QA rfl ⟨(b, 0), rfl, rfl, by omega, by simp [Sl.of], ⟨y, by rw [Qn h]; rfl, ?_⟩⟩
  rw [if_neg (by omega)] at k
  refine ift.of (fun h => k) (fun h => ?_)
  exact ⟨⟨rfl, .inr (.inr ⟨rfl, h1, by simpa using h⟩)⟩, by show 2 - (2 : Int).toNat < 2 - (1 : Int).toNat; decide⟩
 ·refine Qi rfl ?_
  rw [if_neg (by omega), h2] at k; exact k
/-- a change in memory -/
structure CgIs (A : Heap) (v : Qb) (d : NR) : Prop where
 rel : v.Row.Rel = d.1
 row : VRow A v.Row.L d.2
 b : VBs d.2
 l : d.2.length ≤ 140737488355328
theorem Qi0 {v w : Qb} {d e : NR} {K : Int → Heap → Prop} (hv : CgIs A v d) (hw : CgIs A w e) (hA : A.le H) (k : ∀ H2, H.le H2 → K (cmpN d e) H2) : Qbi C v w K H := by
 apply Qd1
 unfold Qb5
 intro b1 n1 b3 n3
 have l1 := Heap.le_put n1 (g := .row (Qb.c v)) (m := true)
 have l3 := Heap.le_put n3 (g := .row (Qb.c w)) (m := true)
 have c1 := l3 _ _ (show (H.put b1 (.row (Qb.c v))) b1 = some (true, .row (Qb.c v)) from Heap.put_same ..)
 have c3 : ((H.put b1 (.row (Qb.c v))).put b3 (.row (Qb.c w))) b3 = some (true, .row (Qb.c w)) := Heap.put_same ..
 have lE := l1.trans l3
 generalize (H.put b1 (.row (Qb.c v))).put b3 (.row (Qb.c w)) = E at *
 have hAE := hA.trans lE
 refine ⟨E, Heap.le.refl _, ⟨v.Row.Rel, by rw [Qn c1]; rfl, ⟨w.Row.Rel, by rw [Qn c3]; rfl, ⟨v.Row.L, by rw [Qn c1]; rfl, ⟨w.Row.L, by rw [Qn c3]; rfl, ?_⟩⟩⟩⟩⟩
 refine Qh1 ⟨Heap.le.refl _, ?_⟩
 refine QfD (hv.row.le hAE) (hw.row.le hAE) hv.l hw.l hv.b hw.b ⟨Heap.le.refl _, ?_⟩
 intro b22 n22
 have l22 := Heap.le_put n22 (g := .row [.int .i64 (vcmpS v.Row.Rel w.Row.Rel), .int .i64 (cmpR d.2 e.2)]) (m := true)
 refine ⟨l22, Qkl (Heap.put_same ..) ⟨l22, ?_⟩⟩
 rw [hv.rel, hw.rel]
 exact k _ (lE.trans (by rw [hv.rel, hw.rel] at l22; exact l22))
end
/-- changes that can be compared, in a part of memory -/
def ZC (A : Heap) : Type := {z : Qb × NR // CgIs A z.1 z.2}
instance (A : Heap) : Inhabited (ZC A) := ⟨⟨(⟨⟨[], Sl.nil⟩, 0⟩, ([], [])), ⟨rfl, ⟨[], .inl rfl, rfl, trivial⟩, trivial, Nat.zero_le _⟩⟩⟩
def ZC.cf {A : Heap} (a b : ZC A) : Int := cmpN a.1.2 b.1.2
def ZC.en {A : Heap} (z : ZC A) : List Value := Qb.c z.1.1
theorem Qko (A : Heap) : Go.Sort.SWO (ltOf (ZC.cf (A := A))) := by
 have hL := Lin.nr
 refine ⟨fun x => ?_, fun x y z h1 h2 => ?_, fun x y z h1 h2 => ?_⟩
 ·have := hL.refl (a := x.1.2) trivial
  unfold ltOf ZC.cf; rw [this]; rfl
 ·have h1 := of_decide_eq_true h1
  have h2 := of_decide_eq_true h2
  have := (hL.tr x.1.2 y.1.2 z.1.2 trivial trivial trivial (by unfold ZC.cf at h1; omega) (by unfold ZC.cf at h2; omega)).2 (.inl h1)
  exact decide_eq_true this
 ·have h1 := of_decide_eq_false h1
  have h2 := of_decide_eq_false h2
  refine decide_eq_false ?_
  unfold ZC.cf at *
  have a1 := hL.anti x.1.2 y.1.2 trivial trivial
  have a2 := hL.anti y.1.2 z.1.2 trivial trivial
  have a3 := hL.anti x.1.2 z.1.2 trivial trivial
  have := (hL.tr z.1.2 y.1.2 x.1.2 trivial trivial trivial (by omega) (by omega)).1
  omega
theorem QgI {α : Type} [Inhabited α] {enc : α → List Value} {kk : Nat} {w : World} {blk m c : Nat} {dk : Array α} {os : Array Obj} (hc : c ≠ blk) (hl : c < w.heap.size) : (Go.Proofs.sortWorldK enc kk w blk 0 m dk os).heap[c]? = w.heap[c]? := by
 unfold Go.Proofs.sortWorldK Go.Sort.putRowK Go.Sort.grow Go.Sort.putRow Go.Sort.mapBlock Go.Sort.ahead
 simp only
 rw [Array.getElem?_append_left (by simpa using hl), Array.getElem?_modify, if_neg hc.symm]
theorem Qik {C : Ctx} {w : World} {H A : Heap} {blk size : Nat} (hs : St C w H) (hA : A.le H) (hb : A blk = none) : CmpLays Tryz.prog 34 #[] (ZC.en (A := A)) 3 ZC.cf blk 0 size w := by
 intro m os dk hd x y
 have hrd : ∀ p v, rd A p = some v → rd (heapOf (Go.Proofs.sortWorldK (ZC.en (A := A)) 3 w blk 0 m dk os)) p = some v := fun p v h =>
  QhS hs hA (fun c hc => QgI (fun e => hc (by rw [e]; exact hb)) (by
   cases hac : A c with
   | none => exact absurd hac hc
   | some e => exact hs.lt (hA _ _ hac))) p v h
 have hx : CgIs (heapOf (Go.Proofs.sortWorldK (ZC.en (A := A)) 3 w blk 0 m dk os)) x.1.1 x.1.2 := ⟨x.2.rel, x.2.row.to hrd, x.2.b, x.2.l⟩
 have hy : CgIs (heapOf (Go.Proofs.sortWorldK (ZC.en (A := A)) 3 w blk 0 m dk os)) y.1.1 y.1.2 := ⟨y.2.rel, y.2.row.to hrd, y.2.b, y.2.l⟩
 have hspec : Qbi (ctxOf (Go.Proofs.sortWorldK (ZC.en (A := A)) 3 w blk 0 m dk os)) x.1.1 y.1.1 (fun r _ => r = cmpN x.1.2 y.1.2) (heapOf (Go.Proofs.sortWorldK (ZC.en (A := A)) 3 w blk 0 m dk os)) :=
  Qi0 hx hy (Heap.le.refl _) fun _ _ => rfl
 have hcall := hspec _ (QfM _)
 refine hcall.mono ?_
 rintro e w' ⟨v, H', rfl, hst, r, rfl, hr⟩
 subst hr
 exact ⟨rfl, Qip hst⟩
theorem Qf9 {α : Type} [Inhabited α] {enc : α → List Value} {k : Nat} (hk : ∀ x, (enc x).length = k) (hk0 : 0 < k) (d : Array α) : (Go.Sort.flatK enc k d).toList = d.toList.flatMap enc := by
 have hfl : ∀ (l : List α), (l.flatMap enc).length = l.length * k := by
  intro l
  induction l with
  | nil => simp
  | cons a l ih => rw [List.flatMap_cons, List.length_append, ih, hk, List.length_cons, Nat.add_mul]; omega
 apply List.ext_getElem?
 intro t
 by_cases ht : t < d.size * k
 ·have hd : t / k < d.size := (Nat.div_lt_iff_lt_mul hk0).2 ht
  have h1 : (Go.Sort.flatK enc k d).toList[t]? = some ((enc d[t / k]!)[t % k]!) := by
   rw [Array.getElem?_toList, Array.getElem?_eq_getElem (by simpa using ht)]
   have := Go.Sort.get_flatK enc k d t ht
   rw [getElem!_pos _ _ (by simpa using ht)] at this
   rw [this]
  have hm : t % k < (enc d[t / k]!).length := by rw [hk]; exact Nat.mod_lt _ hk0
  have h2 := Qdz enc k hk d.toList (t / k) d[t / k]! (by rw [Array.getElem?_toList, Array.getElem?_eq_getElem hd, getElem!_pos d _ hd]) (t % k) _ (List.getElem?_eq_getElem hm)
  rw [h1, getElem!_pos (enc d[t / k]!) _ hm]
  rw [show t / k * k + t % k = t by rw [Nat.mul_comm]; exact Nat.div_add_mod t k] at h2
  exact h2.symm
 ·rw [List.getElem?_eq_none (by simp; omega), List.getElem?_eq_none (by rw [hfl]; simp; omega)]
theorem Qjb {A : Heap} : ∀ (zs : List (Qb × NR)), (∀ z ∈ zs, CgIs A z.1 z.2) → ∃ dl : List (ZC A), dl.map (fun z => z.1) = zs
 | [], _ => ⟨[], rfl⟩
 | z :: zs, h => by
  obtain ⟨dl, e⟩ := Qjb zs fun z hz => h z (List.mem_cons_of_mem _ hz)
  exact ⟨⟨z, h z (List.mem_cons_self ..)⟩ :: dl, congrArg (fun l => z :: l) e⟩
theorem Qjj {C : Ctx} {w : World} {H : Heap} {blk : Nat} {d : Array Value} {sp : List Value} (hs : St C w H) (hb : H blk = some (true, .row (d.toList ++ sp))) : Go.Sort.Holds id w blk 0 d := by
 intro j hj
 obtain ⟨ob, ho, hr⟩ := hs.blk _ _ _ hb
 cases ob <;> simp only [GO.rel] at hr
 rename_i c t fr
 obtain ⟨rfl, hfr⟩ := hr
 have hfr := hfr trivial
 have hl : 0 + j < (d.toList ++ sp).length := by simp; omega
 constructor
 ·unfold World.cell?
  simp only [ho]
  rw [if_neg (by simp), List.getElem?_toArray, Nat.zero_add, List.getElem?_append_left (by simpa using hj), Array.getElem?_toList, Array.getElem?_eq_getElem hj]
  simp [hj]
 ·unfold World.frozen?
  simp only [ho]
  obtain ⟨lo, hi⟩ := fr
  simp only at hfr ⊢
  rcases hfr with h | h
  ·subst h; simp; try omega
  ·simp; try omega
theorem QjC {C : Ctx} {H0 H : Heap} {s : Sl} {zs : List (Qb × NR)} {K : Heap → Prop} (ho : OwnF H0 H 3 s (zs.flatMap fun z => Qb.c z.1)) (hz : ∀ z ∈ zs, CgIs (H.off s) z.1 z.2) (hn : zs.length ≤ 1000000000)
 (k : ∀ (ws : List (Qb × NR)) H2, ws.Perm zs → ws.Pairwise (fun a b => cmpN a.2 b.2 ≤ 0) → OwnF H0 H2 3 s (ws.flatMap fun z => Qb.c z.1) → H2.off s = H.off s → K H2) : QO C s (.func (.func 34) (List.toArray []) (List.toArray [])) K H := by
 intro w hw
 have hfl : ∀ (l : List (Qb × NR)), (l.flatMap fun z => Qb.c z.1).length = l.length * 3 := by
  intro l
  induction l with
  | nil => rfl
  | cons a l ih => rw [List.flatMap_cons, List.length_append, ih, List.length_cons, Nat.add_mul]; show 3 + _ = _; omega
 obtain ⟨hle, ⟨hlen, hx, hcap, hcase⟩, hfr⟩ := ho
 rw [hfl] at hlen
 have hlen : s.len = zs.length := by omega
 by_cases h0 : zs = []
 ·have hl0 : s.len = 0 := by rw [hlen, h0]; rfl
  have hall := AnyF.slices_SortFunc_none (P := Tryz.prog) (ρ := Tryz.laysSrk_ren) Tryz.laysSrk s.ad s.cap (.func (.func 34) #[] #[]) w
  have harg : (#[.slice s.ad 0 s.cap, .func (.func 34) #[] #[]] : Array Value) = [slv s, .func (.func 34) (List.toArray []) (List.toArray [])].toArray := by
   unfold slv; rw [hl0]
  rw [← harg]
  refine hall.mono ?_
  rintro e w' ⟨rfl, rfl⟩
  exact ⟨.tuple #[], H, rfl, hw, rfl, k zs H (List.Perm.refl _) (by rw [h0]; exact .nil) ⟨hle, ⟨by rw [hfl]; omega, hx, hcap, hcase⟩, hfr⟩ rfl⟩
 ·rcases hcase with ⟨_, hc0⟩ | ⟨b, sp, hp, hb, hsz⟩
  ·have : zs.length = 0 := by omega
   exact absurd (List.length_eq_zero_iff.1 this) h0
  ·have hoff : (H.off s) b = none := Heap.off_fresh s H _ hp
   have had : s.ad = some ⟨b, 0, none⟩ := by unfold Sl.ad; rw [hp, hx]; rfl
   obtain ⟨dl, hdl⟩ := Qjb zs hz
   have hdv : dl.toArray.toList.map (fun z : ZC (H.off s) => z.1) = zs := hdl
   have hdm : (dl.toArray.toList.flatMap ZC.en) = zs.flatMap fun z => Qb.c z.1 := by
    rw [← hdv, List.flatMap_map]; rfl
   have hds : dl.toArray.size = zs.length := by rw [← hdv]; simp
   generalize dl.toArray = d at *
   have hk3 : ∀ z : ZC (H.off s), (ZC.en z).length = 3 := fun z => rfl
   have hkd := Qf9 hk3 (by omega) d
   have h1c : ∀ z : ZC (H.off s), ∀ v ∈ ZC.en z, v.oneCell' = true := fun z v hv => by
    simp only [ZC.en, Qb.c, List.mem_cons, List.not_mem_nil, or_false] at hv
    rcases hv with rfl | rfl | rfl <;> rfl
   have hall := AnyQ.slices_SortFunc Tryz.laysSrk 3 Tryz.isAgg43 Tryz.sizeOf43 ZC.en hk3 h1c ZC.cf (Qko _) 34 #[] b 0 s.cap d w (Qbu Qd4) (Qik hw (Heap.off_le s H) hoff) (Qjj (sp := sp) hw (by rw [hkd, hdm]; exact hb)) (hw.lt hb) (by omega)
   have harg : (#[.slice (some ⟨b, 0, none⟩) d.size s.cap, .func (.func 34) #[] #[]] : Array Value) = [slv s, .func (.func 34) (List.toArray []) (List.toArray [])].toArray := by
    unfold slv; rw [had, hds, hlen]
   rw [← harg]
   refine hall.mono ?_
   rintro e w' ⟨rfl, d', n, os, hperm, hsort, rfl⟩
   obtain ⟨p1, _, p3⟩ := hperm
   have hP : d'.toList.Perm d.toList := by
    have e1 : d'.extract 0 d.size = d' := by rw [← p1]; simp
    have e2 : d.extract 0 d.size = d := by simp
    rw [e1, e2] at p3; exact p3
   have hwp : (d'.toList.map fun z : ZC (H.off s) => z.1).Perm zs := by
    have := hP.map (fun z : ZC (H.off s) => z.1)
    rw [hdv] at this; exact this
   have hdm' : (d'.toList.flatMap ZC.en) = (d'.toList.map fun z : ZC (H.off s) => z.1).flatMap fun z => Qb.c z.1 := by
    rw [List.flatMap_map]; rfl
   have hst := St.sortW (enc := id) (n := n) (os := os) (d := Go.Sort.flatK ZC.en 3 d') hw hb (by rw [Go.Sort.size_flatK, p1, hfl, hds])
   rw [List.map_id, Qf9 hk3 (by omega) d', hdm'] at hst
   refine ⟨.tuple #[], _, rfl, hst, rfl, k (d'.toList.map fun z => z.1) _ hwp ?_ ⟨?_, ⟨?_, hx, hcap, .inr ⟨b, sp, hp, Heap.put_same .., ?_⟩⟩, hfr⟩ ?_⟩
   ·rw [List.pairwise_map, List.pairwise_iff_getElem]
    intro i j hi hj hij
    have hj2 : j < d'.size := by simpa using hj
    have hi2 : i < d'.size := by omega
    have h1 := of_decide_eq_false (hsort i j (Nat.zero_le _) hij (by omega))
    have e1 : d'[i]! = d'[i] := by simp [hi2]
    have e2 : d'[j]! = d'[j] := by simp [hj2]
    rw [e1, e2] at h1
    unfold ZC.cf at h1
    have := Lin.nr.anti d'[i].1.2 d'[j].1.2 trivial trivial
    simp only [Array.getElem_toList]
    omega
   ·intro c e hc
    have : c ≠ b := fun e' => by rw [e'] at hc; have := hfr _ hp; rw [this] at hc; cases hc
    rw [Heap.put_ne _ _ _ this]; exact hle _ _ hc
   ·rw [hfl, hwp.length_eq]; omega
   ·rw [List.length_append, hfl] at hsz ⊢
    rw [hwp.length_eq]; omega
   ·funext c
    unfold Heap.off
    split
    ·rfl
    ·rename_i hc
     have : c ≠ b := fun e => hc (by rw [hp, e]; rfl)
     rw [Heap.put_ne _ _ _ this]
end
section
open Go Go.Proofs
/-- rows told: rising, those of R, each in new memory -/
structure Told (H H2 : Heap) (R : List V → Prop) (T : List (List V)) (s : Sl) (ys : List Sl) : Prop where
 og : Og H H2 T s ys
 len : ys.length = T.length
 rise : Rise T
 mem : ∀ r, r ∈ T ↔ R r
/-- names told -/
structure NmTold (H H2 : Heap) (S : Sta) (W : List Str) (s : Sl) : Prop where
 own : OwnF H H2 1 s (W.map sv)
 rise : RiseT W
 mem : ∀ n, n ∈ W ↔ ∃ r, S (n, r)
section
variable {C : Ctx} {o : Own_} {A H H2 D : Heap} {x n N it m : Nat} {a : Nat → Sta} {R : List V → Prop} {nm : Str}
theorem OwnF.del {H0 H : Heap} {z : Nat} {s : Sl} {cs : List Value} {e : Bool × GO} (h : OwnF H0 H z s cs) (hi : H0 it = some e) : OwnF (H0.del it) (H.del it) z s cs := by
 obtain ⟨h1, ⟨h2, h3, h4, h5⟩, h6⟩ := h
 refine ⟨fun c e' hc => ?_, ⟨h2, h3, h4, ?_⟩, h6.le (Heap.del_le _ _)⟩
 ·by_cases hci : c = it
  ·rw [hci, Heap.del_same] at hc; cases hc
  ·rw [Heap.del_ne _ hci] at hc ⊢; exact h1 _ _ hc
 ·rcases h5 with h5 | ⟨b, sp, q1, q2, q3⟩
  ·exact .inl h5
  ·refine .inr ⟨b, sp, q1, ?_, q3⟩
   have : b ≠ it := fun e' => by have := h6 _ q1; rw [e', hi] at this; cases this
   rw [Heap.del_ne _ this]; exact q2
theorem Qft {s : Sl} : (H.del it).off s = (H.off s).del it := by
 funext c
 unfold Heap.off Heap.del
 by_cases h1 : c = it
 ·rw [if_pos h1, if_pos h1]; split <;> rfl
 ·rw [if_neg h1, if_neg h1]
theorem Qd7 {g : GO} {mu : Bool} : (H.put it g mu).del it = H.del it := by
 funext c
 by_cases h1 : c = it
 ·rw [h1, Heap.del_same, Heap.del_same]
 ·rw [Heap.del_ne _ h1, Heap.del_ne _ h1, Heap.put_ne _ _ _ h1]
theorem QhF (hit : H it = none) : H.del it = H := by
 funext c
 by_cases hc : c = it
 ·rw [hc, Heap.del_same, hit]
 ·rw [Heap.del_ne _ hc]
theorem Made.del {r : List V} {t : Sl} {e : Bool × GO} (h : Made D H2 r t) (hi : D it = some e) : Made (D.del it) (H2.del it) r t := by
 have hn : ∀ c, D c = none → c ≠ it := fun c hc e' => by rw [e', hi] at hc; cases hc
 refine ⟨fun c e' hc => ?_, h.row.le fun c e' hc => ?_, ?_, h.cp⟩
 ·by_cases hci : c = it
  ·rw [hci, Heap.del_same] at hc; cases hc
  ·rw [Heap.del_ne _ hci] at hc ⊢; exact h.le _ _ hc
 ·obtain ⟨q1, q2⟩ := Heap.new_inv hc
  exact Heap.new_some (by rw [Heap.del_ne _ (hn c q1)]; exact q2) (by rw [Heap.del_ne _ (hn c q1)]; exact q1)
 ·obtain ⟨j, hj⟩ := h.sp
  exact ⟨j, hj.to fun c e' hc he => ⟨by rw [Heap.del_ne _ (hn c hc)]; exact hc, by rw [Heap.del_ne _ (hn c hc)]; exact he⟩⟩
theorem Og.more {B : Heap} {ls : List (List V)} {s : Sl} {ys : List Sl} {r : List V} (h : Og H B ls s ys) (hl : ys.length = ls.length) : Og H B (ls ++ [r]) s ys :=
 ⟨h.own, by simp; omega, fun j l y hj hy => h.done j l y (by
  have := (List.getElem?_eq_some_iff.1 hy).1
  rw [List.getElem?_append_left (by omega)] at hj; exact hj) hy⟩
theorem Qjc : ∀ {ys : List Sl} {ls : List (List V)}, ys.length = ls.length → (ys.zip ls).map (fun z => z.1) = ys ∧ (ys.zip ls).map (fun z => z.2) = ls
 | [], [], _ => ⟨rfl, rfl⟩
 | y :: ys, l :: ls, h => by
  obtain ⟨h1, h2⟩ := Qjc (ys := ys) (ls := ls) (by simpa using h)
  simp [h1, h2]
theorem Qkp {ys : List Sl} {ls : List (List V)} {z : Sl × List V} (h : z ∈ ys.zip ls) : ∃ j : Nat, ls[j]? = some z.2 ∧ ys[j]? = some z.1 := by
 obtain ⟨j, hj⟩ := List.mem_iff_getElem?.1 h
 rw [List.getElem?_zip_eq_some] at hj
 exact ⟨j, hj.2, hj.1⟩
theorem It.same {α κ : Type} [DecidableEq κ] {ke : κ → Value} {enc : α → Value} {it m : Nat} {l vs : List (κ × α)} (h : It ke enc H it m l vs) (h1 : H2 it = H it) (h2 : H2 m = H m) : It ke enc H2 it m l vs := by
 obtain ⟨⟨es, ck, seen, q1, q2, q3⟩, h4, h5, h6⟩ := h
 exact ⟨⟨es, ck, seen, ⟨by rw [h2]; exact q1.at_, q1.ents, q1.st⟩, by rw [h1]; exact q2, q3⟩, h4, h5, h6⟩
theorem It.at_ {α κ : Type} [DecidableEq κ] {ke : κ → Value} {enc : α → Value} {it m : Nat} {l vs : List (κ × α)} (h : It ke enc H it m l vs) : (∃ ob, H it = some (true, .obj ob)) ∧ ∃ ob, H m = some (true, .obj ob) := by
 obtain ⟨⟨es, ck, seen, q1, q2, q3⟩, h4, h5, h6⟩ := h
 exact ⟨⟨_, q2⟩, _, q1.at_⟩
/-- the list of the rows of a leaf -/
theorem Qkb {K : Sl → Heap → Prop} {y : Option Nat} (hl : LfIs A H y R) (hA : A.le H) (hF : ∀ r, R r → inR r) {M0 : Nat} (hM0 : M0 ≤ 1000000) (hN : ∀ e M, y = some e → RM A H e R M → ∃ M', RM A H e R M' ∧ M' ≤ M0)
 (k : ∀ T s ys H2, Told H H2 R T s ys → T.length ≤ M0 → K s H2) :
 rgM sv slv y (fun b9 H10 =>
 lp (α := Sl) Sl.nil H10 (fun x11 J12 H13 =>
 nxB sv slv b9 (fun b14 H15 =>
 ift b14
 (enM sv slv b9 (fun k17 x18 =>
 Qar C x18 (fun r20 H21 =>
 apd ([slv Sl.nil]) 24 x11 ([slv r20]) 1 (fun r22 H23 =>
 J12 r22 H23) H21) H15) H15)
 (Qx C x11 (.func (.func 37) (List.toArray []) (List.toArray []) : Value) (fun H24 =>
 K x11 H24) H15)) H13)) H := by
  rcases hl with ⟨rfl, hn⟩ | ⟨m, M, rfl, hMM⟩
  ·refine .inl ⟨rfl, fun it hit => ?_⟩
   refine ⟨fun s D => s = Sl.nil ∧ D = H.put it (.obj (.mapIter none 0 #[] 0)), fun _ _ => 0, ⟨rfl, rfl⟩, ?_⟩
   rintro _ D ⟨rfl, rfl⟩
   refine .inl ⟨Heap.put_same .., Qi rfl ?_⟩
   refine QhZ (H0 := H) (zs := []) ⟨Heap.le_put hit, Own.nil _ 1, Fresh.nil _⟩ (fun z hz => by cases hz) (by simp) fun ws H3 hw hs hown hoff => ?_
   have : ws = [] := List.Perm.eq_nil hw
   subst this
   exact k [] Sl.nil [] H3 ⟨⟨hown, Nat.le_refl _, fun j l y hj => by simp at hj⟩, rfl, .nil, fun r => ⟨fun h => (by cases h), fun h => absurd h (hn r)⟩⟩ (Nat.zero_le _)
  ·obtain ⟨M', hRM, hM'⟩ := hN m M rfl hMM
   obtain ⟨gm, hgm⟩ := hRM.isS
   obtain ⟨l, h1, h2, h3, h4⟩ := hRM
   refine .inr ⟨m, l, rfl, h1, fun it ob hit hI => ?_⟩
   refine ⟨fun s D => ∃ vs ls ys, It sv slv D it m l vs ∧ Og H (D.del it) ls s ys ∧ ys.length = ls.length ∧ ls.map showK = vs.map (fun p => p.1) ∧ ∀ r ∈ ls, R r, fun _ D => l.length - itN D it, ⟨[], [], [], hI, ?_, rfl, rfl, fun r hr => by cases hr⟩, ?_⟩
   ·rw [Qd7, QhF hit]; exact Og.nil
   ·rintro s D ⟨vs, ls, ys, hIt, hO, hyl, hk, hR⟩
    have hlsl : ls.length = vs.length := by have := congrArg List.length hk; simpa using this
    refine .inr ⟨m, l, vs, hIt, fun hall => ?_, fun p hp hnv ob2 hI2 => ?_⟩
    ·refine Qi rfl ?_
     have hmem : ∀ r, r ∈ ls ↔ R r := fun r => ⟨hR r, fun hr => by
      obtain ⟨s', hs'⟩ := h3 r hr
      have : showK r ∈ ls.map showK := by rw [hk]; exact List.mem_map.2 ⟨_, hall _ hs', rfl⟩
      obtain ⟨r', hr', e⟩ := List.mem_map.1 this
      rw [← (hF r' (hR r' hr')).inj (hF r hr) e]; exact hr'⟩
     have hnd : ls.Nodup := by
      have h5 : (ls.map showK).Nodup := by rw [hk, List.Nodup, List.pairwise_map]; exact hIt.nd
      rw [List.Nodup, List.pairwise_map] at h5
      exact h5.imp fun {a b} hab e => hab (by rw [e])
     have hfew := hIt.few
     obtain ⟨z1, z2⟩ := Qjc hyl
     have hdone : ∀ z ∈ ys.zip ls, Made H ((D.del it).off s) z.2 z.1 := fun z hz => by
      obtain ⟨j, a, b⟩ := Qkp hz
      exact hO.done j _ _ a b
     have hoffle : ((D.del it).off s).le (D.off s) := by rw [Qft]; exact Heap.del_le _ _
     refine QhZ (H0 := H) (zs := ys.zip ls) ?_ (fun z hz => ?_) ?_ fun ws H3 hw hs hown hoff => ?_
     ·rw [show (ys.zip ls).map (fun z => slv z.1) = ((ys.zip ls).map (fun z => z.1)).map slv by rw [List.map_map]; rfl, z1]
      exact hO.own.up (Heap.del_le _ _)
     ·have hr : R z.2 := hR _ (by rw [← z2]; exact List.mem_map.2 ⟨z, hz, rfl⟩)
      have hf := hF _ hr
      refine ⟨(hdone z hz).row2.le hoffle, hf.b, by have := hf.tookR.len; omega⟩
     ·rw [List.length_zip, hyl, Nat.min_self]; omega
     ·have hTp : (ws.map fun z => z.2).Perm ls := by
       have := hw.map fun z : Sl × List V => z.2
       rw [z2] at this; exact this
      have hTn : (ws.map fun z => z.2).Nodup := hTp.symm.nodup hnd
      refine k (ws.map fun z => z.2) s (ws.map fun z => z.1) H3 ⟨⟨?_, by simp, fun j l' y hj hy => ?_⟩, by simp, ?_, fun r => hTp.mem_iff.trans (hmem r)⟩ (by rw [hTp.length_eq]; omega)
      ·rw [List.map_map]; exact hown
      ·rw [List.getElem?_map] at hj hy
       cases hwj : ws[j]? with
       | none => rw [hwj] at hj; cases hj
       | some z =>
        rw [hwj] at hj hy
        simp only [Option.map_some, Option.some.injEq] at hj hy
        subst hj; subst hy
        rw [hoff]
        exact (hdone z (hw.subset (List.mem_of_getElem? hwj))).up hoffle
      ·have hs2 : (ws.map fun z => z.2).Pairwise fun a b => cmpR a b ≤ 0 := by rw [List.pairwise_map]; exact hs
       refine List.Pairwise.imp_of_mem (fun {a b} ha hb hab => ?_) (hs2.and hTn)
       have ra := (hF _ (hR _ (hTp.subset ha))).m
       have rb := (hF _ (hR _ (hTp.subset hb))).m
       have hne : cmpR a b ≠ 0 := fun e => hab.2 ((QgW ra rb).1 e)
       have := hab.1
       omega
    ·refine QA rfl ⟨p.1, p.2, ⟨m, l, vs, hI2⟩, ?_⟩
     obtain ⟨r, hr, hpk, hv⟩ := h2 p hp
     obtain ⟨⟨ob3, a1⟩, ob4, a2⟩ := hI2.at_
     have hAit : A it = none := hA.none hit
     have hHD : H.le (D.del it) := hO.own.le
     have hDel : ((D.put it (.obj ob2)).del it) = D.del it := Qd7
     have hle : (D.del it).le (D.put it (.obj ob2)) := by rw [← hDel]; exact Heap.del_le _ _
     refine QgN hv ((hA.trans hHD).trans hle) (by have := (hF r hr).z; omega) fun t2 H3 hM => ?_
     have hM2 := hM.del a1
     rw [hDel] at hM2
     have hOwn3 : Own H3 1 s (ys.map slv) := (hO.own.own.le hle).le hM.le
     have hsit : ∀ q, s.p = some q → q.1 ≠ it := fun q hq e => by
      obtain ⟨g, hg⟩ := hO.own.own.mine hq
      rw [e, Heap.del_same] at hg; cases hg
     have hsm : ∀ q, s.p = some q → q.1 ≠ m := fun q hq e => by
      have := hO.own.fresh q hq
      rw [e, hgm] at this; cases this
     have hit3 : (H3.off s) it = some (true, .obj ob3) := Heap.off_some (hM.le _ _ a1) hsit
     have hm3 : (H3.off s) m = some (true, .obj ob4) := Heap.off_some (hM.le _ _ a2) hsm
     have hsl : s.len = ys.length := by have := hOwn3.1; simpa using this.symm
     have hfew := hIt.few
     refine Qe8 (zc := [slv Sl.nil]) hOwn3.off rfl (by omega) (by omega) fun r2 H4 q1 q2 => ?_
     have e1 := hI2.cnt
     have e2 := hI2.few
     have e3 := hIt.cnt
     have hI4 : It sv slv H4 it m l (vs ++ [p]) := hI2.same ((q1.le _ _ hit3).trans a1.symm) ((q1.le _ _ hm3).trans a2.symm)
     have e4 := hI4.cnt
     simp only [List.length_append, List.length_singleton] at e1 e2 e4
     refine ⟨⟨vs ++ [p], ls ++ [r], ys ++ [t2], hI4, ?_, by simp [hyl], by rw [List.map_append, List.map_append, hk]; simp [hpk], fun r' hr' => ?_⟩, by dsimp only; omega⟩
     ·have hq : OwnF ((H3.del it).off s) (H4.del it) 1 r2 (ys.map slv ++ [slv t2]) := by rw [Qft]; exact q1.del hit3
      have hi : ys.length < (ls ++ [r]).length := by simp; omega
      refine Og.step (hO.more hyl) hi ?_ hq
      have : (ls ++ [r])[ys.length] = r := by
       rw [List.getElem_append_right (by omega)]; simp
      rw [this]; exact hM2
     ·rcases List.mem_append.1 hr' with hr' | hr'
      ·exact hR r' hr'
      ·rw [List.mem_singleton] at hr'; rw [hr']; exact hr
theorem RelsL.lookN {S : Sta} {L : List (Str × Option Nat)} {X : Str → Prop} {K : Option Nat → Bool → Prop} (h : RelsL o A H m S N L X) (k : ∀ x is, LfIs A H x (fun r => S (nm, r)) → (∀ e M, x = some e → RM A H e (fun r => S (nm, r)) M → ∃ M', RM A H e (fun r => S (nm, r)) M' ∧ M' ≤ N) → K x is) : lkM sv mv none (some m) nm K H := by
 refine h.ms.is.lk (fun x hx => ?_) fun hx => ?_
 ·obtain ⟨e, q1, _, q3, _⟩ := h.lf _ (QaG hx)
  dsimp only at q1 q3
  exact k _ _ (.inr ⟨e, N, q1, q3⟩) fun e' M he _ => by rw [q1] at he; injection he with he; subst he; exact ⟨N, q3, Nat.le_refl _⟩
 ·refine k _ _ (.inl ⟨rfl, fun r hr => ?_⟩) fun e M he => by cases he
  obtain ⟨e, he⟩ := h.al nm r hr
  rw [QaR h.ms.is.nd he] at hx; cases hx
theorem Qif {K : Sl → Heap → Prop} (h : LG o A H x a n N) (hN : N ≤ 1000000) (k : ∀ T s ys H2, Told H H2 (fun r => a n (nm, r)) T s ys → T.length ≤ N → K s H2) : Qbh C (some (x, 0)) nm K H := by
 apply Qe5
 unfold Qdb
 have hf := h.f n (Nat.le_refl _)
 obtain ⟨⟨m, s, T, p1, _⟩, _⟩ := h
 obtain ⟨L, hR⟩ := p1.rl
 refine Qi rfl ⟨_, rfl, p1.ld0 (hR.lookN fun y is hl hM => ?_)⟩
 exact Qkb hl p1.oh.le (fun r hr => hf _ hr) hN hM k
theorem Qhz {K : Sl → Heap → Prop} (h : LG o A H x a n N) (hN : N ≤ 1000000) (k : ∀ W s H2, NmTold H H2 (a n) W s → W.length ≤ N → K s H2) : Qa0 C (some (x, 0)) K H := by
 apply QeC
 unfold QcG
 obtain ⟨⟨m, s0, T, p1, _⟩, _⟩ := h
 obtain ⟨L, hR⟩ := p1.rl
 obtain ⟨gm, hgm⟩ := hR.mine
 have hLN := hR.ln
 refine Qi rfl ⟨_, rfl, p1.ld0 ?_⟩
 refine .inr ⟨m, L, rfl, hR.ms, fun it ob hit hI => ?_⟩
 refine ⟨fun s D => ∃ vs, It sv mv D it m L vs ∧ OwnF H (D.del it) 1 s (vs.map fun p => sv p.1), fun _ D => L.length - itN D it, ⟨[], hI, ?_⟩, ?_⟩
 ·rw [Qd7, QhF hit]; exact OwnF.nil H 1
 ·rintro s D ⟨vs, hIt, hO⟩
  have hfew := hIt.few
  refine .inr ⟨m, L, vs, hIt, fun hall => ?_, fun p hp hnv ob2 hI2 => ?_⟩
  ·refine Qi rfl ?_
   refine QjD (H0 := H) (zs := vs.map fun p => p.1) (by rw [List.map_map]; exact hO.up (Heap.del_le _ _)) (by rw [List.length_map]; omega) fun ws H3 hw hs hown => ?_
   have hnd : (vs.map fun p => p.1).Nodup := by rw [List.Nodup, List.pairwise_map]; exact hIt.nd
   refine k ws s H3 ⟨hown, ?_, fun nm => ?_⟩ (by rw [hw.length_eq, List.length_map]; omega)
   ·refine List.Pairwise.imp (fun {a b} hab => ?_) (hs.and (hw.symm.nodup hnd))
    have : vcmpS a b ≠ 0 := fun e => hab.2 ((vslt a b).2.1.1 e)
    have := hab.1
    omega
   ·rw [hw.mem_iff, List.mem_map]
    constructor
    ·rintro ⟨p, hp, rfl⟩
     obtain ⟨e, _, _, _, q4⟩ := hR.lf p (hIt.sub p hp)
     exact q4 id
    ·rintro ⟨r, hr⟩
     obtain ⟨e, he⟩ := hR.al nm r hr
     exact ⟨_, hall _ he, rfl⟩
  ·refine QA rfl ⟨p.1, p.2, ⟨m, L, vs, hI2⟩, ?_⟩
   obtain ⟨⟨ob3, a1⟩, ob4, a2⟩ := hI2.at_
   have hDel : ((D.put it (.obj ob2)).del it) = D.del it := Qd7
   have hle : (D.del it).le (D.put it (.obj ob2)) := by rw [← hDel]; exact Heap.del_le _ _
   have hOwn3 : Own (D.put it (.obj ob2)) 1 s (vs.map fun p => sv p.1) := hO.own.le hle
   have hsit : ∀ q, s.p = some q → q.1 ≠ it := fun q hq e => by
    obtain ⟨g, hg⟩ := hO.own.mine hq
    rw [e, Heap.del_same] at hg; cases hg
   have hsm : ∀ q, s.p = some q → q.1 ≠ m := fun q hq e => by
    have := hO.fresh q hq
    rw [e, hgm] at this; cases this
   have hit3 : ((D.put it (.obj ob2)).off s) it = some (true, .obj ob3) := Heap.off_some a1 hsit
   have hm3 : ((D.put it (.obj ob2)).off s) m = some (true, .obj ob4) := Heap.off_some a2 hsm
   have hsl : s.len = vs.length := by have := hOwn3.1; simpa using this.symm
   refine Qe8 (zc := [sv []]) hOwn3.off rfl (by omega) (by omega) fun r2 H4 q1 q2 => ?_
   have e1 := hI2.cnt
   have e2 := hI2.few
   have e3 := hIt.cnt
   have hI4 : It sv mv H4 it m L (vs ++ [p]) := hI2.same ((q1.le _ _ hit3).trans a1.symm) ((q1.le _ _ hm3).trans a2.symm)
   have e4 := hI4.cnt
   simp only [List.length_append, List.length_singleton] at e1 e2 e4
   refine ⟨⟨vs ++ [p], hI4, ?_⟩, by dsimp only; omega⟩
   have hq : OwnF (((D.put it (.obj ob2)).del it).off s) (H4.del it) 1 r2 ((vs.map fun p => sv p.1) ++ [sv p.1]) := by rw [Qft]; exact q1.del hit3
   rw [hDel] at hq
   rw [List.map_append]
   refine ⟨(fun c e hc => hq.le _ _ (Heap.off_some (hO.le _ _ hc) fun q hq' e' => ?_)), hq.own, fun q hq' => ?_⟩
   ·have := hO.fresh q hq'
    rw [e', hc] at this; cases this
   ·have h1 := hq.fresh q hq'
    cases hH : H q.1 with
    | none => rfl
    | some e =>
     rw [Heap.off_some (hO.le _ _ hH) fun q2 hq2 e' => by
      have := hO.fresh q2 hq2
      rw [e', hH] at this; cases this] at h1
     cases h1
end
end
section
open Go Go.Proofs
section
variable {C : Ctx} {o o2 : Own_} {A B H H2 D : Heap} {x m n N yl : Nat} {s : Sl} {S : Sta} {T : List Th} {t : Th} {a : Nat → Sta}
theorem Chg.tmp {P : Uw → Prop} {it : Nat} {g : GO} {mu : Bool} (h : Chg P o H o2 D) (hn : H it = none) (ho : ∀ w, o2 it = some w → False) : Chg P o H o2 (D.put it g mu) := by
 refine ⟨fun c e hc hw => ?_, h.up, fun c w hw => ?_, fun c hc => ?_⟩
 ·have : c ≠ it := fun e' => by rw [e', hn] at hc; cases hc
  rw [Heap.put_ne _ _ _ this]; exact h.kp c e hc hw
 ·have : c ≠ it := fun e' => ho w (by rw [← e']; exact hw)
  rw [Heap.put_ne _ _ _ this]; exact h.dn c w hw
 ·have : c ≠ it := fun e' => hc (by rw [e']; exact hn)
  rw [Heap.put_ne _ _ _ this]; exact h.li c hc
theorem Dn.at_ (h : Dn o A H x s T) {i : Nat} (hi : T[i]? = some t) : ∃ v b, ThIs A x t v ∧ s.p = some (b, 0) ∧ rds H (b, i * 4) (Qd.c v) := by
 obtain ⟨⟨xs, ⟨q1, q2, q3, q4⟩, h2, h3⟩, ho⟩ := h
 have hlt : i < T.length := (List.getElem?_eq_some_iff.1 hi).1
 have hx : xs[i]? = some xs[i] := List.getElem?_eq_getElem (by omega)
 rw [Qc1] at q1
 rcases q4 with ⟨w1, w2⟩ | ⟨b, sp, w1, w2, w3⟩
 ·omega
 ·refine ⟨_, b, h3 i t _ hi hx, w1, QdQ fun j v hj => ?_⟩
  rw [Qn w2]
  have := Qdz Qd.c 4 Qi3 xs i _ hx j v hj
  rw [List.getElem?_append_left (List.getElem?_eq_some_iff.1 this).1]; exact this
/-- while things are undone: those behind j are -/
structure BkI (o : Own_) (A H B : Heap) (x m : Nat) (s : Sl) (a : Nat → Sta) (T : List Th) (n N yl : Nat) (o2 : Own_) (H2 : Heap) (j : Nat) : Prop where
 lc : Lc o2 A H2 x m s (a j) (N + 2 * (n - j))
 dn : Dn o2 A H2 x s T
 bs : Bs o2 B H2
 cg : Chg mapP o H o2 H2
 ny : o2 yl = none
theorem BkI.puty {j : Nat} {g : GO} (h : BkI o A H B x m s a T n N yl o2 H2 j) (hy : H yl = none) (hB : B yl = none) (hA : A yl = none) : BkI o A H B x m s a T n N yl o2 (H2.put yl g) j := by
 have hne : ∀ c w, o2 c = some w → c ≠ yl := fun c w hw e => by rw [e, h.ny] at hw; cases hw
 refine ⟨h.lc.keep (fun c e hc => ?_) fun c w hw => Heap.put_ne _ _ _ (hne c w hw), h.dn.keep fun c hw => ⟨hw, Heap.put_ne _ _ _ (hne c _ hw)⟩, ⟨fun c e hc => ?_, h.bs.ap⟩, h.cg.tmp hy (fun w hw => by rw [h.ny] at hw; cases hw), h.ny⟩
 ·have : c ≠ yl := fun e' => by rw [e', hA] at hc; cases hc
  rw [Heap.put_ne _ _ _ this]; exact h.lc.oh.le c e hc
 ·have : c ≠ yl := fun e' => by rw [e', hB] at hc; cases hc
  rw [Heap.put_ne _ _ _ this]; exact h.bs.le c e hc
theorem BkI.up {j : Nat} {H3 : Heap} (h : BkI o A H B x m s a T n N yl o2 H2 j) (hle : H2.le H3) : BkI o A H B x m s a T n N yl o2 H3 j :=
 ⟨h.lc.up hle, h.dn.keep fun c hw => ⟨hw, h.lc.oh.eq_le hle hw⟩, h.bs.up hle, h.cg.trans (Chg.of_le hle), h.ny⟩
/-- what yield is called with, and what follows -/
def BkY (o : Own_) (A H B : Heap) (x m : Nat) (s : Sl) (a : Nat → Sta) (T : List Th) (n N yl : Nat) (r : Loop) (us : List Value) (K : Bool → Heap → Prop) (H2 : Heap) : Prop :=
 ∃ (i : Int) (j : Nat) (t : Th) (v : Qd) (o2 : Own_), us = [.int .i64 i, .agg (Qd.c v).toArray] ∧ T[j]? = some t ∧ ThIs A x t v ∧ BkI o A H B x m s a T n N yl o2 H2 (j + 1) ∧ H2 yl = some (true, Rf.lrec r .ready none) ∧
  ∀ o3 H3, BkI o A H B x m s a T n N yl o3 H3 j → H3 yl = some (true, Rf.lrec r .ready none) → K true H3
theorem Qic {jj : Int} {K : Int → Heap → Prop} (h : LG o A H x a n N) (hnn : n ≤ 1000000) (k1 : ¬ (0 ≤ jj ∧ jj ≤ n) → K 1 H) (k0 : 0 ≤ jj → jj ≤ n → ∀ o2 H2, Mv o A H o2 A H2 → LG o2 A H2 x a jj.toNat (N + 2 * (n - jj.toNat)) → K 0 H2) : Qbg C (some (x, 0)) jj K H := by
 apply Qe3
 unfold Qc9
 refine Qh0 h ?_
 by_cases hj : 0 ≤ jj ∧ jj ≤ n
 rotate_left
 ·rw [if_neg hj]
  exact QA rfl (k1 hj)
 rw [if_pos hj]
 refine Qi rfl ?_
 obtain ⟨h0, h1⟩ := hj
 obtain ⟨mk, rfl⟩ := Int.eq_ofNat_of_zero_le h0
 have hmk : mk ≤ n := by omega
 have hmkn : (mk : Int).toNat ≤ n := by omega
 have hmts := h.f
 have hnms := h.nm
 have hO := h.oh
 obtain ⟨⟨m, s, T, p1, p2, p3, p4⟩, _, _⟩ := h
 obtain ⟨⟨xs, q1, q2, q3⟩, q4⟩ := p2
 have p2 : Dn o A H x s T := ⟨⟨xs, q1, q2, q3⟩, q4⟩
 have hsl : s.len = n := by have h1 := q1.1; rw [Qc1] at h1; omega
 have hcap := q1.2.2.1
 refine ⟨_, rfl, p1.ld1 ⟨by omega, by omega, by omega, by omega, _, rfl, ?_⟩⟩
 generalize ht8 : (⟨if (s.cap : Int) = (mk : Int) then s.p else s.p.map (fun p => (p.1, p.2 + (mk : Int).toNat * 4)), ((s.len : Int) - (mk : Int)).toNat, ((s.cap : Int) - (mk : Int)).toNat, if (s.cap : Int) = (mk : Int) ∨ (mk : Int).toNat * 4 = 0 then s.x else none⟩ : Sl) = t8
 have h8l : t8.len = n - mk := by rw [← ht8]; show ((s.len : Int) - (mk : Int)).toNat = _; omega
 apply QaA
 unfold QM
 intro b1 nb1
 have l1 := Heap.le_put nb1 (g := .row [slv t8]) (m := true)
 have c1 : (H.put b1 (.row [slv t8])) b1 = some (true, .row [slv t8]) := Heap.put_same ..
 generalize H.put b1 (.row [slv t8]) = H1 at *
 refine ⟨70, [pv (some (b1, 0))], rfl, Qam, fun D yl r hD hyl hne => ?_⟩
 have hHD : H D = none := l1.none hD
 have hHy : H yl = none := l1.none hyl
 have hAy : A yl = none := hO.le.none hHy
 have hAD : A D = none := hO.le.none hHD
 have ob1 : o b1 = none := by
  cases e : o b1 with
  | none => rfl
  | some w => exact absurd nb1 (hO.oh _ _ e)
 have oD : o D = none := by
  cases e : o D with
  | none => rfl
  | some w => exact absurd hHD (hO.oh _ _ e)
 have oy : o yl = none := by
  cases e : o yl with
  | none => rfl
  | some w => exact absurd hHy (hO.oh _ _ e)
 have hle2 : H1.le (H1.put D (.obj (.deferred (some [])))) := Heap.le_put hD
 have hyD : (H1.put D (.obj (.deferred (some [])))) yl = none := by rw [Heap.put_ne _ _ _ hne.symm]; exact hyl
 have bs0 : Bs o (Heap.wo_ o (H1.put D (.obj (.deferred (some []))))) (H1.put D (.obj (.deferred (some [])))) := Bs.wo
 have hBy : (Heap.wo_ o (H1.put D (.obj (.deferred (some []))))) yl = none := by rw [Heap.wo_none oy]; exact hyD
 have hBb : (Heap.wo_ o (H1.put D (.obj (.deferred (some []))))) b1 = some (true, .row [slv t8]) := by rw [Heap.wo_none ob1]; exact hle2 _ _ c1
 have hBD : (Heap.wo_ o (H1.put D (.obj (.deferred (some []))))) D = some (true, .obj (.deferred (some []))) := by rw [Heap.wo_none oD]; exact Heap.put_same ..
 have I0 : BkI o A H (Heap.wo_ o (H1.put D (.obj (.deferred (some []))))) x m s a T n N yl o (H1.put D (.obj (.deferred (some [])))) n := by
  have hh := l1.trans hle2
  exact ⟨by rw [show n - n = 0 by omega]; exact p1.up hh, p2.keep fun c hw => ⟨hw, hO.eq_le hh hw⟩, bs0, Chg.of_le hh, oy⟩
 generalize H1.put D (.obj (.deferred (some []))) = HD at *
 generalize Heap.wo_ o HD = B0 at *
 refine ⟨BkY o A H B0 x m s a T n N yl r, fun us K2 H2 hY => ?_, fun hy => ?_⟩
 ·-- a round
  obtain ⟨i, j, t, v, o2, rfl, htj, hth, hI, hyr, hK⟩ := hY
  refine ⟨hyr, rfl, i, v, rfl, ?_⟩
  intro b42 n42
  refine ⟨hth.cell, nwT rfl ?_⟩
  have l42 := Heap.le_put n42 (g := .row (Qd.c v)) (m := true)
  have c42 : (H2.put b42 (.row (Qd.c v))) b42 = some (true, .row (Qd.c v)) := Heap.put_same ..
  have ny : b42 ≠ yl := fun e => by rw [← e, n42] at hyr; cases hyr
  have hI2 := hI.up l42
  have hyr2 := l42 _ _ hyr
  generalize H2.put b42 (.row (Qd.c v)) = H3 at *
  refine ⟨hyr2, ?_⟩
  have hI3 := hI2.puty (g := Rf.lrec r .busy none) hHy hBy hAy
  have hy3 : (H3.put yl (Rf.lrec r .busy none)) yl = some (true, Rf.lrec r .busy none) := Heap.put_same ..
  have c43 : (H3.put yl (Rf.lrec r .busy none)) b42 = some (true, .row (Qd.c v)) := by rw [Heap.put_ne _ _ _ ny]; exact c42
  generalize H3.put yl (Rf.lrec r .busy none) = H4 at *
  refine ⟨v.undo_, by rw [Qn c43]; rfl, ?_⟩
  have hlt : j < T.length := (List.getElem?_eq_some_iff.1 htj).1
  refine Qi5 hI3.lc (hmts (j + 1) (by omega)) hth.und (p4 j t htj) fun o3 H5 hc5 L5 => ?_
  have hnew : o3 yl = none := by
   cases e : o3 yl with
   | none => rfl
   | some w =>
    rcases hc5.dn _ _ e with e1 | ⟨e1, _⟩
    ·rw [hI3.ny] at e1; cases e1
    ·rw [hy3] at e1; cases e1
  have hy5 : H5 yl = some (true, Rf.lrec r .busy none) := hc5.kp _ _ hy3 fun w hw => by rw [hI3.ny] at hw; cases hw
  have I5 : BkI o A H B0 x m s a T n N yl o3 H5 j := ⟨L5.more (by omega), hI3.dn.chg hI3.lc.oh hc5, hI3.bs.mv (A := A) (A2 := A) ⟨hc5.imp fun _ _ => trivial, Heap.le.refl _, fun c hc => .inl hc⟩, hI3.cg.trans hc5, hnew⟩
  exact ⟨rfl, hy5, hK o3 _ (I5.puty hHy hBy hAy) (Heap.put_same ..)⟩
 ·refine Spec.mono (Qaj C hy (b1, 0) (fun H4 => ∃ st pend, H4 yl = some (true, Rf.lrec r st pend) ∧ st ≠ .busy ∧ (pend = none ∧ _ ∨ pend = some .ret ∧ _)) (HD.put yl (Rf.lrec r .ready none)) ?_) fun u H4 hh => hh.2
  have I1 := I0.puty (g := Rf.lrec r .ready none) hHy hBy hAy
  have hy1 : (HD.put yl (Rf.lrec r .ready none)) yl = some (true, Rf.lrec r .ready none) := Heap.put_same ..
  unfold QG
  generalize HD.put yl (Rf.lrec r .ready none) = H2 at *
  refine ⟨t8, by rw [Qn (I1.bs.le _ _ hBb)]; rfl, ?_⟩
  dsimp only
  rw [h8l]
  rw [Qaq (by omega) (by omega)]
  refine ⟨fun y H' => ∃ (i : Nat) (o2 : Own_), y = (i : Int) - 1 ∧ i ≤ n - mk ∧ BkI o A H B0 x m s a T n N yl o2 H' (mk + i) ∧ H' yl = some (true, Rf.lrec r .ready none), fun y _ => (y + 1).toNat, ⟨n - mk, o, rfl, Nat.le_refl _, by rw [show mk + (n - mk) = n by omega]; exact I1, hy1⟩, ?_⟩
  rintro _ H3 ⟨i, o2, rfl, hi, I3, hy3⟩
  refine ift.of (fun hge => ?_) (fun hge => ?_)
  ·have hge := of_decide_eq_true hge
   have hi1 : 1 ≤ i := by omega
   have hti : T[mk + (i - 1)]? = some (T[mk + (i - 1)]'(by omega)) := List.getElem?_eq_getElem _
   obtain ⟨v, b, hth, hsp, hrd⟩ := I3.dn.at_ hti
   have hs8 : t8.p = some (b, mk * 4) ∧ t8.x = none := by
    rw [← ht8]
    have hne : ¬ (s.cap : Int) = (mk : Int) := by omega
    refine ⟨?_, ?_⟩
    ·show (if (s.cap : Int) = (mk : Int) then s.p else s.p.map (fun p => (p.1, p.2 + (mk : Int).toNat * 4))) = _
     rw [if_neg hne, hsp]; simp
    ·show (if (s.cap : Int) = (mk : Int) ∨ (mk : Int).toNat * 4 = 0 then s.x else none) = none
     rw [q1.2.1]; split <;> rfl
   refine ⟨t8, by rw [Qn (I3.bs.le _ _ hBb)]; rfl, (b, mk * 4), hs8.1, hs8.2, by omega, by rw [h8l]; omega, v, ?_, ?_⟩
   ·show rds H3 (b, mk * 4 + ((i : Int) - 1).toNat * 4) _
    rw [show mk * 4 + ((i : Int) - 1).toNat * 4 = (mk + (i - 1)) * 4 by omega]
    exact hrd
   ·refine ⟨(i : Int) - 1, mk + (i - 1), _, v, o2, rfl, hti, hth, by rw [show mk + (i - 1) + 1 = mk + i by omega]; exact I3, hy3, fun o3 H4 I4 hy4 => Qi rfl ?_⟩
    rw [Qaq (by omega) (by omega)]
    exact ⟨⟨i - 1, o3, by omega, by omega, I4, hy4⟩, by dsimp only; omega⟩
  ·have hge := of_decide_eq_false hge
   have hi0 : i = 0 := by omega
   subst hi0
   refine ⟨.ready, none, hy3, by decide, .inl ⟨rfl, ?_⟩⟩
   have I4 := I3.puty (g := Rf.lrec r .exhausted none) hHy hBy hAy
   generalize H3.put yl (Rf.lrec r .exhausted none) = H4 at *
   refine ⟨_, rfl, I4.lc.ld1 ⟨by omega, by omega, by omega, by omega, _, rfl, _, rfl, _, I4.lc.hx, by simp, ?_⟩⟩
   generalize ht61 : (⟨if (mk : Int) = 0 then s.p else s.p.map (fun p => (p.1, p.2 + (0 : Int).toNat * 4)), ((mk : Int) - 0).toNat, ((mk : Int) - 0).toNat, if (mk : Int) = 0 ∨ (0 : Int).toNat * 4 = 0 then s.x else none⟩ : Sl) = t61
   have e61 : t61 = ⟨s.p, mk, mk, s.x⟩ := by
    rw [← ht61]
    have : s.p.map (fun p : Nat × Nat => (p.1, p.2 + (0 : Int).toNat * 4)) = s.p := by cases s.p <;> simp
    rw [this]
    simp
   subst e61
   have hxD : D ≠ x := fun e => by rw [e, p1.hx] at hHD; cases hHD
   show Rf.mk1 (H4.put x (.row [mv (some m), slv ⟨s.p, mk, mk, s.x⟩])) D _
   refine ⟨(H4.put x (.row [mv (some m), slv ⟨s.p, mk, mk, s.x⟩])).del D, Heap.del_le _ _, Heap.del_same .., by rw [Heap.put_ne _ _ _ hxD]; exact I4.bs.le _ _ hBD, ?_⟩
   have oD2 : o2 D = none := by
    cases e : o2 D with
    | none => rfl
    | some w => rw [I4.bs.ap _ _ e] at hBD; cases hBD
   have hcx : Chg (fun _ => True) o2 H4 o2 (H4.put x (.row [mv (some m), slv ⟨s.p, mk, mk, s.x⟩])) := Chg.put I4.lc.ox trivial
   have hcg := (I4.cg.imp (Q := fun _ => True) fun _ _ => trivial).trans hcx
   have hoc := I4.lc.oh.chg hcx
   have hxs : ∀ c w, o2 c = some w → c ≠ D := fun c w hw e => by rw [e, oD2] at hw; cases hw
   have hdel : ∀ c w, o2 c = some w → w ≠ .log → ((H4.put x (.row [mv (some m), slv ⟨s.p, mk, mk, s.x⟩])).del D) c = H4 c := fun c w hw hwl => by
    rw [Heap.del_ne _ (hxs c w hw)]
    exact Heap.put_ne _ _ _ fun e => by rw [e, I4.lc.ox] at hw; injection hw with hw; exact hwl hw.symm
   refine k0 h0 h1 o2 _ ⟨⟨fun c e hc hn => ?_, hcg.up, fun c w hw => ?_, fun c hc => ?_⟩, Heap.le.refl _, fun c hc => .inl hc⟩ ⟨⟨m, ⟨s.p, mk, mk, s.x⟩, T.take mk, ⟨⟨fun c e hc => ?_, hoc.ap, fun c w hw => ?_⟩, ?_, I4.lc.ox, ?_⟩, ⟨?_, fun q hq => I4.dn.ow q hq⟩, by simp [p3]; omega, fun i t hi => ?_⟩, fun i hi => hmts i (Nat.le_trans hi hmkn), fun i hi => hnms i (Nat.le_trans hi hmkn)⟩
   ·rw [Heap.del_ne _ (fun e' => by rw [e', hHD] at hc; cases hc)]; exact hcg.kp c e hc hn
   ·rcases hcg.dn c w hw with e | ⟨e1, e2, e3⟩
    ·exact .inl e
    ·exact .inr ⟨e1, e2, by rw [Heap.del_ne _ (hxs c w hw)]; exact e3⟩
   ·rw [Heap.del_ne _ (fun e' => hc (by rw [e']; exact hHD))]; exact hcg.li c hc
   ·rw [Heap.del_ne _ (fun e' => by rw [e', hAD] at hc; cases hc)]; exact hoc.le c e hc
   ·rw [Heap.del_ne _ (hxs c w hw)]; exact hoc.oh c w hw
   ·rw [Heap.del_ne _ hxD.symm]; exact Heap.put_same ..
   ·obtain ⟨L, hR⟩ := I4.lc.rl
    refine ⟨L, ?_⟩
    have := hR.keep (o2 := o2) (H2 := ((H4.put x (.row [mv (some m), slv ⟨s.p, mk, mk, s.x⟩])).del D)) fun c w hw hp => ⟨hw, hdel c w hw fun e => by subst e; exact hp⟩
    exact this
   ·obtain ⟨⟨ys, w1, w2, w3⟩, w4⟩ := I4.dn
    obtain ⟨v1, v2, v3, v4⟩ := w1
    refine ⟨ys.take mk, ⟨by rw [Qc1, List.length_take]; show min mk ys.length * 4 = mk * 4; rw [Nat.min_eq_left (by omega)], v2, Nat.le_refl _, ?_⟩, by rw [List.length_take, List.length_take]; omega, fun i t v hi hv => ?_⟩
    ·rcases v4 with ⟨e1, e2⟩ | ⟨b, sp, e1, e2, e3⟩
     ·exact .inl ⟨e1, by show mk = 0; omega⟩
     ·refine .inr ⟨b, (ys.drop mk).flatMap Qd.c ++ sp, e1, ?_, ?_⟩
      ·rw [hdel b .done (w4 _ e1) (fun e => by cases e), e2, ← List.append_assoc, ← List.flatMap_append, List.take_append_drop]
      ·rw [← List.append_assoc, ← List.flatMap_append, List.take_append_drop]
       have : mk * 4 ≤ s.cap * 4 := Nat.mul_le_mul_right _ (by omega)
       exact Nat.le_trans this e3
    ·rw [List.getElem?_take] at hi hv
     split at hi
     ·rename_i hlt
      rw [if_pos hlt] at hv
      exact w3 i t v hi hv
     ·cases hi
   ·rw [List.getElem?_take] at hi
    split at hi
    ·exact p4 i t hi
    ·cases hi
end
end
section
open Go Go.Proofs
/-- changes that grow, each row a copy -/
structure OgC (H B : Heap) (cs : List (Qb × NR)) (s : Sl) : Prop where
 own : OwnF H B 3 s (cs.flatMap fun z => Qb.c z.1)
 done : ∀ z ∈ cs, Made H (B.off s) z.2.2 z.1.Row.L ∧ z.1.Row.Rel = z.2.1
theorem OgC.nil {H B : Heap} (h : H.le B) : OgC H B [] Sl.nil := ⟨⟨h, Own.nil _ 3, Fresh.nil _⟩, fun z hz => by cases hz⟩
theorem OgC.step {H B B2 B4 : Heap} {cs : List (Qb × NR)} {s r t : Sl} {l : List V} {n : Str} {k : Int} (h : OgC H B cs s) (hm : Made B B2 l t) (h4 : OwnF (B2.off s) B4 3 r ((cs.flatMap fun z => Qb.c z.1) ++ Qb.c (⟨⟨n, t⟩, k⟩ : Qb))) : OgC H B4 (cs ++ [((⟨⟨n, t⟩, k⟩ : Qb), (n, l))]) r := by
 have hoff : H.le (B2.off s) := Heap.le_off (h.own.le.trans hm.le) h.own.fresh
 have h34 : (B2.off s).le (B4.off r) := Heap.le_off h4.le h4.fresh
 have h12 : (B.off s).le (B2.off s) := Heap.le_off ((Heap.off_le s B).trans hm.le) (Heap.off_fresh s B)
 refine ⟨?_, fun z hz => ?_⟩
 ·rw [List.flatMap_append]
  have := h4.down hoff
  simpa using this
 ·rcases List.mem_append.1 hz with hz | hz
  ·obtain ⟨q1, q2⟩ := h.done z hz
   exact ⟨q1.up (h12.trans h34), q2⟩
  ·rw [List.mem_singleton] at hz
   subst hz
   exact ⟨(hm.off h.own.le h.own.fresh fun p hp => h.own.own.mine hp).up h34, rfl⟩
theorem Qe9 (l : List (Qb × NR)) : (l.flatMap fun z => Qb.c z.1).length = l.length * 3 := by
 induction l with
 | nil => rfl
 | cons a l ih => rw [List.flatMap_cons, List.length_append, ih, List.length_cons, Nat.add_mul]; show 3 + _ = _; omega
/-- what is new since a mark, told in new memory -/
structure SinceIs (H H2 : Heap) (S0 S : Sta) (s : Sl) (ws : List (Qb × NR)) : Prop where
 og : OgC H H2 ws s
 isd : IsD S0 S (ws.map fun z => (z.2, z.1.N))
/-- what was turned an odd number of times -/
structure TnI (A D : Heap) (b4 : Nat) (S0 S : Sta) (l : List ((Str × Str) × Sl)) (k : Nat) : Prop where
 ms : MapS kp slv D b4 l
 of : ∀ p ∈ l, ∃ y : NR, p.1 = (y.1, showK y.2) ∧ VRow A p.2 y.2 ∧ ¬ (S y ↔ S0 y) ∧ inR y.2
 al : ∀ y, ¬ (S y ↔ S0 y) → ∃ s, ((y.1, showK y.2), s) ∈ l
 ln : l.length ≤ k
section
variable {C : Ctx} {o : Own_} {A B H H2 D : Heap} {x m n N b4 k : Nat} {s : Sl} {S0 S S2 : Sta} {T : List Th} {t : Th} {a : Nat → Sta} {l : List ((Str × Str) × Sl)}
theorem Qgz {x y : NR} (hx : inR x.2) (hy : inR y.2) (e : (x.1, showK x.2) = (y.1, showK y.2)) : x = y := by
 have h := Prod.ext_iff.1 e
 exact Prod.ext h.1 (hx.inj hy h.2)
/-- one thing more -/
theorem TnI.step {K : Heap → Prop} {v : Sl} (h : TnI A D b4 S0 S l k) (hF : FineS S) (hF0 : FineS S0) (hx : inR t.2.2) (hv : VRow A v t.2.2) (hst : stepS t S S2)
 (kk : ∀ g l2, TnI A (D.put b4 g) b4 S0 S2 l2 (k + 1) → K (D.put b4 g))
 {Kx : Sl → Bool → Prop} (f1 : ∀ z, delS kp slv (some b4) (t.2.1, showK t.2.2) K D → Kx z true) (f0 : upS kp slv (some b4) (t.2.1, showK t.2.2) v K D → Kx Sl.nil false) :
 lkM kp slv Sl.nil (some b4) (t.2.1, showK t.2.2) Kx D := by
 obtain ⟨ht1, ht2⟩ := hst.turn
 have hin : ∀ y, ¬ (S y ↔ S0 y) → inR y.2 := fun y hy => by
  by_cases h1 : S y
  ·exact hF y h1
  ·by_cases h2 : S0 y
   ·exact hF0 y h2
   ·exact absurd ⟨fun h => absurd h h1, fun h => absurd h h2⟩ hy
 refine h.ms.is.lk (fun z hz => f1 _ ?_) fun hz => f0 ?_
 ·obtain ⟨y, q1, q2, q3, q4⟩ := h.of _ (QaG hz)
  dsimp only at q1
  have hxy : t.2 = y := Qgz hx q4 q1
  subst hxy
  refine .inr ⟨b4, l, rfl, h.ms, fun g l2 w1 w2 => kk g l2 ⟨w1, fun p hp => ?_, fun y hy => ?_, ?_⟩⟩
  ·obtain ⟨e1, e2⟩ := (w2 p).1 hp
   obtain ⟨y, r1, r2, r3, r4⟩ := h.of p e1
   have hne : y ≠ t.2 := fun e => e2 (by rw [r1, e])
   exact ⟨y, r1, r2, by rw [ht2 y hne]; exact r3, r4⟩
  ·have hne : y ≠ t.2 := fun e => hy (by
    rw [e, ht1]
    constructor
    ·intro h1; exact Classical.byContradiction fun h2 => q3 ⟨fun h => absurd h h1, fun h => absurd h h2⟩
    ·intro h1 h2; exact q3 ⟨fun _ => h1, fun _ => h2⟩)
   rw [ht2 y hne] at hy
   obtain ⟨s', hs'⟩ := h.al y hy
   exact ⟨s', (w2 _).2 ⟨hs', fun e => hne (Qgz (hin y hy) hx e)⟩⟩
  ·have := QgZ (f := fun p : (Str × Str) × Sl => p.1) w1.is.nd fun p hp => ((w2 p).1 hp).1
   have := h.ln
   omega
 ·have hsame : S t.2 ↔ S0 t.2 := Classical.byContradiction fun hc => by
   obtain ⟨s', hs'⟩ := h.al _ hc
   rw [QaR h.ms.is.nd hs'] at hz; cases hz
  refine ⟨b4, l, rfl, h.ms, fun g l2 w1 w2 w3 => kk g l2 ⟨w1, fun p hp => ?_, fun y hy => ?_, ?_⟩⟩
  ·have hl := QaR w1.is.nd (k := p.1) (x := p.2) hp
   rw [w2] at hl
   split at hl
   ·rename_i he
    injection hl with hl
    refine ⟨t.2, he, hl ▸ hv, fun hc => ?_, hx⟩
    rw [ht1, hsame] at hc
    by_cases h0 : S0 t.2
    ·exact hc.2 h0 h0
    ·exact h0 (hc.1 h0)
   ·obtain ⟨y, r1, r2, r3, r4⟩ := h.of p (QaG hl)
    rename_i he
    have hne : y ≠ t.2 := fun e => he (by rw [r1, e])
    exact ⟨y, r1, r2, by rw [ht2 y hne]; exact r3, r4⟩
  ·by_cases hne : y = t.2
   ·subst hne; exact ⟨v, QaG (by rw [w2, if_pos rfl])⟩
   ·rw [ht2 y hne] at hy
    obtain ⟨s', hs'⟩ := h.al y hy
    refine ⟨s', QaG ?_⟩
    rw [w2, if_neg fun e => hne (Qgz (hin y hy) hx e)]
    exact QaR h.ms.is.nd hs'
  ·have := h.ln
   rw [w3]; split <;> omega
end
end
section
open Go Go.Proofs
section
variable {C : Ctx} {o : Own_} {A B H H2 D : Heap} {x m n N b4 k : Nat} {s : Sl} {S0 S S2 : Sta} {T : List Th} {t : Th} {a : Nat → Sta} {l : List ((Str × Str) × Sl)}
theorem fS2 {H : Heap} {b j : Nat} {mu : Bool} {cs : List Value} {t : Str} {K : Str → Prop} (h : H b = some (mu, .row cs)) (hj : cs[j]? = some (sv t)) (k : K t) : ldS H ((b, 0).1, (b, 0).2 + j) K := ⟨t, by rw [Qn h, Nat.zero_add]; exact hj, k⟩
theorem QiN {b : Nat} {g : GO} (h : H.le D) (hb : H b = none) : H.le (D.put b g) := fun c e hc => by
 rw [Heap.put_ne _ _ _ (fun e' => by rw [e', hb] at hc; cases hc)]; exact h c e hc
theorem Qgn {jj : Int} {K : Sl → Int → Heap → Prop} (h : LG o A H x a n N) (hnn : n ≤ 1000000) (k1 : ¬ (0 ≤ jj ∧ jj ≤ n) → K Sl.nil 1 H)
 (k0 : ∀ s ws H2, 0 ≤ jj → jj ≤ n → SinceIs H H2 (a jj.toNat) (a n) s ws → ws.length ≤ n - jj.toNat → K s 0 H2) : QR C (some (x, 0)) jj K H := by
 apply QeE
 unfold QcI
 refine Qh0 h ?_
 by_cases hj : 0 ≤ jj ∧ jj ≤ n
 rotate_left
 ·rw [if_neg hj]
  exact QA rfl (k1 hj)
 rw [if_pos hj]
 refine Qi rfl ?_
 obtain ⟨h0, h1⟩ := hj
 obtain ⟨mk, rfl⟩ := Int.eq_ofNat_of_zero_le h0
 have hmk : mk ≤ n := by omega
 have hmn : (mk : Int).toNat = mk := by omega
 rw [hmn] at k0
 have hF := h.f
 have hLG := h
 obtain ⟨⟨m, s, T, p1, p2, p3, p4⟩, _, _⟩ := h
 have hsl : s.len = n := by
  obtain ⟨⟨xs, q1, q2, _⟩, _⟩ := p2
  have h1 := q1.1; rw [Qc1] at h1; omega
 have hcap : s.len ≤ s.cap := by obtain ⟨⟨xs, q1, q2, _⟩, _⟩ := p2; exact q1.2.2.1
 have hsx : s.x = none := by obtain ⟨⟨xs, q1, q2, _⟩, _⟩ := p2; exact q1.2.1
 intro b4 nb4
 have l4 := Heap.le_put nb4 (g := .obj (.map #[] 0)) (m := true)
 have hm4 : MapS kp slv (H.put b4 (.obj (.map #[] 0))) b4 ([] : List ((Str × Str) × Sl)) := MapS.new
 generalize H.put b4 (.obj (.map #[] 0)) = H5 at *
 refine ⟨_, rfl, (p1.up l4).ld1 ⟨by omega, by omega, by omega, by omega, _, rfl, ?_⟩⟩
 generalize ht8 : (⟨if (s.cap : Int) = (mk : Int) then s.p else s.p.map (fun p => (p.1, p.2 + (mk : Int).toNat * 4)), ((s.len : Int) - (mk : Int)).toNat, ((s.cap : Int) - (mk : Int)).toNat, if (s.cap : Int) = (mk : Int) ∨ (mk : Int).toNat * 4 = 0 then s.x else none⟩ : Sl) = t8
 have h8l : t8.len = n - mk := by rw [← ht8]; show ((s.len : Int) - (mk : Int)).toNat = _; omega
 refine ⟨fun y D => ∃ (i : Nat) (l : List ((Str × Str) × Sl)), y = (i : Int) ∧ i ≤ n - mk ∧ H.le D ∧ TnI A D b4 (a mk) (a (mk + i)) l i, fun y _ => n - mk - y.toNat, ⟨0, [], rfl, Nat.zero_le _, l4, hm4, fun p hp => (by cases hp), fun y hy => absurd Iff.rfl hy, Nat.le_refl _⟩, ?_⟩
 rintro _ D ⟨i, l, rfl, hi, hHD, hT⟩
 rw [h8l]
 refine ift.of (fun hlt => ?_) (fun hge => ?_)
 ·have hlt : i < n - mk := by have := of_decide_eq_true hlt; omega
  have hti : T[mk + i]? = some (T[mk + i]'(by omega)) := List.getElem?_eq_getElem _
  obtain ⟨v, b, hth, hsp, hrd⟩ := p2.at_ hti
  have hs8 : t8.p = some (b, mk * 4) ∧ t8.x = none := by
   rw [← ht8]
   have hne : ¬ (s.cap : Int) = (mk : Int) := by omega
   refine ⟨?_, ?_⟩
   ·show (if (s.cap : Int) = (mk : Int) then s.p else s.p.map (fun p => (p.1, p.2 + (mk : Int).toNat * 4))) = _
    rw [if_neg hne, hsp]; simp
   ·show (if (s.cap : Int) = (mk : Int) ∨ (mk : Int).toNat * 4 = 0 then s.x else none) = none
    rw [hsx]; split <;> rfl
  refine ⟨fun _ D2 => ∃ l, H.le D2 ∧ TnI A D2 b4 (a mk) (a (mk + (i + 1))) l (i + 1), ?_, ?_⟩
  ·refine ⟨(b, mk * 4), hs8.1, hs8.2, by omega, by rw [h8l]; omega, v, ?_, ?_⟩
   ·show rds D (b, mk * 4 + (i : Int).toNat * 4) _
    rw [show mk * 4 + (i : Int).toNat * 4 = (mk + i) * 4 by omega]
    exact QiR hHD hrd
   ·intro b31 n31
    refine ⟨hth.cell, nwT rfl ?_⟩
    have l31 := Heap.le_put n31 (g := .row (Qd.c v)) (m := true)
    have c31 : (D.put b31 (.row (Qd.c v))) b31 = some (true, .row (Qd.c v)) := Heap.put_same ..
    generalize D.put b31 (.row (Qd.c v)) = D1 at *
    refine fS2 (j := 0) c31 rfl (fS2 (j := 1) c31 rfl ?_)
    intro b39 n39
    refine nwT rfl ?_
    have l39 := Heap.le_put n39 (g := .row (Qg.c (⟨v.rel_, v.key_⟩ : Qg))) (m := true)
    have c39 : (D1.put b39 (.row (Qg.c (⟨v.rel_, v.key_⟩ : Qg)))) b39 = some (true, .row (Qg.c (⟨v.rel_, v.key_⟩ : Qg))) := Heap.put_same ..
    have c31' := l39 _ _ c31
    generalize D1.put b39 (.row (Qg.c (⟨v.rel_, v.key_⟩ : Qg))) = D2 at *
    refine bxT (c := Qg.c) c39 ?_
    have lD := l31.trans l39
    have hHD2 := hHD.trans lD
    have hT2 : TnI A D2 b4 (a mk) (a (mk + i)) l i := ⟨hT.ms.le lD, hT.of, hT.al, hT.ln⟩
    have hst := p4 (mk + i) _ hti
    have hrow := hth.row
    have hrel := hth.rel
    have hkey := hth.key
    dsimp only
    rw [hrel, hkey] at c39 ⊢
    refine hT2.step (hF _ (by omega)) (hF _ hmk) hth.inn hrow hst (K := fun D2 => ∃ l, H.le D2 ∧ TnI A D2 b4 (a mk) (a (mk + (i + 1))) l (i + 1)) (fun g l2 w1 => ⟨l2, QiN hHD2 nb4, w1⟩) (fun z hd => QA rfl (bxT (c := Qg.c) c39 hd)) fun hu => Qi rfl (bxT (c := Qg.c) c39 (fL (j := 2) c31' rfl hu))
  ·rintro _ D2 ⟨l2, w1, w2⟩
   rw [Qaq (by omega) (by omega)]
   exact ⟨⟨i + 1, l2, by omega, by omega, w1, w2⟩, by first | omega | (dsimp only; omega)⟩
 ·have hie : i = n - mk := by have := of_decide_eq_false hge; omega
  subst hie
  rw [show mk + (n - mk) = n by omega] at hT
  have hin : ∀ y, ¬ (a n y ↔ a mk y) → inR y.2 := fun y hy => by
   by_cases h1 : a n y
   ·exact hF n (Nat.le_refl _) y h1
   ·by_cases h2 : a mk y
    ·exact hF mk hmk y h2
    ·exact absurd ⟨fun h => absurd h h1, fun h => absurd h h2⟩ hy
  obtain ⟨⟨ob4, cb4⟩, hb4⟩ : (∃ ob, D b4 = some (true, .obj ob)) ∧ True := by
   obtain ⟨es, ck, hm⟩ := hT.ms
   exact ⟨⟨_, hm.at_⟩, trivial⟩
  have hTl := hT.ln
  have hAD : A.le D := p1.oh.le.trans hHD
  refine .inr ⟨b4, l, rfl, hT.ms, fun it ob hit hI => ?_⟩
  refine ⟨fun s E => ∃ vs cs, It kp slv E it b4 l vs ∧ OgC D (E.del it) cs s ∧ (cs.map fun z => (z.2.1, showK z.2.2)) = vs.map (fun p => p.1) ∧ ∀ z ∈ cs, ¬ (a n z.2 ↔ a mk z.2) ∧ ((a n z.2 ∧ z.1.N = 1) ∨ (¬ a n z.2 ∧ z.1.N = -1)), fun _ E => l.length - itN E it, ⟨[], [], hI, ?_, rfl, fun z hz => by cases hz⟩, ?_⟩
  ·rw [Qd7, QhF hit]; exact OgC.nil (Heap.le.refl _)
  rintro u E ⟨vs, cs, hIt, hO, hk, hR⟩
  have hlsl : cs.length = vs.length := by have := congrArg List.length hk; simpa using this
  have hfew := hIt.few
  refine .inr ⟨b4, l, vs, hIt, fun hall => ?_, fun p hp hnv ob2 hI2 => ?_⟩
  ·refine Qi rfl ?_
   have hmem : ∀ y, y ∈ (cs.map fun z => z.2) ↔ ¬ (a n y ↔ a mk y) := fun y => ⟨fun hy => by
    obtain ⟨z, hz, rfl⟩ := List.mem_map.1 hy
    exact (hR z hz).1, fun hy => by
    obtain ⟨s', hs'⟩ := hT.al y hy
    have : (y.1, showK y.2) ∈ cs.map fun z => (z.2.1, showK z.2.2) := by rw [hk]; exact List.mem_map.2 ⟨_, hall _ hs', rfl⟩
    obtain ⟨z, hz, e⟩ := List.mem_map.1 this
    have := Qgz (x := z.2) (y := y) (hin _ (hR z hz).1) (hin y hy) e
    exact List.mem_map.2 ⟨z, hz, this⟩⟩
   have hnd : (cs.map fun z => z.2).Nodup := by
    have h5 : (cs.map fun z => (z.2.1, showK z.2.2)).Nodup := by rw [hk, List.Nodup, List.pairwise_map]; exact hIt.nd
    rw [List.Nodup, List.pairwise_map] at h5 ⊢
    exact h5.imp fun {a b} hab e => hab (by rw [e])
   have hoffle : ((E.del it).off u).le (E.off u) := by rw [Qft]; exact Heap.del_le _ _
   refine QjC (H0 := D) (zs := cs) (hO.own.up (Heap.del_le _ _)) (fun z hz => ?_) (by omega) fun ws H3 hw hs hown hoff => ?_
   ·obtain ⟨q1, q2⟩ := hO.done z hz
    have hf := hin _ (hR z hz).1
    exact ⟨q2, q1.row2.le hoffle, hf.b, by have := hf.tookR.len; omega⟩
   ·have hwn : (ws.map fun z => z.2).Nodup := (hw.map fun z => z.2).symm.nodup hnd
    refine k0 u ws H3 h0 h1 ⟨⟨hown.down hHD, fun z hz => ?_⟩, ⟨?_, fun y c => ?_⟩⟩ (by rw [hw.length_eq]; omega)
    ·obtain ⟨q1, q2⟩ := hO.done z (hw.subset hz)
     rw [hoff]
     exact ⟨(q1.up hoffle).down hHD, q2⟩
    ·rw [List.map_map]
     show RiseN (ws.map fun z => z.2)
     have hs2 : (ws.map fun z => z.2).Pairwise fun a b => cmpN a b ≤ 0 := by rw [List.pairwise_map]; exact hs
     refine List.Pairwise.imp_of_mem (fun {a b} ha hb hab => ?_) (hs2.and hwn)
     have ra := (hin _ ((hmem a).1 ((hw.map fun z => z.2).subset ha))).m
     have rb := (hin _ ((hmem b).1 ((hw.map fun z => z.2).subset hb))).m
     have hne : cmpN a b ≠ 0 := fun e => hab.2 ((Qii ra rb).1 e)
     have := hab.1
     omega
    ·constructor
     ·intro hy
      obtain ⟨z, hz, e⟩ := List.mem_map.1 hy
      obtain ⟨r1, r2⟩ := hR z (hw.subset hz)
      injection e with e1 e2
      subst e1; subst e2
      rcases r2 with ⟨r2, r3⟩ | ⟨r2, r3⟩
      ·exact .inl ⟨r3, r2, fun h => r1 ⟨fun _ => h, fun _ => r2⟩⟩
      ·exact .inr ⟨r3, Classical.byContradiction fun h => r1 ⟨fun h2 => absurd h2 r2, fun h2 => absurd h2 h⟩, r2⟩
     ·intro hy
      have hmy : y ∈ cs.map fun z => z.2 := (hmem y).2 (by
       rcases hy with ⟨_, h1, h2⟩ | ⟨_, h1, h2⟩
       ·exact fun h3 => h2 (h3.1 h1)
       ·exact fun h3 => h2 (h3.2 h1))
      obtain ⟨z, hz, rfl⟩ := List.mem_map.1 hmy
      refine List.mem_map.2 ⟨z, hw.symm.subset hz, ?_⟩
      obtain ⟨_, r2⟩ := hR z hz
      rcases hy with ⟨e, h1, h2⟩ | ⟨e, h1, h2⟩ <;> rcases r2 with ⟨r2, r3⟩ | ⟨r2, r3⟩
      ·rw [r3, e]
      ·exact absurd h1 r2
      ·exact absurd r2 h2
      ·rw [r3, e]
  ·refine QA rfl ⟨p.1, p.2, ⟨b4, l, vs, hI2⟩, ?_⟩
   obtain ⟨y, hpk, hv, hty, hyin⟩ := hT.of p hp
   obtain ⟨⟨ob3, a1⟩, ob5, a2⟩ := hI2.at_
   have hDit : D it = none := hit
   have hDel : ((E.put it (.obj ob2)).del it) = E.del it := Qd7
   have hle : (E.del it).le (E.put it (.obj ob2)) := by rw [← hDel]; exact Heap.del_le _ _
   have hDE : D.le (E.put it (.obj ob2)) := hO.own.le.trans hle
   have hOw : Own (E.put it (.obj ob2)) 3 u (cs.flatMap fun z => Qb.c z.1) := hO.own.own.le hle
   generalize E.put it (.obj ob2) = E1 at *
   rw [hpk]
   intro b67 n67
   refine nwT rfl ?_
   have l67 := Heap.le_put n67 (g := .row (Qg.c (⟨y.1, showK y.2⟩ : Qg))) (m := true)
   have c67 : (E1.put b67 (.row (Qg.c (⟨y.1, showK y.2⟩ : Qg)))) b67 = some (true, .row (Qg.c (⟨y.1, showK y.2⟩ : Qg))) := Heap.put_same ..
   show jn _ _
   dsimp only
   generalize E1.put b67 (.row (Qg.c (⟨y.1, showK y.2⟩ : Qg))) = E2 at *
   have hADE2 : A.le E2 := hAD.trans (hDE.trans l67)
   have hyz : vsizes y.2 ≤ 1000000 := by have := hyin.z; omega
   refine ⟨fun q E3 => ∃ (b : Nat) (t : Sl) (G : Heap), q = (b, 0) ∧ Made E2 G y.2 t ∧ G b = none ∧ E3 = G.put b (.row (Qb.c (⟨⟨y.1, t⟩, -1⟩ : Qb))), ?_, ?_⟩
   ·refine ⟨E2, Heap.le.refl _, fS2 (j := 0) c67 rfl ⟨?_, ?_⟩⟩
    ·refine QgN hv hADE2 hyz fun t2 G hM => ⟨hM.le, ?_⟩
     intro b82 n82
     exact ⟨hM.le.trans (Heap.le_put n82), nwT rfl ⟨b82, t2, G, rfl, hM, n82, rfl⟩⟩
    ·intro b86 n86
     have l86 := Heap.le_put n86 (g := .row (Qb.c Qb.zero)) (m := true)
     have c86 : (E2.put b86 (.row (Qb.c Qb.zero))) b86 = some (true, .row (Qb.c Qb.zero)) := Heap.put_same ..
     refine ⟨l86, QgN hv (hADE2.trans l86) hyz fun t2 G hM => ⟨l86.trans hM.le, ?_⟩⟩
     have hg := hM.le _ _ c86
     have hM2 := hM.del c86
     rw [Qd7, QhF n86] at hM2
     refine ⟨_, hg, by simp [Qb.c], b86, t2, G.del b86, rfl, hM2, Heap.del_same .., ?_⟩
     funext c
     by_cases hc : c = b86
     ·subst hc; rw [Heap.put_same, Heap.put_same]; rfl
     ·rw [Heap.put_ne _ _ _ hc, Heap.put_ne _ _ _ hc, Heap.del_ne _ hc]
   ·rintro _ E3 ⟨b, t, G, rfl, hM, hGb, rfl⟩
    have lG := Heap.le_put hGb (g := .row (Qb.c (⟨⟨y.1, t⟩, -1⟩ : Qb))) (m := true)
    have hHG : H.le (G.put b (.row (Qb.c (⟨⟨y.1, t⟩, -1⟩ : Qb)))) := hHD.trans (hDE.trans (l67.trans (hM.le.trans lG)))
    have c67' := lG _ _ (hM.le _ _ c67)
    have cb : (G.put b (.row (Qb.c (⟨⟨y.1, t⟩, -1⟩ : Qb)))) b = some (true, .row (Qb.c (⟨⟨y.1, t⟩, -1⟩ : Qb))) := Heap.put_same ..
    refine ⟨fun _ E4 => ∃ c : Int, ((a n y ∧ c = 1) ∨ (¬ a n y ∧ c = -1)) ∧ E4 = G.put b (.row (Qb.c (⟨⟨y.1, t⟩, c⟩ : Qb))), ?_, ?_⟩
    ·have hP := p1.up hHG
     obtain ⟨L, hRL⟩ := hP.rl
     refine ⟨_, rfl, hP.ld0 (fS2 (j := 0) c67' rfl (hRL.look fun q is hl => fS2 (j := 1) c67' rfl ?_))⟩
     refine hl.look (fun r' hr' => hF n (Nat.le_refl _) _ hr') hyin (fun hS s2 hs2 => QA rfl ?_) fun hS => Qi rfl ⟨-1, .inr ⟨hS, rfl⟩, rfl⟩
     refine ⟨_, cb, by simp [Qb.c], 1, .inl ⟨hS, rfl⟩, ?_⟩
     rw [Heap.put_put]; rfl
    ·rintro _ E4 ⟨c, hc, rfl⟩
     have lG4 := Heap.le_put hGb (g := .row (Qb.c (⟨⟨y.1, t⟩, c⟩ : Qb))) (m := true)
     refine bxT (c := Qb.c) (x := (⟨⟨y.1, t⟩, c⟩ : Qb)) (Heap.put_same ..) ?_
     have hE1G : E1.le (G.put b (.row (Qb.c (⟨⟨y.1, t⟩, c⟩ : Qb)))) := l67.trans (hM.le.trans lG4)
     have hM3 : Made E1 (G.put b (.row (Qb.c (⟨⟨y.1, t⟩, c⟩ : Qb)))) y.2 t := (hM.up lG4).down l67
     generalize G.put b (.row (Qb.c (⟨⟨y.1, t⟩, c⟩ : Qb))) = E5 at *
     have hM4 := hM3.del a1
     rw [hDel] at hM4
     have hOwn3 : Own E5 3 u (cs.flatMap fun z => Qb.c z.1) := hOw.le hE1G
     have hsit : ∀ q, u.p = some q → q.1 ≠ it := fun q hq e => by
      obtain ⟨g, hg⟩ := hO.own.own.mine hq
      rw [e, Heap.del_same] at hg; cases hg
     have hsm : ∀ q, u.p = some q → q.1 ≠ b4 := fun q hq e => by
      have := hO.own.fresh q hq
      rw [e, cb4] at this; cases this
     have hit3 : (E5.off u) it = some (true, .obj ob3) := Heap.off_some (hE1G _ _ a1) hsit
     have hm3 : (E5.off u) b4 = some (true, .obj ob5) := Heap.off_some (hE1G _ _ a2) hsm
     have hsl3 : u.len = cs.length := by have h1 := hOwn3.1; rw [Qe9] at h1; omega
     refine Qe8 (zc := Qb.c Qb.zero) hOwn3.off rfl (by omega) (by omega) fun r2 H4 q1 q2 => ?_
     have e1 := hI2.cnt
     have e2 := hI2.few
     have e3 := hIt.cnt
     have hI4 : It kp slv H4 it b4 l (vs ++ [p]) := hI2.same ((q1.le _ _ hit3).trans a1.symm) ((q1.le _ _ hm3).trans a2.symm)
     have e4 := hI4.cnt
     simp only [List.length_append, List.length_singleton] at e1 e2 e4
     refine ⟨⟨vs ++ [p], cs ++ [((⟨⟨y.1, t⟩, c⟩ : Qb), y)], hI4, ?_, by rw [List.map_append, List.map_append, hk]; simp [hpk], fun z hz => ?_⟩, by first | omega | (dsimp only; omega)⟩
     ·have hq : OwnF ((E5.del it).off u) (H4.del it) 3 r2 ((cs.flatMap fun z => Qb.c z.1) ++ Qb.c (⟨⟨y.1, t⟩, c⟩ : Qb)) := by
       rw [Qft]
       have := q1.del hit3
       rw [List.append_nil] at this; exact this
      exact OgC.step hO hM4 hq
     ·rcases List.mem_append.1 hz with hz | hz
      ·exact hR z hz
      ·rw [List.mem_singleton] at hz
       subst hz
       exact ⟨hty, hc⟩
end
end
section
open Go Go.Proofs
/-- named rows in memory -/
def NRIs (A : Heap) (v : NR) (x : Qc) : Prop := x.Rel = v.1 ∧ VRow A x.L v.2
def NRows (A : Heap) (s : Sl) (W : List NR) : Prop := SlIs (NRIs A) Qc.c A s W
theorem NRows.le {A B : Heap} {s : Sl} {W : List NR} (h : NRows A s W) (hle : A.le B) : NRows B s W := SlIs.le hle h fun v _ x hx => ⟨hx.1, hx.2.le hle⟩
/-- texts in memory -/
def NmL (A : Heap) (s : Sl) (W : List Str) : Prop := SlIs (fun v x : Str => x = v) (fun s => [sv s]) A s W
theorem NmL.le {A B : Heap} {s : Sl} {W : List Str} (h : NmL A s W) (hle : A.le B) : NmL B s W := SlIs.le hle h fun _ _ _ hx => hx
theorem QbP {H0 H H2 H3 : Heap} (h1 : H0.le H) (h2 : H2.le H3) : (Heap.new H H2).le (Heap.new H0 H3) := fun c e hc => by
 obtain ⟨a, b⟩ := Heap.new_inv hc
 exact Heap.new_some (h2 _ _ b) (h1.none a)
theorem QhT {T U : List (List V)} (h1 : Rise T) (h2 : Rise U) (he : ∀ r, r ∈ T ↔ r ∈ U) : T = U := Qfo (P := fun _ => True) Lin.row h1 h2 (fun _ _ => trivial) he
section
variable {C : Ctx} {o o2 : Own_} {A B H H2 D : Heap} {x n N : Nat} {s t : Sl} {S : Sta} {a : Nat → Sta} {W : List NR} {R : List V → Prop} {T : List (List V)} {ys : List Sl}
theorem Qi2 : ∀ W : List Str, (W.flatMap fun s => [sv s]) = W.map sv
 | [] => rfl
 | a :: l => by rw [List.flatMap_cons, Qi2 l]; rfl
theorem OwnF.new {z : Nat} {s : Sl} {cs : List Value} (h : OwnF H H2 z s cs) : Own (Heap.new H H2) z s cs := by
 obtain ⟨h1, ⟨q1, q2, q3, q4⟩, h3⟩ := h
 refine ⟨q1, q2, q3, ?_⟩
 rcases q4 with q4 | ⟨b, sp, r1, r2, r3⟩
 ·exact .inl q4
 ·exact .inr ⟨b, sp, r1, Heap.new_some r2 (h3 _ r1), r3⟩
theorem Told.rows (h : Told D H2 R T s ys) : VRows (Heap.new D H2) s T := by
 have ho := h.og.own
 refine ⟨ys, ho.new.rdsl, by have := ho.len; simpa using this, h.len, fun i y l hy hl => ?_⟩
 refine (h.og.done i l y hl hy).row.le fun c e hc => ?_
 obtain ⟨a, b⟩ := Heap.new_inv hc
 exact Heap.new_some ((Heap.off_le _ _) _ _ b) a
theorem Qfx (hO : OH o A D) (hle : D.le H) : Bs o (Heap.new D H) H := ⟨Heap.new_le _ _, fun c w hw => by
 cases hh : Heap.new D H c with
 | none => rfl
 | some e => exact absurd (Heap.new_inv hh).1 (hO.oh c w hw)⟩
theorem NmTold.nm {W : List Str} (h : NmTold D H2 S W s) (hl : W.length ≤ 140737488355328) : NmL (Heap.new D H2) s W := by
 have h1 := Qi2 W
 have h2 := h.own.new.rdsl
 have h3 := h.own.own.1
 refine ⟨W, by rw [h1]; exact h2, by simpa using h3.symm, rfl, hl, fun i v x hv hx => by rw [hv] at hx; injection hx with hx; exact hx.symm⟩
open Classical in
/-- a relation's rows, rising -/
noncomputable def rowsOf (S : Sta) (n : Str) : List (List V) := if h : ∃ T, Rise T ∧ ∀ r, r ∈ T ↔ S (n, r) then h.choose else []
theorem QiU {n : Str} (h1 : Rise T) (h2 : ∀ r, r ∈ T ↔ S (n, r)) : rowsOf S n = T := by
 have h : ∃ T, Rise T ∧ ∀ r, r ∈ T ↔ S (n, r) := ⟨T, h1, h2⟩
 unfold rowsOf
 rw [dif_pos h]
 exact QhT h.choose_spec.1 h1 fun r => (h.choose_spec.2 r).trans (h2 r).symm
/-- named rows that grow -/
structure OgR (H B : Heap) (cs : List (Qc × NR)) (s : Sl) : Prop where
 own : OwnF H B 2 s (cs.flatMap fun z => Qc.c z.1)
 done : ∀ z ∈ cs, VRow (Heap.new H (B.off s)) z.1.L z.2.2 ∧ z.1.Rel = z.2.1
theorem QhD (l : List (Qc × NR)) : (l.flatMap fun z => Qc.c z.1).length = l.length * 2 := by
 induction l with
 | nil => rfl
 | cons a l ih => rw [List.flatMap_cons, List.length_append, ih, List.length_cons, Nat.add_mul]; show 2 + _ = _; omega
theorem OgR.nil : OgR H H [] Sl.nil := ⟨OwnF.nil H 2, fun z hz => by cases hz⟩
theorem QhP (h : H.le H2) : (H.off s).le (H2.off s) := fun c e hc => by
 have h1 := Heap.off_le _ _ _ _ hc
 refine Heap.off_some (h _ _ h1) fun q hq e' => ?_
 unfold Heap.off at hc
 rw [if_pos (by rw [hq, ← e']; rfl)] at hc; cases hc
theorem OgR.up {cs : List (Qc × NR)} (h : OgR H B cs s) (hle : B.le D) : OgR H D cs s :=
 ⟨h.own.up hle, fun z hz => ⟨(h.done z hz).1.le (QbP (Heap.le.refl _) (QhP hle)), (h.done z hz).2⟩⟩
theorem OgR.rows {cs : List (Qc × NR)} (h : OgR H B cs s) (hl : cs.length ≤ 140737488355328) : NRows (Heap.new H B) s (cs.map fun z => z.2) := by
 have hx := h.own.own.1
 rw [QhD] at hx
 refine ⟨cs.map fun z => z.1, ?_, by rw [List.length_map]; omega, by simp, by simpa using hl, fun i v y hv hy => ?_⟩
 ·rw [List.flatMap_map]; exact h.own.new.rdsl
 ·rw [List.getElem?_map] at hv hy
  cases hc : cs[i]? with
  | none => rw [hc] at hv; cases hv
  | some z =>
   rw [hc] at hv hy
   simp only [Option.map_some, Option.some.injEq] at hv hy
   subst hv; subst hy
   obtain ⟨q1, q2⟩ := h.done z (List.mem_of_getElem? hc)
   exact ⟨q2, q1.le (QbP (Heap.le.refl _) (Heap.off_le _ _))⟩
theorem QhA {K : Sl → Heap → Prop} (h : LG o A H x a n N) (hN : N ≤ 4000) (k : ∀ W s H2, H.le H2 → NRows (Heap.new H H2) s W → IsW (a n) W → K s H2) : Qbm C (some (x, 0)) K H := by
 apply QgS
 unfold QeW
 refine Qhz h (by omega) fun Ws s1 Hn hNm hWl => ?_
 have hHn := hNm.own.le
 have hnm : NmL Hn s1 Ws := (hNm.nm (by omega)).le (Heap.new_le _ _)
 have hlen := SlIs.len hnm
 refine ⟨fun y D => ∃ (i : Nat) (cs : List (Qc × NR)), y.2 = (i : Int) ∧ i ≤ Ws.length ∧ OgR Hn D cs y.1 ∧ (cs.map fun z => z.2) = ((Ws.take i).flatMap fun n' => (rowsOf (a n) n').map fun r => (n', r)) ∧ cs.length ≤ i * N ∧ ∀ n' ∈ Ws.take i, Rise (rowsOf (a n) n') ∧ ∀ r, r ∈ rowsOf (a n) n' ↔ a n (n', r), fun y _ => Ws.length - y.2.toNat, ⟨0, [], rfl, Nat.zero_le _, OgR.nil, by simp, Nat.zero_le _, fun n' hn' => by simp at hn'⟩, ?_⟩
 rintro ⟨u, _⟩ Hb ⟨i, cs, rfl, hi, hO, hcs, hcl, hrs⟩
 dsimp only at hO ⊢
 rw [hlen]
 refine ift.of (fun hlt => ?_) (fun hge => ?_)
 ·have hlt : i < Ws.length := by have := of_decide_eq_true hlt; omega
  refine SlIs.at_ hnm hO.own.le (z := 1) (fun _ => rfl) (by omega) rfl hlt fun p y hy hr => ⟨y, hr 0 _ rfl, ?_⟩
  subst hy
  have hHb := hHn.trans hO.own.le
  refine Qif (h.up hHb) (by omega) fun T st ys H2 hT hTl => ?_
  have hb2 : Hb.le H2 := hT.og.own.le
  have hTr := hT.rows
  have hTlen := hTr.len
  have hro := QiU hT.rise hT.mem
  have hiN : i * N ≤ 4000 * 4000 := Nat.mul_le_mul (by omega) hN
  -- the rows told
  refine ⟨fun y D => ∃ (k : Nat) (cs2 : List (Qc × NR)), y.2 = (k : Int) ∧ k ≤ T.length ∧ OgR Hn D cs2 y.1 ∧ (Heap.new Hb H2).le (D.off y.1) ∧ (cs2.map fun z => z.2) = (cs.map fun z => z.2) ++ (T.take k).map (fun r => (Ws[i], r)) ∧ cs2.length ≤ i * N + k, fun y _ => T.length - y.2.toNat, ⟨0, cs, rfl, Nat.zero_le _, hO.up hb2, ?_, by simp, by omega⟩, ?_⟩
  ·intro c e hc
   obtain ⟨q1, q2⟩ := Heap.new_inv hc
   refine Heap.off_some q2 fun q hq e' => ?_
   obtain ⟨g, hg⟩ := hO.own.own.mine hq
   rw [e', q1] at hg; cases hg
  ·rintro ⟨u2, _⟩ D ⟨j, cs2, rfl, hj, hO2, hTm, hcs2, hcl2⟩
   dsimp only at hO2 hTm ⊢
   rw [hTlen]
   refine ift.of (fun hlt2 => ?_) (fun hge2 => ?_)
   ·have hjt : j < T.length := by have := of_decide_eq_true hlt2; omega
    have hHnD : Hn.le (D.off u2) := Heap.le_off hO2.own.le hO2.own.fresh
    refine ⟨D.off u2, Heap.off_le _ _, ?_⟩
    refine SlIs.at_ hnm hHnD (z := 1) (fun _ => rfl) (by omega) rfl hlt fun p y hy hr => ⟨y, hr 0 _ rfl, ?_⟩
    subst hy
    refine hTr.ld hTm rfl hjt fun t ht => ?_
    intro b37 n37
    have l37 := Heap.le_put n37 (g := .row (Qc.c (⟨Ws[i], t⟩ : Qc) ++ [])) (m := true)
    refine ⟨(Heap.off_le _ _).trans l37, Qc.c (⟨Ws[i], t⟩ : Qc), ?_, fun v hv => ?_, ?_⟩
    ·refine .inr ⟨rfl, (b37, 0), rfl, Qb2 (Heap.put_same ..) fun j w hj => ?_⟩
     rw [Nat.zero_add, List.append_nil]; exact hj
    ·simp only [Qc.c, List.mem_cons, List.not_mem_nil, or_false] at hv
     rcases hv with rfl | rfl <;> rfl
    ·have hO3 := hO2.up l37
     have hoff := QhP (s := u2) l37
     generalize D.put b37 (.row (Qc.c (⟨Ws[i], t⟩ : Qc) ++ [])) = D1 at *
     have hl3 := hO3.own.own.1
     rw [QhD] at hl3
     refine Qe8 (zc := Qc.c Qc.zero) hO3.own.own.off rfl (by simp only [Sl.of]; omega) (by simp only [Sl.of]; omega) fun r2 H4 q1 q2 => ?_
     refine ⟨hoff.trans q1.le, ?_⟩
     rw [Qaq (by omega) (by omega)]
     have h34 : (D1.off u2).le (H4.off r2) := Heap.le_off q1.le q1.fresh
     have hHn1 : Hn.le (D1.off u2) := hHnD.trans hoff
     refine ⟨⟨j + 1, cs2 ++ [((⟨Ws[i], t⟩ : Qc), (Ws[i], T[j]))], by omega, by omega, ⟨?_, fun z hz => ?_⟩, hTm.trans (hoff.trans h34), ?_, by simp; omega⟩, by first | omega | (dsimp only; omega)⟩
     ·rw [List.flatMap_append]
      have hq : OwnF Hn H4 2 r2 ((cs2.flatMap fun z => Qc.c z.1) ++ Qc.c (⟨Ws[i], t⟩ : Qc)) := q1.down hHn1
      simpa using hq
     ·rcases List.mem_append.1 hz with hz | hz
      ·exact ⟨(hO3.done z hz).1.le (QbP (Heap.le.refl _) h34), (hO3.done z hz).2⟩
      ·rw [List.mem_singleton] at hz
       subst hz
       refine ⟨ht.le fun c e hc => ?_, rfl⟩
       obtain ⟨w1, w2⟩ := Heap.new_inv hc
       exact Heap.new_some ((hTm.trans (hoff.trans h34)) _ _ hc) (hO.own.le.none w1)
     ·rw [List.map_append, hcs2, List.take_add_one, List.getElem?_eq_getElem hjt, Option.toList_some, List.map_append, List.append_assoc]; rfl
   ·have hje : j = T.length := by have := of_decide_eq_false hge2; omega
    subst hje
    rw [List.take_length] at hcs2
    rw [Qaq (by omega) (by omega)]
    refine ⟨⟨i + 1, cs2, by omega, by omega, hO2, ?_, by rw [Nat.add_mul]; omega, fun n' hn' => ?_⟩, by first | omega | (dsimp only; omega)⟩
    ·rw [hcs2, hcs, List.take_add_one, List.getElem?_eq_getElem hlt, Option.toList_some, List.flatMap_append, List.flatMap_singleton, hro]
    ·rw [List.take_add_one, List.getElem?_eq_getElem hlt, Option.toList_some, List.mem_append, List.mem_singleton] at hn'
     rcases hn' with hn' | rfl
     ·exact hrs n' hn'
     ·rw [hro]; exact ⟨hT.rise, hT.mem⟩
 ·have hie : i = Ws.length := by have := of_decide_eq_false hge; omega
  subst hie
  rw [List.take_length] at hcs hrs
  have hcl3 : cs.length ≤ 4000 * 4000 := Nat.le_trans hcl (Nat.mul_le_mul (by omega) hN)
  refine k (cs.map fun z => z.2) u Hb (hHn.trans hO.own.le) ((hO.rows (by omega)).le (QbP hHn (Heap.le.refl _))) ⟨?_, fun z => ?_⟩
  ·rw [hcs]; exact QhC hNm.rise fun n' hn' => (hrs n' hn').1
  ·rw [hcs, QjW]
   constructor
   ·rintro ⟨h1, h2⟩
    exact (hrs _ h1).2 _ |>.1 h2
   ·intro hz
    have h1 := (hNm.mem z.1).2 ⟨z.2, hz⟩
    exact ⟨h1, ((hrs _ h1).2 _).2 hz⟩
/-- the same named rows -/
theorem QgP {K : Bool → Heap → Prop} (hs : NRows A s W) (ht : NRows B t W) (hA : A.le H) (hB : B.le H) (hb : ∀ z ∈ W, VBs z.2 ∧ z.2.length ≤ 140737488355328) (k : K true H) : QaZ C s t K H := by
 apply QeA
 unfold QcE
 have l1 := SlIs.len hs
 have l2 := SlIs.len ht
 have hbd := SlIs.bd hs
 refine Qi (by rw [l1, l2]; simp) ?_
 refine ⟨fun y D => D = H ∧ ∃ i : Nat, y = (i : Int) ∧ i ≤ W.length, fun y _ => W.length - y.toNat, ⟨rfl, 0, rfl, Nat.zero_le _⟩, ?_⟩
 rintro _ D ⟨rfl, i, rfl, hi⟩
 rw [l1]
 refine ift.of (fun h => ?_) (fun h => k)
 have hlt : i < W.length := by have := of_decide_eq_true h; omega
 refine ⟨fun b D2 => D2 = D ∧ b = false, ?_, ?_⟩
 ·refine ⟨D, Heap.le.refl _, ?_⟩
  refine SlIs.fS hs hA (z := 2) (fun _ => rfl) (by omega) rfl hlt (j := 0) (f := fun x => x.Rel) (fun _ => rfl) fun y hy => ?_
  refine SlIs.fS ht hB (z := 2) (fun _ => rfl) (by omega) rfl hlt (j := 0) (f := fun x => x.Rel) (fun _ => rfl) fun z hz => ?_
  rw [hy.1, hz.1]
  refine Qi (by simp) ?_
  refine SlIs.fL hs hA (z := 2) (fun _ => rfl) (by omega) rfl hlt (j := 1) (f := fun x => x.L) (fun _ => rfl) fun y hy => ?_
  refine SlIs.fL ht hB (z := 2) (fun _ => rfl) (by omega) rfl hlt (j := 1) (f := fun x => x.L) (fun _ => rfl) fun z hz => ?_
  have hm := hb _ (List.getElem_mem hlt)
  refine Qf6 (hy.2.le hA) (hz.2.le hB) hm.2 hm.1 ⟨Heap.le.refl _, rfl, ?_⟩
  rw [Qgg.2 rfl]; rfl
 ·rintro _ D2 ⟨rfl, rfl⟩
  refine Qi rfl ?_
  rw [Qaq (by omega) (by omega)]
  exact ⟨⟨rfl, i + 1, by omega, by omega⟩, by first | omega | (dsimp only; omega)⟩
end
end
section
open Go Go.Proofs
structure OpV where
 k : Int
 n : Int
 rel : Str
 row : List V
def OpIs (A : Heap) (o : OpV) (x : Qm) : Prop := x.Kind = o.k ∧ x.N = o.n ∧ x.Row.Rel = o.rel ∧ VRow A x.Row.L o.row
def Ops (A : Heap) (s : Sl) (l : List OpV) : Prop := SlIs (OpIs A) Qm.c A s l
theorem Ops.le {A B : Heap} {s : Sl} {l : List OpV} (h : Ops A s l) (hle : A.le B) : Ops B s l := SlIs.le hle h fun v _ x hx => ⟨hx.1, hx.2.1, hx.2.2.1, hx.2.2.2.le hle⟩
/-- what comes in -/
def InOp (o : OpV) : Prop := VBs o.row ∧ o.row.length ≤ 140737488355328 ∧ o.rel.length ≤ 140737488355328
def opw (l : List OpV) : Nat := (l.map fun o => 2 + o.rel.length / 50 + vsizes o.row).sum
theorem Qjl {l : List OpV} {i : Nat} (h : i < l.length) : opw (l.take (i + 1)) = opw (l.take i) + (2 + l[i].rel.length / 50 + vsizes l[i].row) := by
 unfold opw
 rw [List.take_add_one, List.getElem?_eq_getElem h, Option.toList_some, List.map_append, List.sum_append]; simp
/-- not large -/
structure FewOp (l : List OpV) : Prop where
 len : l.length ≤ 400
 op : ∀ o ∈ l, okR o.row ∧ o.rel.length ≤ 1000000
theorem QiG : ∀ {l : List OpV}, 2 * l.length ≤ opw l ∧ ∀ o ∈ l, 2 + o.rel.length / 50 + vsizes o.row ≤ opw l
 | [] => ⟨by simp, fun o ho => by cases ho⟩
 | a :: l => by
  obtain ⟨h1, h2⟩ := QiG (l := l)
  have e : opw (a :: l) = (2 + a.rel.length / 50 + vsizes a.row) + opw l := by unfold opw; simp
  refine ⟨by rw [e, List.length_cons]; omega, fun o ho => ?_⟩
  rcases List.mem_cons.1 ho with rfl | ho
  ·omega
  ·have := h2 o ho; omega
theorem FewOp.of {l : List OpV} (hB : ∀ o ∈ l, InOp o) (h : opw l < 800) : FewOp l := by
 obtain ⟨h1, h2⟩ := QiG (l := l)
 refine ⟨by omega, fun o ho => ?_⟩
 have := h2 o ho
 exact ⟨⟨(hB o ho).1, by omega⟩, by omega⟩
theorem tdiv50 (n : Nat) : Int.tdiv (n : Int) 50 = ((n / 50 : Nat) : Int) := by
 rw [Int.tdiv_eq_ediv_of_nonneg (by omega)]; rfl
section
variable {C : Ctx} {o o2 : Own_} {A B H H2 D : Heap} {x n N : Nat} {s t : Sl} {S : Sta} {a : Nat → Sta}
theorem QhJ {l : List OpV} {K : Bool → Heap → Prop} (hv : Ops H s l) (hB : ∀ o ∈ l, InOp o) (k : ∀ b : Bool, (b = false → FewOp l) → K b H) : QbN C s K H := by
 apply QfU
 unfold QdT
 have hlen := SlIs.len hv
 have hbd := SlIs.bd hv
 refine ⟨fun y A => A = H ∧ ∃ i n : Nat, y = ((n : Int), (i : Int)) ∧ i ≤ l.length ∧ n ≤ 200000000000000 ∧ (n < 800 → opw (l.take i) ≤ n), fun y _ => l.length - y.2.toNat,
  ⟨rfl, 0, 0, rfl, Nat.zero_le _, by omega, fun _ => by simp [opw]⟩, ?_⟩
 rintro _ A ⟨rfl, i, n, rfl, hi, hn2, hn3⟩
 rw [hlen]
 refine ift.of (fun h => ?_) (fun h => ?_)
 ·simp only [Bool.and_eq_true, decide_eq_true_eq] at h
  have hlt : i < l.length := by omega
  have hnm : n < 800 := by omega
  obtain ⟨b1, b2, b3⟩ := hB _ (List.getElem_mem hlt)
  refine SlIs.at_ hv (Heap.le.refl _) (z := 4) (fun _ => rfl) (by omega) rfl hlt fun p y hy hr => ⟨y.Row.Rel, hr 2 _ rfl, ?_⟩
  rw [hy.2.2.1]
  dsimp only
  rw [tdiv50]
  have hq : l[i].rel.length / 50 ≤ 140737488355328 := Nat.le_trans (Nat.div_le_self _ _) b3
  generalize hqe : l[i].rel.length / 50 = q at *
  rw [Qaq (x := (n : Int) + 2) (by omega) (by omega), Qaq (x := (q : Int)) (by omega) (by omega), Qaq (by omega) (by omega)]
  refine ⟨fun y E => E = A ∧ ∃ k m : Nat, y = ((m : Int), (k : Int)) ∧ k ≤ l[i].row.length ∧ m ≤ 200000000000000 ∧ (m < 800 → n + 2 + q + vsizes (l[i].row.take k) ≤ m), fun y _ => l[i].row.length - y.2.toNat,
   ⟨rfl, 0, n + 2 + q, by simp, Nat.zero_le _, by omega, fun _ => by simp [vsizes]⟩, ?_⟩
  rintro _ E ⟨rfl, k, m, rfl, hk, hm2, hm3⟩
  refine SlIs.at_ hv (Heap.le.refl _) (z := 4) (fun _ => rfl) (by omega) rfl hlt fun p y hy hr => ⟨y.Row.L, hr 3 _ rfl, ?_⟩
  dsimp only
  rw [hy.2.2.2.len]
  refine ift.of (fun h2 => ?_) (fun h2 => ?_)
  ·simp only [Bool.and_eq_true, decide_eq_true_eq] at h2
   have hkt : k < l[i].row.length := by omega
   have hmm : m < 800 := by omega
   refine SlIs.at_ hv (Heap.le.refl _) (z := 4) (fun _ => rfl) (by omega) rfl hlt fun p y hy hr => ⟨y.Row.L, hr 3 _ rfl, ?_⟩
   refine hy.2.2.2.ld (Heap.le.refl _) rfl hkt fun z hz => ?_
   refine Qi9 (m := 800) hz (b1.mem (List.getElem_mem hkt)) (by omega) (by omega) fun r r1 r2 r3 => ?_
   skip
   rw [Qaq (by omega) (by omega), Qaq (by omega) (by omega)]
   refine ⟨⟨rfl, k + 1, m + r, by simp, by omega, by omega, fun hh => ?_⟩, by first | omega | (dsimp only; omega)⟩
   rw [QfO hkt]
   have := r3 (by omega)
   have := hm3 hmm
   omega
  ·skip
   rw [Qaq (by omega) (by omega)]
   refine ⟨⟨rfl, i + 1, m, by simp, by omega, by omega, fun hh => ?_⟩, by first | omega | (dsimp only; omega)⟩
   have hke : k = l[i].row.length := by
    simp only [Bool.and_eq_false_iff, decide_eq_false_iff_not] at h2
    omega
   have := hm3 hh
   rw [hke, List.take_length] at this
   rw [Qjl hlt, hqe]
   have := hn3 hnm
   omega
 ·refine k _ fun hh => FewOp.of hB ?_
  have hh := of_decide_eq_false hh
  dsimp only at hh
  have hie : i = l.length := by
   simp only [Bool.and_eq_false_iff, decide_eq_false_iff_not] at h
   omega
  have := hn3 (by omega)
  rw [hie, List.take_length] at this
  omega
/-- what a step makes of what is there -/
structure Stp (a : Nat → Sta) (n : Nat) (a2 : Nat → Sta) (n2 : Nat) : Prop where
 le : n ≤ n2
 old : ∀ i, i ≤ n → a2 i = a i
theorem Stp.refl : Stp a n a n := ⟨Nat.le_refl _, fun _ _ => rfl⟩
theorem Stp.trans {a2 a3 : Nat → Sta} {n2 n3 : Nat} (h : Stp a n a2 n2) (h' : Stp a2 n2 a3 n3) : Stp a n a3 n3 := ⟨Nat.le_trans h.le h'.le, fun i hi => (h'.old i (Nat.le_trans hi h.le)).trans (h.old i hi)⟩
theorem Stp.ext {S : Sta} : Stp a n (ext a n S) (n + 1) := ⟨Nat.le_succ _, fun i hi => QdL hi⟩
theorem put1 (hFm : FmtC C) {r : List V} {nm : Str} {K : Heap → Prop} (h : LG o A H x a n N) (hn : n ≤ 1000000) (hb : Bs o B H) (hv : VRow B t r) (hr : okR r) (hnm : nm.length ≤ 1000000)
 (k : ∀ o2 A2 H2 a2 n2 N2, Mv o A H o2 A2 H2 → LG o2 A2 H2 x a2 n2 N2 → Stp a n a2 n2 → n2 ≤ n + 1 → N2 ≤ N + 2 → K H2) : Qq C (some (x, 0)) ⟨nm, t⟩ (fun _ _ H2 => K H2) H :=
 QgO hFm h hn hb hv hr hnm (fun _ H2 h2 => k o A H2 a n N (Mv.of_le h2) (h.up h2) Stp.refl (by omega) (by omega)) (fun _ _ H2 h2 => k o A H2 a n N (Mv.of_le h2) (h.up h2) Stp.refl (by omega) (by omega)) fun _ _ o2 A2 H2 m1 l1 => k o2 A2 H2 _ _ _ m1 l1 Stp.ext (Nat.le_refl _) (Nat.le_refl _)
theorem del1 (hFm : FmtC C) {r : List V} {nm : Str} {K : Heap → Prop} (h : LG o A H x a n N) (hn : n ≤ 1000000) (hb : Bs o B H) (hv : VRow B t r) (hr : okR r)
 (k : ∀ o2 A2 H2 a2 n2 N2, Mv o A H o2 A2 H2 → LG o2 A2 H2 x a2 n2 N2 → Stp a n a2 n2 → n2 ≤ n + 1 → N2 ≤ N + 2 → K H2) : QV C (some (x, 0)) ⟨nm, t⟩ (fun _ _ H2 => K H2) H :=
 Qid hFm h hn hb hv hr (fun _ H2 h2 => k o A H2 a n N (Mv.of_le h2) (h.up h2) Stp.refl (by omega) (by omega)) (fun _ _ H2 h2 => k o A H2 a n N (Mv.of_le h2) (h.up h2) Stp.refl (by omega) (by omega)) fun _ _ o2 A2 H2 m1 l1 => k o2 A2 H2 _ _ _ m1 l1 Stp.ext (Nat.le_refl _) (Nat.le_refl _)
theorem QjZ (hFm : FmtC C) {op : OpV} {y : Qm} {K : Heap → Prop} (h : LG o A H x a n N) (hn : n ≤ 1000) (hb : Bs o B H) (hy : OpIs B op y) (hr : okR op.row) (hnm : op.rel.length ≤ 1000000)
 (k : ∀ o2 A2 H2 a2 n2 N2, Mv o A H o2 A2 H2 → LG o2 A2 H2 x a2 n2 N2 → Stp a n a2 n2 → n2 ≤ n + 1 → N2 ≤ N + 2 → K H2) : Qbr C (some (x, 0)) y K H := by
 apply Qgo
 unfold Qeq
 intro b1 n1
 have l1 := Heap.le_put n1 (g := .row (Qm.c y)) (m := true)
 have c1 : (H.put b1 (.row (Qm.c y))) b1 = some (true, .row (Qm.c y)) := Heap.put_same ..
 have h1 := h.up l1
 have hb1 := hb.up l1
 have ob1 : o b1 = none := by
  cases e : o b1 with
  | none => rfl
  | some w => exact absurd n1 (h.oh.oh _ _ e)
 generalize H.put b1 (.row (Qm.c y)) = E at *
 obtain ⟨hk, hN', hrel, hv⟩ := hy
 have hRow : y.Row = ⟨op.rel, y.Row.L⟩ := by cases hyr : y.Row; rw [hyr] at hrel; simp at hrel; subst hrel; rfl
 have ldRow : ∀ {E' : Heap} {K' : Qc → Prop}, E' b1 = some (true, .row (Qm.c y)) → K' y.Row → ldT E' Qc.c ((b1, 0).1, (b1, 0).2 + 2) K' := fun {E' K'} hc hk' => fT (j := 2) hc (fun i v hi => by
  match i with
  | 0 => exact hi
  | 1 => exact hi
  | i + 2 => simp [Qc.c] at hi) hk'
 refine ⟨fun _ D => (op.k = 0 ∧ K D ∧ D b1 = some (true, .row (Qm.c y))) ∨ (op.k ≠ 0 ∧ D = E), ?_, ?_⟩
 ·refine fI (j := 0) c1 rfl ?_
  rw [hk]
  refine ift.of (fun h0 => ?_) (fun h0 => ?_)
  ·have h0 : op.k = 0 := by simpa using h0
   refine ldRow c1 ?_
   rw [hRow]
   exact put1 hFm h1 (by omega) hb1 hv hr hnm fun o2 A2 H2 a2 n2 N2 m1 m2 m3 m4 m5 => .inl ⟨h0, k o2 A2 H2 a2 n2 N2 ((Mv.of_le l1).trans m1) m2 m3 m4 m5, m1.c.kp _ _ c1 fun w hw => by rw [ob1] at hw; cases hw⟩
  ·have h0 : op.k ≠ 0 := by simpa using h0
   exact .inr ⟨h0, rfl⟩
 ·rintro _ D hD
  by_cases h0 : op.k = 0
  ·obtain ⟨_, hKD, cD⟩ := hD.resolve_right fun h => h.1 h0
   refine fI (j := 0) cD rfl ?_
   rw [hk, h0]
   exact Qi rfl hKD
  ·obtain ⟨_, rfl⟩ := hD.resolve_left fun h => h0 h.1
   refine fI (j := 0) c1 rfl ?_
   rw [hk]
   refine ift.of (fun h2 => ?_) (fun h2 => ?_)
   ·refine ldRow c1 ?_
    rw [hRow]
    exact del1 hFm h1 (by omega) hb1 hv hr fun o2 A2 H2 a2 n2 N2 m1 m2 m3 m4 m5 => k o2 A2 H2 a2 n2 N2 ((Mv.of_le l1).trans m1) m2 m3 m4 m5
   ·exact k o A D a n N (Mv.of_le l1) h1 Stp.refl (by omega) (by omega)
end
end
section
open Go Go.Proofs
def vN (n : Int) : V := .mk 2 n [] []
theorem Qks (H : Heap) (n : Int) : VIs H (vN n) ⟨2, n, [], Sl.nil⟩ := ⟨rfl, rfl, rfl, [], .inl rfl, rfl, trivial⟩
/-- changes in memory -/
def CgR (A : Heap) (v : Cg) (x : Qb) : Prop := x.Row.Rel = v.1.1 ∧ VRow A x.Row.L v.1.2 ∧ x.N = v.2
def NChs (A : Heap) (s : Sl) (D : List Cg) : Prop := SlIs (CgR A) Qb.c A s D
theorem NChs.le {A B : Heap} {s : Sl} {D : List Cg} (h : NChs A s D) (hle : A.le B) : NChs B s D := SlIs.le hle h fun v _ x hx => ⟨hx.1, hx.2.1.le hle, hx.2.2⟩
section
variable {C : Ctx} {o o2 : Own_} {A B H H2 E : Heap} {x n N : Nat} {s t : Sl} {S S0 : Sta} {a : Nat → Sta} {D : List Cg}
theorem SinceIs.chs {ws : List (Qb × NR)} (h : SinceIs H H2 S0 S s ws) (hl : ws.length ≤ 1000000) : NChs (Heap.new H H2) s (ws.map fun z => (z.2, z.1.N)) := by
 have hx := h.og.own.own.1
 rw [Qe9] at hx
 refine ⟨ws.map fun z => z.1, ?_, by rw [List.length_map]; omega, by simp, by simp; omega, fun i v y hv hy => ?_⟩
 ·rw [List.flatMap_map]; exact h.og.own.new.rdsl
 ·rw [List.getElem?_map] at hv hy
  cases hc : ws[i]? with
  | none => rw [hc] at hv; cases hv
  | some z =>
   rw [hc] at hv hy
   simp only [Option.map_some, Option.some.injEq] at hv hy
   subst hv; subst hy
   obtain ⟨q1, q2⟩ := h.og.done z (List.mem_of_getElem? hc)
   exact ⟨q2, q1.row.le (QbP (Heap.le.refl _) (Heap.off_le _ _)), rfl⟩
theorem Qf5 {K : Bool → Heap → Prop} (hs : NChs A s D) (ht : NChs B t D) (hA : A.le H) (hB : B.le H) (hb : ∀ z ∈ D, VBs z.1.2 ∧ z.1.2.length ≤ 140737488355328) (k : K true H) : Qae C s t K H := by
 apply QdG
 unfold QbH
 have l1 := SlIs.len hs
 have l2 := SlIs.len ht
 have hbd := SlIs.bd hs
 refine Qi (by rw [l1, l2]; simp) ?_
 refine ⟨fun y E => E = H ∧ ∃ i : Nat, y = (i : Int) ∧ i ≤ D.length, fun y _ => D.length - y.toNat, ⟨rfl, 0, rfl, Nat.zero_le _⟩, ?_⟩
 rintro _ E ⟨rfl, i, rfl, hi⟩
 rw [l1]
 refine ift.of (fun h => ?_) (fun h => k)
 have hlt : i < D.length := by have := of_decide_eq_true h; omega
 refine ⟨fun b D2 => D2 = E ∧ b = false, ?_, ?_⟩
 ·refine ⟨E, Heap.le.refl _, ?_⟩
  refine SlIs.fI hs hA (z := 3) (fun _ => rfl) (by omega) rfl hlt (j := 2) (q := .i64) (f := fun x => x.N) (fun _ => rfl) fun y hy => ?_
  refine SlIs.fI ht hB (z := 3) (fun _ => rfl) (by omega) rfl hlt (j := 2) (q := .i64) (f := fun x => x.N) (fun _ => rfl) fun z hz => ?_
  rw [hy.2.2, hz.2.2]
  refine Qi (by simp) ?_
  refine SlIs.at_ hs hA (z := 3) (fun _ => rfl) (by omega) rfl hlt fun p y hy hr => ⟨y.Row.Rel, hr 0 _ rfl, ?_⟩
  refine SlIs.at_ ht hB (z := 3) (fun _ => rfl) (by omega) rfl hlt fun p z hz hr => ⟨z.Row.Rel, hr 0 _ rfl, ?_⟩
  rw [hy.1, hz.1]
  refine Qi (by simp) ?_
  refine SlIs.at_ hs hA (z := 3) (fun _ => rfl) (by omega) rfl hlt fun p y hy hr => ⟨y.Row.L, hr 1 _ rfl, ?_⟩
  refine SlIs.at_ ht hB (z := 3) (fun _ => rfl) (by omega) rfl hlt fun p z hz hr => ⟨z.Row.L, hr 1 _ rfl, ?_⟩
  have hm := hb _ (List.getElem_mem hlt)
  refine Qf6 (hy.2.1.le hA) (hz.2.1.le hB) hm.2 hm.1 ⟨Heap.le.refl _, rfl, ?_⟩
  rw [Qgg.2 rfl]; rfl
 ·rintro _ D2 ⟨rfl, rfl⟩
  refine Qi rfl ?_
  rw [Qaq (by omega) (by omega)]
  exact ⟨⟨rfl, i + 1, by omega, by omega⟩, by first | omega | (dsimp only; omega)⟩
theorem Qdn {rel : Str} {j : Int} {K : Qc → Heap → Prop} (k : ∀ t H2, H.le H2 → VRow (Heap.new H H2) t [vN j] → K ⟨rel, t⟩ H2) : QL C rel j K H := by
 apply QgT
 unfold QeX
 intro b1 n1 b3 n3
 have ne : b3 ≠ b1 := fun e => by rw [e, Heap.put_same] at n3; cases n3
 have n3' : H b3 = none := by rw [Heap.put_ne _ _ _ ne] at n3; exact n3
 refine ⟨_, by rw [Heap.put_ne _ _ _ ne.symm, Heap.put_same], by simp [Qc.c], ?_⟩
 have e : splice (Qc.c Qc.zero) (b1, 0).2 (Qc.c (⟨rel, Sl.of (some (b3, 0)) 1 1⟩ : Qc)) = Qc.c (⟨rel, Sl.of (some (b3, 0)) 1 1⟩ : Qc) := rfl
 rw [e]
 refine bxT (c := Qc.c) (x := (⟨rel, Sl.of (some (b3, 0)) 1 1⟩ : Qc)) (Heap.put_same ..) (k _ _ (fun c e hc => ?_) ⟨[⟨2, j, [], Sl.nil⟩], .inr ⟨rfl, (b3, 0), rfl, ?_⟩, rfl, Qks _ _, trivial⟩)
 ·have h1 : c ≠ b1 := fun e' => by rw [e', n1] at hc; cases hc
  have h3 : c ≠ b3 := fun e' => by rw [e', n3'] at hc; cases hc
  rw [Heap.put_ne _ _ _ h1, Heap.put_ne _ _ _ h3, Heap.put_ne _ _ _ h1]; exact hc
 ·refine Qb2 (m := true) (Heap.new_some (by rw [Heap.put_ne _ _ _ ne, Heap.put_same]) n3') fun j v hj => ?_
  rw [Nat.zero_add]; exact hj
theorem okN1 {j : Int} (h : 0 ≤ j) (h2 : j ≤ 10) : okR [vN j] := ⟨by simp [vN, VBs, VB]; omega, by simp [vN, vsizes, vsize]⟩
theorem okn1 : okR [vN 1] := okN1 (by omega) (by omega)
theorem okn2 : okR [vN 2] := okN1 (by omega) (by omega)
theorem mayN1 (j : Int) : mayR [vN j] = true := by rfl
theorem inn1 : inR [vN 1] := ⟨okn1, mayN1 1⟩
theorem inn2 : inR [vN 2] := ⟨okn2, mayN1 2⟩
abbrev xR1 : NR := ([114], [vN 1])
abbrev xR2 : NR := ([114], [vN 2])
abbrev xS1 : NR := ([115], [vN 1])
theorem x12 : xR1 ≠ xR2 := fun e => by simp [vN] at e
theorem x1s : xR1 ≠ xS1 := fun e => by simp at e
theorem x2s : xR2 ≠ xS1 := fun e => by simp at e
/-- what is there at each mark -/
def exA : Nat → Sta
 | 0 => noS
 | 1 => fun y => y = xR1
 | 2 => fun y => y = xR1 ∨ y = xR2
 | 3 => fun y => y = xR2
 | _ => fun y => y = xR2 ∨ y = xS1
theorem exA1 : putS noS xR1 = exA 1 := by funext y; exact propext ⟨fun h => h.elim (fun h => h.elim) id, .inr⟩
theorem exA2 : putS (exA 1) xR2 = exA 2 := rfl
theorem exA3 : Qeg (exA 2) xR1 = exA 3 := by
 funext y
 refine propext ⟨fun ⟨h1, h2⟩ => h1.resolve_left h2, fun h => ⟨.inr h, fun e => x12 (e.symm.trans h)⟩⟩
theorem exA4 : putS (exA 3) xS1 = exA 4 := rfl
theorem exD2 : IsD (exA 2) (exA 4) [(xR1, -1), (xS1, 1)] := by
 refine ⟨?_, fun y c => ?_⟩
 ·unfold RiseN
  simp only [List.map_cons, List.map_nil, List.pairwise_cons, List.mem_cons, List.not_mem_nil, or_false, forall_eq, List.Pairwise.nil, and_true, false_implies, implies_true]
  decide +kernel
 ·simp only [List.mem_cons, List.not_mem_nil, or_false, Prod.mk.injEq]
  show (y = xR1 ∧ c = -1 ∨ y = xS1 ∧ c = 1) ↔ (c = 1 ∧ (y = xR2 ∨ y = xS1) ∧ ¬ (y = xR1 ∨ y = xR2)) ∨ (c = -1 ∧ (y = xR1 ∨ y = xR2) ∧ ¬ (y = xR2 ∨ y = xS1))
  constructor
  ·rintro (⟨rfl, rfl⟩ | ⟨rfl, rfl⟩)
   ·exact .inr ⟨rfl, .inl rfl, fun h => h.elim x12 x1s⟩
   ·exact .inl ⟨rfl, .inr rfl, fun h => h.elim (fun e => x1s e.symm) fun e => x2s e.symm⟩
  ·rintro (⟨rfl, h1, h2⟩ | ⟨rfl, h1, h2⟩)
   ·exact .inr ⟨h1.resolve_left fun e => h2 (.inr e), rfl⟩
   ·exact .inl ⟨h1.resolve_right fun e => h2 (.inl e), rfl⟩
theorem exD0 : IsD (exA 0) (exA 4) [(xR2, 1), (xS1, 1)] := by
 refine ⟨?_, fun y c => ?_⟩
 ·unfold RiseN
  simp only [List.map_cons, List.map_nil, List.pairwise_cons, List.mem_cons, List.not_mem_nil, or_false, forall_eq, List.Pairwise.nil, and_true, false_implies, implies_true]
  decide +kernel
 ·simp only [List.mem_cons, List.not_mem_nil, or_false, Prod.mk.injEq]
  show (y = xR2 ∧ c = 1 ∨ y = xS1 ∧ c = 1) ↔ (c = 1 ∧ (y = xR2 ∨ y = xS1) ∧ ¬ False) ∨ (c = -1 ∧ False ∧ ¬ (y = xR2 ∨ y = xS1))
  constructor
  ·rintro (⟨rfl, rfl⟩ | ⟨rfl, rfl⟩)
   ·exact .inl ⟨rfl, .inl rfl, id⟩
   ·exact .inl ⟨rfl, .inr rfl, id⟩
  ·rintro (⟨rfl, h1, h2⟩ | ⟨rfl, h1, h2⟩)
   ·exact h1.imp (fun e => ⟨e, rfl⟩) fun e => ⟨e, rfl⟩
   ·exact h1.elim
theorem exRows : Rise [[vN 1], [vN 2]] := by
 unfold Rise
 simp only [List.pairwise_cons, List.mem_cons, List.not_mem_nil, or_false, forall_eq, List.Pairwise.nil, and_true, false_implies, implies_true]
 decide +kernel
/-- a log whose states are known -/
structure LE (o : Own_) (A H : Heap) (x : Nat) (n N : Nat) : Prop where
 g : ∃ a, LG o A H x a n N ∧ ∀ i, i ≤ n → a i = exA i
theorem LE.up (h : LE o A H x n N) (hle : H.le H2) : LE o A H2 x n N := by
 obtain ⟨a, h1, h2⟩ := h.g
 exact ⟨a, h1.up hle, h2⟩
theorem LE.put (hFm : FmtC C) {y : NR} {K : Bool → Int → Heap → Prop} (h : LE o A H x n N) (hn : n ≤ 10) (hle : H.le E) (hv : VRow (Heap.new H E) t y.2) (hr : inR y.2) (hnm : y.1.length ≤ 1000000) (hno : ¬ exA n y) (hS : putS (exA n) y = exA (n + 1))
 (k : ∀ o2 A2 H2, Mv o A E o2 A2 H2 → LE o2 A2 H2 x (n + 1) (N + 2) → K true 0 H2) : Qq C (some (x, 0)) ⟨y.1, t⟩ K E := by
 obtain ⟨a, h1, h2⟩ := h.g
 have hb := Qfx h1.oh hle
 have e := h2 n (Nat.le_refl _)
 refine QgO hFm (h1.up hle) (by omega) hb hv hr.tookR hnm (fun hm => by rw [hr.m] at hm; cases hm) (fun _ hc => by rw [e] at hc; exact absurd hc hno) fun _ _ o2 A2 H2 m1 l1 => k o2 A2 H2 m1 ⟨_, l1, fun i hi => ?_⟩
 by_cases hin : i ≤ n
 ·rw [QdL hin]; exact h2 i hin
 ·have : i = n + 1 := by omega
  subst this
  rw [Qc2, e]; exact hS
theorem LE.put0 (hFm : FmtC C) {y : NR} {K : Bool → Int → Heap → Prop} (h : LE o A H x n N) (hn : n ≤ 10) (hle : H.le E) (hv : VRow (Heap.new H E) t y.2) (hr : inR y.2) (hnm : y.1.length ≤ 1000000) (hyes : exA n y)
 (k : ∀ H2, E.le H2 → LE o A H2 x n N → K false 0 H2) : Qq C (some (x, 0)) ⟨y.1, t⟩ K E := by
 obtain ⟨a, h1, h2⟩ := h.g
 have hb := Qfx h1.oh hle
 have e := h2 n (Nat.le_refl _)
 exact QgO hFm (h1.up hle) (by omega) hb hv hr.tookR hnm (fun hm => by rw [hr.m] at hm; cases hm) (fun _ hc H2 hl => k H2 hl ⟨a, h1.up (hle.trans hl), h2⟩) fun _ hc => absurd (by rw [e]; exact hyes) hc
theorem LE.del (hFm : FmtC C) {y : NR} {K : Bool → Int → Heap → Prop} (h : LE o A H x n N) (hn : n ≤ 10) (hle : H.le E) (hv : VRow (Heap.new H E) t y.2) (hr : inR y.2) (hyes : exA n y) (hS : Qeg (exA n) y = exA (n + 1))
 (k : ∀ o2 A2 H2, Mv o A E o2 A2 H2 → LE o2 A2 H2 x (n + 1) (N + 2) → K true 0 H2) : QV C (some (x, 0)) ⟨y.1, t⟩ K E := by
 obtain ⟨a, h1, h2⟩ := h.g
 have hb := Qfx h1.oh hle
 have e := h2 n (Nat.le_refl _)
 refine Qid hFm (h1.up hle) (by omega) hb hv hr.tookR (fun hm => by rw [hr.m] at hm; cases hm) (fun _ hc => absurd (by rw [e]; exact hyes) hc) fun _ _ o2 A2 H2 m1 l1 => k o2 A2 H2 m1 ⟨_, l1, fun i hi => ?_⟩
 by_cases hin : i ≤ n
 ·rw [QdL hin]; exact h2 i hin
 ·have : i = n + 1 := by omega
  subst this
  rw [Qc2, e]; exact hS
theorem LE.has (hFm : FmtC C) {y : NR} {K : Bool → Heap → Prop} (h : LE o A H x n N) (hle : H.le E) (hv : VRow (Heap.new H E) t y.2) (hr : okR y.2)
 (k : ∀ b H2, E.le H2 → (b = true ↔ exA n y) → K b H2) : QaU C (some (x, 0)) ⟨y.1, t⟩ K E := by
 obtain ⟨a, h1, h2⟩ := h.g
 have hb := Qfx h1.oh hle
 refine Qkd hFm (h1.up hle) hb hv hr fun b H2 hl hiff => k b H2 hl ?_
 rw [hiff, h2 n (Nat.le_refl _)]
theorem LE.since {j : Nat} {K : Sl → Int → Heap → Prop} (h : LE o A H x n N) (hn : n ≤ 10) (hj : j ≤ n) {D : List Cg} (hD : IsD (exA j) (exA n) D)
 (k : ∀ s H2, H.le H2 → NChs (Heap.new H H2) s D → K s 0 H2) : QR C (some (x, 0)) (j : Int) K H := by
 obtain ⟨a, h1, h2⟩ := h.g
 refine Qgn h1 (by omega) (fun hc => absurd ⟨by omega, by omega⟩ hc) fun s ws H2 _ _ hS hl => k s H2 hS.og.own.le ?_
 have := hS.chs (by omega)
 have hi := hS.isd
 rw [show (j : Int).toNat = j by omega, h2 j hj, h2 n (Nat.le_refl _)] at hi
 rw [hi.uniq hD] at this
 exact this
theorem QhB (hFm : FmtC C) {K : Bool → Heap → Prop} (k : ∀ H2, H.le H2 → K true H2) : QbM C K H := by
 apply QfT
 unfold QdS
 refine Qie fun x o H2 hle0 hno h0 => ?_
 have e0 : LE o (fun _ => none) H2 x 0 0 := ⟨_, h0, fun i hi => by rw [Nat.le_zero.1 hi]; rfl⟩
 have bs0 : Bs o H H2 := ⟨hle0, fun c w hw => hno c w hw⟩
 refine Qdn fun t1 E1 l1 r1 => LE.put hFm (y := xR1) e0 (by omega) l1 r1 inn1 (by decide) (fun h => h) exA1 fun o1 A1 H1 m1 e1 => ?_
 have bs1 := (bs0.up l1).mv m1
 refine Qdn fun t2 E2 l2 r2 => LE.put hFm (y := xR2) e1 (by omega) l2 r2 inn2 (by decide) (fun h => x12 h.symm) exA2 fun o2 A2 H2 m2 e2 => ?_
 have bs2 := (bs1.up l2).mv m2
 refine Qdn fun t3 E3 l3 r3 => LE.put0 hFm (y := xR1) e2 (by omega) l3 r3 inn1 (by decide) (.inl rfl) fun H3 l3' e3 => ?_
 have bs3 := (bs2.up l3).up l3'
 refine Qdn fun t4 E4 l4 r4 => LE.del hFm (y := xR1) e3 (by omega) l4 r4 inn1 (.inl rfl) exA3 fun o4 A4 H4 m4 e4 => ?_
 have bs4 := (bs3.up l4).mv m4
 refine Qdn fun t5 E5 l5 r5 => LE.put hFm (y := xS1) e4 (by omega) l5 r5 inn1 (by decide) (fun h => x2s h.symm) exA4 fun o5 A5 H5 m5 e5 => ?_
 have bs5 := (bs4.up l5).mv m5
 refine LE.since (j := 2) e5 (by omega) (by omega) exD2 fun s6 H6 l6 c6 => ?_
 have e6 := e5.up l6
 refine LE.since (j := 0) e6 (by omega) (by omega) exD0 fun s7 H7 l7 c7 => ?_
 have e7 := e6.up l7
 have bs7 := (bs5.up l6).up l7
 refine jn.inl (Qi rfl ?_)
 obtain ⟨a7, g7, ha7⟩ := e7.g
 refine Qfc g7 (Qi rfl ?_)
 refine Qdn fun t8 E8 l8 r8 => Qdn fun t9 E9 l9 r9 => ?_
 intro b10 n10
 have l10 := Heap.le_put n10 (g := .row (Qb.c (⟨⟨[114], t8⟩, -1⟩ : Qb) ++ Qb.c (⟨⟨[115], t9⟩, 1⟩ : Qb) ++ [])) (m := true)
 have c10 : NChs (Heap.new H7 (E9.put b10 (.row (Qb.c (⟨⟨[114], t8⟩, -1⟩ : Qb) ++ Qb.c (⟨⟨[115], t9⟩, 1⟩ : Qb) ++ [])))) (Sl.of (some (b10, 0)) 2 2) [(xR1, -1), (xS1, 1)] := by
  refine ⟨[⟨⟨[114], t8⟩, -1⟩, ⟨⟨[115], t9⟩, 1⟩], .inr ⟨rfl, (b10, 0), rfl, ?_⟩, rfl, rfl, by decide, fun i v y hv hy => ?_⟩
  ·refine Qb2 (m := true) (Heap.new_some (Heap.put_same ..) ((l8.trans l9).none n10)) fun j v hj => ?_
   rw [Nat.zero_add]; exact hj
  ·match i with
   | 0 => simp at hv hy; subst hv; subst hy; exact ⟨rfl, r8.le (QbP (Heap.le.refl _) (l9.trans l10)), rfl⟩
   | 1 => simp at hv hy; subst hv; subst hy; exact ⟨rfl, r9.le (QbP l8 l10), rfl⟩
   | i + 2 => simp at hv
 have hle7 := l8.trans (l9.trans l10)
 generalize E9.put b10 (.row (Qb.c (⟨⟨[114], t8⟩, -1⟩ : Qb) ++ Qb.c (⟨⟨[115], t9⟩, 1⟩ : Qb) ++ [])) = E10 at *
 refine Qf5 c6 c10 ((Heap.new_le _ _).trans (l7.trans hle7)) (Heap.new_le _ _) (fun z hz => ?_) ?_
 ·simp only [List.mem_cons, List.not_mem_nil, or_false] at hz
  rcases hz with rfl | rfl
  ·exact ⟨okn1.b, by simp⟩
  ·exact ⟨okn1.b, by simp⟩
 refine jn.inl (Qi rfl ?_)
 refine Qdn fun t11 E11 l11 r11 => Qdn fun t12 E12 l12 r12 => ?_
 intro b13 n13
 have l13 := Heap.le_put n13 (g := .row (Qb.c (⟨⟨[114], t11⟩, 1⟩ : Qb) ++ Qb.c (⟨⟨[115], t12⟩, 1⟩ : Qb) ++ [])) (m := true)
 have c13 : NChs (Heap.new E10 (E12.put b13 (.row (Qb.c (⟨⟨[114], t11⟩, 1⟩ : Qb) ++ Qb.c (⟨⟨[115], t12⟩, 1⟩ : Qb) ++ [])))) (Sl.of (some (b13, 0)) 2 2) [(xR2, 1), (xS1, 1)] := by
  refine ⟨[⟨⟨[114], t11⟩, 1⟩, ⟨⟨[115], t12⟩, 1⟩], .inr ⟨rfl, (b13, 0), rfl, ?_⟩, rfl, rfl, by decide, fun i v y hv hy => ?_⟩
  ·refine Qb2 (m := true) (Heap.new_some (Heap.put_same ..) ((l11.trans l12).none n13)) fun j v hj => ?_
   rw [Nat.zero_add]; exact hj
  ·match i with
   | 0 => simp at hv hy; subst hv; subst hy; exact ⟨rfl, r11.le (QbP (Heap.le.refl _) (l12.trans l13)), rfl⟩
   | 1 => simp at hv hy; subst hv; subst hy; exact ⟨rfl, r12.le (QbP l11 l13), rfl⟩
   | i + 2 => simp at hv
 have hle10 := l11.trans (l12.trans l13)
 generalize E12.put b13 (.row (Qb.c (⟨⟨[114], t11⟩, 1⟩ : Qb) ++ Qb.c (⟨⟨[115], t12⟩, 1⟩ : Qb) ++ [])) = E13 at *
 refine Qf5 c7 c13 ((Heap.new_le _ _).trans (hle7.trans hle10)) (Heap.new_le _ _) (fun z hz => ?_) ?_
 ·simp only [List.mem_cons, List.not_mem_nil, or_false] at hz
  rcases hz with rfl | rfl
  ·exact ⟨okn2.b, by simp⟩
  ·exact ⟨okn1.b, by simp⟩
 refine Qi rfl ?_
 have g13 := g7.up (hle7.trans hle10)
 refine Qic (jj := 2) g13 (by omega) (fun hc => absurd ⟨by omega, by omega⟩ hc) fun _ _ o14 H14 m14 g14 => ?_
 have bs14 := (bs7.up (hle7.trans hle10)).mv m14
 have e14 : LE o14 A5 H14 x 2 20 := ⟨a7, g14.more (by decide), fun i hi => ha7 i (by omega)⟩
 refine jn.inl (QA rfl ?_)
 obtain ⟨a14, gg, ha14⟩ := e14.g
 refine Qif gg (by omega) fun T sT ys H15 hT _ => ?_
 have hTe : T = [[vN 1], [vN 2]] := QhT hT.rise exRows fun r => by
  rw [hT.mem, ha14 2 (Nat.le_refl _)]
  show (([114], r) = xR1 ∨ ([114], r) = xR2) ↔ _
  simp
 have hTl := hT.rows.len
 rw [hTe] at hTl
 rw [hTl]
 refine jn.inl (QA rfl ?_)
 have l15 := hT.og.own.le
 refine Qhz (gg.up l15) (by omega) fun W sW H16 hW _ => ?_
 have hWe : W = [[114]] := Qfo (P := fun _ => True) Lin.txt hW.rise (List.pairwise_singleton _ _) (fun _ _ => trivial) fun y => by
  rw [hW.mem, ha14 2 (Nat.le_refl _)]
  show (∃ r, (y, r) = xR1 ∨ (y, r) = xR2) ↔ _
  simp only [Prod.mk.injEq, List.mem_singleton]
  exact ⟨fun ⟨r, h⟩ => h.elim (fun h => h.1) fun h => h.1, fun h => ⟨[vN 1], .inl ⟨h, rfl⟩⟩⟩
 have hWl := hW.own.own.1
 rw [hWe] at hWl
 have hWl : sW.len = 1 := by simpa using hWl.symm
 rw [hWl]
 refine jn.inl (QA rfl ?_)
 have l16 := hW.own.le
 have e16 := (e14.up l15).up l16
 refine Qdn fun t17 E17 l17 r17 => LE.has hFm (y := xR1) e16 l17 r17 okn1 fun b H18 l18 hb18 => ?_
 rw [hb18.2 (.inl rfl)]
 refine jn.inl (QA rfl ?_)
 have e18 := (e16.up l17).up l18
 refine Qdn fun t19 E19 l19 r19 => LE.has hFm (y := xS1) e18 l19 r19 okn1 fun b H20 l20 hb20 => ?_
 have : b = false := by
  cases b with
  | false => rfl
  | true => exact ((hb20.1 rfl).elim (fun h => x1s h.symm) fun h => x2s h.symm).elim
 subst this
 refine jn.inl (QA rfl ?_)
 have e20 := (e18.up l19).up l20
 obtain ⟨a20, g20, _⟩ := e20.g
 refine Qfc g20 ?_
 have := (((((bs14.up l15).up l16).up l17).up l18).up l19).up l20
 exact k H20 this.le
end
end
section
open Go Go.Proofs
section
variable {C : Ctx} {o o2 : Own_} {A B H H2 E : Heap} {x n N : Nat} {s s2 t : Sl} {S S0 : Sta} {a : Nat → Sta} {l l2 : List OpV} {W : List NR}
theorem QjL (hFm : FmtC C) {K : Heap → Prop} (h : LG o A H x a n N) (hb : Bs o B H) (hs : Ops B s l) (hf : FewOp l) (hn : n + l.length ≤ 1000)
 (k : ∀ o2 A2 D a2 n2 N2, Mv o A H o2 A2 D → LG o2 A2 D x a2 n2 N2 → Stp a n a2 n2 → n2 ≤ n + l.length → N2 ≤ N + 2 * l.length → K D) :
 lp (α := Int) 0 H (fun x22 J23 H24 => ift (decide ((x22 : Int) < (Sl.len s : Int)))
  (ixa s x22 fun p26 => ldT H24 Qm.c (p26.1, p26.2 + (x22 : Int).toNat * 4) fun x31 => Qbr C (some (x, 0)) x31 (fun H33 => J23 (w .i64 (x22 + 1)) H33) H24) (K H24)) := by
 have hlen := SlIs.len hs
 have hfl := hf.len
 refine ⟨fun y D => ∃ (i : Nat) (o2 : Own_) (A2 : Heap) (a2 : Nat → Sta) (n2 N2 : Nat), y = (i : Int) ∧ i ≤ l.length ∧ Mv o A H o2 A2 D ∧ LG o2 A2 D x a2 n2 N2 ∧ Stp a n a2 n2 ∧ n2 ≤ n + i ∧ N2 ≤ N + 2 * i, fun y _ => l.length - y.toNat, ⟨0, o, A, a, n, N, rfl, Nat.zero_le _, Mv.of_le (Heap.le.refl _), h, Stp.refl, by omega, by omega⟩, ?_⟩
 rintro _ D ⟨i, o2, A2, a2, n2, N2, rfl, hi, hm, hL, hst, hn2, hN2⟩
 rw [hlen]
 refine ift.of (fun hlt => ?_) fun hge => ?_
 ·have hil : i < l.length := by have := of_decide_eq_true hlt; omega
  have hb2 := hb.mv hm
  refine SlIs.ld hs hb2.le (z := 4) (fun _ => rfl) (by omega) rfl hil fun y hy => ?_
  obtain ⟨q1, q2⟩ := hf.op _ (List.getElem_mem hil)
  refine QjZ hFm hL (by omega) hb2 hy q1 q2 fun o3 A3 D3 a3 n3 N3 m3 l3 s3 r1 r2 => ?_
  rw [Qaq (by omega) (by omega)]
  exact ⟨⟨i + 1, o3, A3, a3, n3, N3, by omega, by omega, hm.trans m3, l3, hst.trans s3, by omega, by omega⟩, by first | omega | (dsimp only; omega)⟩
 ·have hie : i = l.length := by have := of_decide_eq_false hge; omega
  subst hie
  exact k o2 A2 D a2 n2 N2 hm hL hst hn2 hN2
theorem IsW.bds {n : Nat} (h : IsW S W) (hF : FineS S) : ∀ z ∈ W, VBs z.2 ∧ z.2.length ≤ 140737488355328 := fun z hz => by
 have := hF z ((h.mem z).1 hz)
 exact ⟨this.b, by have := this.tookR.len; omega⟩
end
end
section
open Go Go.Proofs
section
variable {C : Ctx} {o o2 o' : Own_} {A A' B H H2 E : Heap} {x y n N n' N' : Nat} {s s2 t u : Sl} {S S0 : Sta} {a a' : Nat → Sta} {l l2 : List OpV} {W : List NR} {D : List Cg}
/-- as many rows as things were done -/
theorem LG.few (h : LG o A H x a n N) (h0 : a 0 = noS) : ∀ i, i ≤ n → ∃ L : List NR, (∀ z, a i z → z ∈ L) ∧ L.length ≤ i
 | 0, _ => ⟨[], fun z hz => by rw [h0] at hz; exact hz.elim, Nat.le_refl _⟩
 | i + 1, hi => by
  obtain ⟨L, h1, h2⟩ := h.few h0 i (by omega)
  obtain ⟨⟨m, s, T, _, _, p3, p4⟩, _, _⟩ := h
  have hT : T[i]? = some (T[i]'(by omega)) := List.getElem?_eq_getElem _
  have hst := p4 i _ hT
  generalize T[i] = t at hst
  obtain ⟨b, z⟩ := t
  cases b with
  | true =>
   obtain ⟨_, e⟩ := QgK.1 hst
   refine ⟨L ++ [z], fun w hw => ?_, by simp; omega⟩
   rw [e] at hw
   exact hw.elim (fun hw => List.mem_append_left _ (h1 w hw)) fun hw => by rw [hw]; simp
  | false =>
   obtain ⟨_, e⟩ := QgJ.1 hst
   refine ⟨L, fun w hw => ?_, by omega⟩
   rw [e] at hw
   exact h1 w hw.1
theorem QiD {α : Type} {l m : List α} (hn : l.Nodup) (hs : ∀ p ∈ l, p ∈ m) : l.length ≤ m.length := by
 induction l generalizing m with
 | nil => simp
 | cons a l ih =>
  have h1 := List.nodup_cons.1 hn
  obtain ⟨p, q, e⟩ := List.append_of_mem (hs a (List.mem_cons_self ..))
  have := ih (m := p ++ q) h1.2 fun z hz => by
   have hz2 := hs z (List.mem_cons_of_mem _ hz)
   rw [e] at hz2
   rcases List.mem_append.1 hz2 with h | h
   ·exact List.mem_append_left _ h
   ·rcases List.mem_cons.1 h with h | h
    ·rw [h] at hz; exact absurd hz h1.1
    ·exact List.mem_append_right _ h
  rw [e]
  simp only [List.length_append, List.length_cons] at this ⊢
  omega
theorem LG.len (h : LG o A H x a n N) (h0 : a 0 = noS) {i : Nat} (hi : i ≤ n) (hW : IsW (a i) W) : W.length ≤ i := by
 obtain ⟨L, h1, h2⟩ := h.few h0 i hi
 have := QiD hW.rise.nodup fun z hz => h1 z ((hW.mem z).1 hz)
 omega
/-- two logs, and what is read beside them -/
structure Two (o : Own_) (A : Heap) (x : Nat) (a : Nat → Sta) (n N : Nat) (B : Heap) (o' : Own_) (A' : Heap) (y : Nat) (a' : Nat → Sta) (n' N' : Nat) (H : Heap) : Prop where
 l : LG o A H x a n N
 r : LG o' A' H y a' n' N'
 d : Dj o' A' o A
 b : Bs o B H
 b' : Bs o' B H
theorem Two.up (h : Two o A x a n N B o' A' y a' n' N' H) (hle : H.le H2) : Two o A x a n N B o' A' y a' n' N' H2 := ⟨h.l.up hle, h.r.up hle, h.d, h.b.up hle, h.b'.up hle⟩
theorem Two.mv {o3 : Own_} {A3 : Heap} {a3 : Nat → Sta} {n3 N3 : Nat} (h : Two o A x a n N B o' A' y a' n' N' H) (hm : Mv o' A' H o3 A3 H2) (hl : LG o3 A3 H2 y a3 n3 N3) : Two o A x a n N B o3 A3 y a3 n3 N3 H2 := by
 obtain ⟨q1, q2⟩ := h.l.other hm h.d
 have hb := h.b'.mv hm
 exact ⟨q1, hl, q2, ⟨hb.le, h.b.ap⟩, hb⟩
/-- rows are put, one by one -/
theorem Qj6 (hFm : FmtC C) {K : Heap → Prop} (h : Two o A x a n N B o' A' y a' 0 0 H) (h0 : a' 0 = noS) (hs : NRows B s W) (hW : RiseN W) (hok : ∀ z ∈ W, inR z.2 ∧ z.1.length ≤ 1000000) (hl : W.length ≤ 1000)
 (k : ∀ o2 A2 D a2, Two o A x a n N B o2 A2 y a2 W.length (2 * W.length) D → a2 W.length = (fun z => z ∈ W) → H.le H → K D) :
 lp (α := Int) 0 H (fun x65 J66 H67 =>
 ift (decide ((x65 : Int) < (Sl.len s : Int)))
 (ixa s x65 fun p69 =>
 ldT H67 Qc.c (p69.1, p69.2 + (x65 : Int).toNat * 2) fun x74 =>
 Qq C (some (y, 0)) x74 (fun r76 r77 H78 =>
 J66 (w .i64 (x65 + 1)) H78) H67) (K H67)) := by
  have hlen := SlIs.len hs
  refine ⟨fun q D => ∃ (i : Nat) (o2 : Own_) (A2 : Heap) (a2 : Nat → Sta), q = (i : Int) ∧ i ≤ W.length ∧ Two o A x a n N B o2 A2 y a2 i (2 * i) D ∧ a2 i = (fun z => z ∈ W.take i), fun q _ => W.length - q.toNat, ⟨0, o', A', a', rfl, Nat.zero_le _, h, by rw [h0]; funext z; simp [noS]⟩, ?_⟩
  rintro _ D ⟨i, o2, A2, a2, rfl, hi, hT, hS⟩
  rw [hlen]
  refine ift.of (fun hlt => ?_) fun hge => ?_
  ·have hil : i < W.length := by have := of_decide_eq_true hlt; omega
   refine SlIs.ld hs hT.b'.le (z := 2) (fun _ => rfl) (by omega) rfl hil fun v hv => ?_
   obtain ⟨h1, h2⟩ := hok _ (List.getElem_mem hil)
   have hvr : v = ⟨W[i].1, v.L⟩ := by obtain ⟨r, q⟩ := v; have := hv.1; dsimp only at this; subst this; rfl
   rw [hvr]
   have hnot : ¬ a2 i W[i] := by
    rw [hS]
    intro hm
    have hn := hW.nodup
    obtain ⟨j, hj, e⟩ := List.getElem_of_mem hm
    rw [List.getElem_take] at e
    rw [List.length_take] at hj
    exact List.pairwise_iff_getElem.1 hn j i (by omega) hil (by omega) e
   refine QgO hFm hT.r (by omega) hT.b' hv.2 h1.tookR h2 (fun hm => by rw [h1.m] at hm; cases hm) (fun _ hc => absurd hc hnot) fun _ _ o3 A3 D3 m3 l3 => ?_
   rw [Qaq (by omega) (by omega)]
   refine ⟨⟨i + 1, o3, A3, _, by omega, by omega, hT.mv m3 (l3.more (by omega)), ?_⟩, by first | omega | (dsimp only; omega)⟩
   rw [Qc2, hS, List.take_add_one, List.getElem?_eq_getElem hil]
   funext z
   refine propext ⟨fun hz => ?_, fun hz => ?_⟩
   ·exact hz.elim (fun hz => List.mem_append_left _ hz) fun hz => List.mem_append_right _ (by rw [hz]; simp)
   ·rcases List.mem_append.1 hz with hz | hz
    ·exact .inl hz
    ·exact .inr (by simpa using hz)
  ·have hie : i = W.length := by have := of_decide_eq_false hge; omega
   subst hie
   rw [List.take_length] at hS
   exact k o2 A2 D a2 hT hS (Heap.le.refl _)
/-- changes are done -/
theorem QjX (hFm : FmtC C) {K : Heap → Prop} (h : Two o A x a n N B o' A' y a' n' N' H) (h0 : a' n' = S0) (hs : NChs B s D) (hD : IsD S0 S D) (hok : ∀ z ∈ D, inR z.1.2 ∧ z.1.1.length ≤ 1000000) (hl : n' + D.length ≤ 2000)
 (k : ∀ o2 A2 E a2, Two o A x a n N B o2 A2 y a2 (n' + D.length) (N' + 2 * D.length) E → a2 (n' + D.length) = S → K E) {Kf : Heap → Prop} :
 lp (α := Int) 0 H (fun x79 J80 H81 =>
 ift (decide ((x79 : Int) < (Sl.len s : Int)))
 (jn (α := Int × Bool) (fun x84 H85 =>
 ift ((!x84.2) || ((x84.1 : Int) != 0))
 (Kf H85)
 (J80 (w .i64 (x79 + 1)) H85))
 (fun J83 => ixa s x79 fun p87 =>
 ldI H81 .i64 ((p87.1, p87.2 + (x79 : Int).toNat * 3).1, (p87.1, p87.2 + (x79 : Int).toNat * 3).2 + 2) fun x92 =>
 ift ((x92 : Int) == 1)
 (ixa s x79 fun p95 =>
 ldT H81 Qc.c ((p95.1, p95.2 + (x79 : Int).toNat * 3).1, (p95.1, p95.2 + (x79 : Int).toNat * 3).2 + 0) fun x100 =>
 Qq C (some (y, 0)) x100 (fun r102 r103 H104 =>
 J83 (r103, r102) H104) H81)
 (ixa s x79 fun p105 =>
 ldT H81 Qc.c ((p105.1, p105.2 + (x79 : Int).toNat * 3).1, (p105.1, p105.2 + (x79 : Int).toNat * 3).2 + 0) fun x110 =>
 QV C (some (y, 0)) x110 (fun r112 r113 H114 =>
 J83 (r113, r112) H114) H81)))
 (K H81)) := by
  have hlen := SlIs.len hs
  refine ⟨fun q E => ∃ (i : Nat) (o2 : Own_) (A2 : Heap) (a2 : Nat → Sta), q = (i : Int) ∧ i ≤ D.length ∧ Two o A x a n N B o2 A2 y a2 (n' + i) (N' + 2 * i) E ∧ a2 (n' + i) = upto S0 S D i, fun q _ => D.length - q.toNat, ⟨0, o', A', a', rfl, Nat.zero_le _, h, by rw [Qi7]; exact h0⟩, ?_⟩
  rintro _ E ⟨i, o2, A2, a2, rfl, hi, hT, hS⟩
  rw [hlen]
  refine ift.of (fun hlt => ?_) fun hge => ?_
  ·have hil : i < D.length := by have := of_decide_eq_true hlt; omega
   refine ⟨fun q E2 => q = (0, true) ∧ ∃ o3 A3 a3, Two o A x a n N B o3 A3 y a3 (n' + (i + 1)) (N' + 2 * (i + 1)) E2 ∧ a3 (n' + (i + 1)) = upto S0 S D (i + 1), ?_, ?_⟩
   ·refine SlIs.fI hs hT.b'.le (z := 3) (fun _ => rfl) (by omega) rfl hil (j := 2) (q := .i64) (f := fun x => x.N) (fun _ => rfl) fun v hv => ?_
    rw [hv.2.2]
    obtain ⟨h1, h2⟩ := hok _ (List.getElem_mem hil)
    have hget : D[i]? = some (D[i].1, D[i].2) := List.getElem?_eq_getElem hil
    have hrow : ∀ {K' : Qc → Prop}, (∀ t, VRow B t D[i].1.2 → K' ⟨D[i].1.1, t⟩) → ixa s (i : Int) fun p95 => ldT E Qc.c ((p95.1, p95.2 + (i : Int).toNat * 3).1, (p95.1, p95.2 + (i : Int).toNat * 3).2 + 0) K' := fun {K'} hk => by
     refine SlIs.fT hs hT.b'.le (z := 3) (fun _ => rfl) (by omega) rfl hil (j := 0) (d := Qc.c) (f := fun x => x.Row) (fun y m v hm => ?_) fun v hv => ?_
     ·match m with
      | 0 => exact hm
      | 1 => exact hm
      | m + 2 => simp [Qc.c] at hm
     ·have hvr : v.Row = ⟨D[i].1.1, v.Row.L⟩ := by have := hv.1; cases hv' : v.Row; rw [hv'] at this; simp at this; subst this; rfl
      rw [hvr]; exact hk _ hv.2.1
    rcases Qi6 hD hget with ⟨e1, e2, e3⟩ | ⟨e1, e2, e3⟩
    ·rw [e1]
     refine QA rfl (hrow fun t ht => ?_)
     refine QgO hFm hT.r (by omega) hT.b' ht h1.tookR h2 (fun hm => by rw [h1.m] at hm; cases hm) (fun _ hc => absurd (by rw [hS] at hc; exact hc) e2) fun _ _ o3 A3 D3 m3 l3 => ?_
     refine ⟨rfl, o3, A3, _, hT.mv m3 (l3.more (by omega)), ?_⟩
     show ext a2 (n' + i) _ (n' + i + 1) = _
     rw [Qc2, hS, e3]
    ·rw [e1]
     refine Qi rfl (hrow fun t ht => ?_)
     refine Qid hFm hT.r (by omega) hT.b' ht h1.tookR (fun hm => by rw [h1.m] at hm; cases hm) (fun _ hc => absurd (by rw [hS]; exact e2) hc) fun _ _ o3 A3 D3 m3 l3 => ?_
     refine ⟨rfl, o3, A3, _, hT.mv m3 (l3.more (by omega)), ?_⟩
     show ext a2 (n' + i) _ (n' + i + 1) = _
     rw [Qc2, hS, e3]
   ·rintro _ E2 ⟨rfl, o3, A3, a3, q1, q2⟩
    refine Qi rfl ?_
    rw [Qaq (by omega) (by omega)]
    exact ⟨⟨i + 1, o3, A3, a3, by omega, by omega, q1, q2⟩, by first | omega | (dsimp only; omega)⟩
  ·have hie : i = D.length := by have := of_decide_eq_false hge; omega
   subst hie
   rw [QjG hD] at hS
   exact k o2 A2 E a2 hT hS
theorem Qhm (hFm : FmtC C) {K : Bool → Heap → Prop} (hs : Ops H s l) (hs2 : Ops H s2 l2) (hB : ∀ o ∈ l, InOp o) (hB2 : ∀ o ∈ l2, InOp o) (k : ∀ H2, K true H2) : QF C s s2 K H := by
 apply Qez
 unfold QcD
 refine QhJ hs hB fun b1 hb1 => ?_
 refine ⟨fun b D => D = H ∧ (b = false → FewOp l ∧ FewOp l2), ?_, ?_⟩
 ·refine ift.of (fun h => ⟨rfl, fun e => by cases e⟩) fun h => ?_
  exact QhJ hs2 hB2 fun b2 hb2 => ⟨rfl, fun e => ⟨hb1 h, hb2 e⟩⟩
 rintro b3 D ⟨rfl, hb3⟩
 refine ⟨fun b E => D.le E ∧ (b = false → FewOp l ∧ FewOp l2), ?_, ?_⟩
 ·refine ift.of (fun h => ⟨Heap.le.refl _, fun e => by cases e⟩) fun h => ?_
  exact QhB hFm fun H2 l2 => ⟨l2, fun _ => hb3 h⟩
 rintro b10 E ⟨hDE, hb10⟩
 refine ift.of (fun h => QhB hFm fun H2 _ => k H2) fun h => ?_
 obtain ⟨f1, f2⟩ := hb10 h
 have hl1 := f1.len
 have hl2 := f2.len
 refine Qie fun x o H2 hle0 hno h0 => ?_
 have bs0 : Bs o E H2 := ⟨hle0, fun c w hw => hno c w hw⟩
 have hsE := hs.le hDE
 have hs2E := hs2.le hDE
 refine QjL hFm h0 bs0 hsE f1 (by omega) fun o1 A1 E1 a1 n1 N1 m1 g1 st1 r1 r2 => ?_
 have bs1 := bs0.mv m1
 have ha10 : a1 0 = noS := st1.old 0 (Nat.le_refl _)
 refine QhA g1 (by omega) fun W sW E2 l2' hW iW => ?_
 have g2 := g1.up l2'
 have bs2 := bs1.up l2'
 have bw2 := Qfx g1.oh l2'
 have hWl := g1.len ha10 (Nat.le_refl _) iW
 refine Qfc g2 ?_
 refine QjL hFm g2 bs2 hs2E f2 (by omega) fun o5 A5 E5 a5 n5 N5 m5 g5 st5 r3 r4 => ?_
 have bw5 := bw2.mv m5
 have he1 : a5 n1 = a1 n1 := st5.old n1 (Nat.le_refl _)
 have hn15 := st5.le
 have ha50 : a5 0 = noS := by rw [st5.old 0 (Nat.zero_le _)]; exact ha10
 refine QhA g5 (by omega) fun W1 sW1 E6 l6 hW1 iW1 => ?_
 have g6 := g5.up l6
 have bw6 := bw5.up l6
 have bn6 := Qfx g5.oh l6
 refine Qgn (jj := (n1 : Int)) g6 (by omega) (fun hc => absurd ⟨by omega, by omega⟩ hc) fun sD ws E7 _ _ hD hDl => ?_
 have en1 : (n1 : Int).toNat = n1 := by omega
 rw [en1] at hD hDl
 have l7 := hD.og.own.le
 have g7 := g6.up l7
 have bw7 := bw6.up l7
 have bn7 := bn6.up l7
 have bd7 := Qfx g6.oh l7
 have hDs := hD.chs (by omega)
 have hDi := hD.isd
 have hDlen : sD.len = ws.length := by have := hD.og.own.own.1; rw [Qe9] at this; omega
 have hwl : (ws.map fun z => (z.2, z.1.N)).length = ws.length := by simp
 generalize hDD : (ws.map fun z => (z.2, z.1.N)) = Dl at *
 refine ⟨fun b E8 => E8 = E7 ∧ b = false, ?_, ?_⟩
 ·refine Qi rfl ?_
  refine Qfc g7 ⟨rfl, ?_⟩
  rw [Qaq (by omega) (by omega)]
  exact decide_eq_false (by omega)
 rintro _ E8 ⟨rfl, rfl⟩
 refine Qi rfl ?_
 -- all that is read beside the logs
 have tW := bw7.to
 have tN := bn7.to
 have tD := bd7.to
 have bB : Bs o5 (Heap.wo_ o5 E8) E8 := Bs.wo
 have hW' : NRows (Heap.wo_ o5 E8) sW W := hW.le tW
 have hW1' : NRows (Heap.wo_ o5 E8) sW1 W1 := hW1.le tN
 have hD' : NChs (Heap.wo_ o5 E8) sD Dl := hDs.le tD
 generalize Heap.wo_ o5 E8 = B at *
 refine Qie fun y o' E9 l9 hno9 g9 => ?_
 have two9 : Two o5 A5 x a5 n5 N5 B o' (fun _ => none) y (fun _ => noS) 0 0 E9 := by
  refine ⟨g7.up l9, g9, ⟨fun c w hw => ?_, fun c w hw => rfl⟩, bB.up l9, ⟨bB.le.trans l9, fun c w hw => bB.le.none (hno9 c w hw)⟩⟩
  have hc := hno9 c w hw
  refine ⟨?_, g7.oh.le.none hc⟩
  cases e : o5 c with
  | none => rfl
  | some w' => exact absurd hc (g7.oh.oh c w' e)
 have hF5 := g5.f n5 (Nat.le_refl _)
 have hF1 := g5.f n1 hn15
 have hN5 := g5.nm
 rw [← he1] at iW
 refine Qj6 hFm two9 rfl hW' iW.rise (fun z hz => ⟨hF1 z ((iW.mem z).1 hz), hN5 n1 hn15 z ((iW.mem z).1 hz)⟩) (by omega) fun o10 A10 E10 a10 t10 s10 _ => ?_
 have hS10 : a10 W.length = a5 n1 := by rw [s10]; funext z; exact propext (iW.mem z)
 refine QjX hFm t10 hS10 hD' hDi (fun z hz => ?_) (by omega) (fun o11 A11 E11 a11 t11 s11 => ?_)
 ·obtain ⟨zx, zn⟩ := z
  rcases (hDi.mem zx zn).1 hz with ⟨_, q1, _⟩ | ⟨_, q1, _⟩
  ·exact ⟨hF5 _ q1, hN5 n5 (Nat.le_refl _) _ q1⟩
  ·exact ⟨hF1 _ q1, hN5 n1 hn15 _ q1⟩
 refine QhA t11.r (by omega) fun W2 sW2 E12 l12 hW2 iW2 => ?_
 rw [s11] at iW2
 have := iW2.uniq iW1
 subst this
 have t12 := t11.up l12
 refine QgP hW2 hW1' (Heap.new_le _ _) t12.b.le (iW1.bds (n := 0) hF5) ?_
 have g12 := t12.l
 have bB12 := t12.b
 refine ⟨fun b E => b = false ∧ ∃ o2 N2, LG o2 A5 E x a5 n1 N2 ∧ N2 ≤ 4000 ∧ Bs o2 B E, ?_, ?_⟩
 ·refine Qi rfl ?_
  refine Qic (jj := (n1 : Int)) g12 (by omega) (fun hc => absurd ⟨by omega, by omega⟩ hc) fun _ _ o13 E13 m13 g13 => ?_
  rw [en1] at g13
  exact ⟨rfl, o13, _, g13, by omega, bB12.mv m13⟩
 rintro _ E13 ⟨rfl, o13, N13, g13, hN13, bB13⟩
 refine ⟨fun b E => b = false ∧ LG o13 A5 E x a5 n1 N13, ?_, ?_⟩
 ·refine Qi rfl ?_
  refine QhA g13 hN13 fun W3 sW3 E14 l14 hW3 iW3 => ?_
  have := iW3.uniq iW
  subst this
  exact QgP hW3 hW' (Heap.new_le _ _) (bB13.le.trans l14) (iW.bds (n := 0) hF1) ⟨rfl, g13.up l14⟩
 rintro _ E14 ⟨rfl, g14⟩
 refine ⟨fun b E => b = false ∧ LG o13 A5 E x a5 n1 N13, ?_, ?_⟩
 ·refine Qi rfl ?_
  exact Qfc g14 ⟨by simp, g14⟩
 rintro _ E15 ⟨rfl, g15⟩
 refine Qi rfl ?_
 refine Qgn (jj := (n1 : Int)) g15 (by omega) (fun hc => absurd ⟨by omega, by omega⟩ hc) fun sE wsE E16 _ _ hE hEl => ?_
 have hEs : sE.len = 0 := by have := hE.og.own.own.1; rw [Qe9] at this; omega
 rw [hEs]
 exact k E16
end
end
section
set_option maxRecDepth 100000
open Go Go.Proofs
def OpsIn (A : Heap) (s : Sl) (l : List OpV) : Prop := Ops A s l ∧ ∀ o ∈ l, InOp o
section
variable {P : Program} {W : World}
theorem Qkr {α β : Type} {R : α → β → Prop} {c : β → List Value} {t e : TypeId} {z n : Nat} {cs : List Value} (h : TrW P W n t cs) (ht : P.underlying t = some (.slice e)) (hz : P.cellsOf e = z) (hz0 : 0 < z) (hb : 1 ≤ P.bytesOf e)
 (ih : ∀ m, m < n → ∀ cs, TrW P W m e cs → ∃ (v : α) (x : β), cs = c x ∧ R v x) : ∃ (s : Sl) (l : List α), cs = [slv s] ∧ SlIs R c (heapOf W) s l ∧ ∀ v ∈ l, ∃ x, R v x := by
 obtain ⟨s, css, m, hm, h1, h2, h3, h4, h5, h6, h7⟩ := h.slice ht hz hz0
 have key : ∀ (css : List (List Value)), (∀ c' ∈ css, ∃ (v : α) (x : β), c' = c x ∧ R v x) → ∃ (l : List α) (xs : List β), css.flatten = xs.flatMap c ∧ css.length = xs.length ∧ l.length = xs.length ∧ (∀ (i : Nat) (v : α) (x : β), l[i]? = some v → xs[i]? = some x → R v x) ∧ ∀ v ∈ l, ∃ x, R v x := by
  intro css
  induction css with
  | nil => intro _; exact ⟨[], [], rfl, rfl, rfl, fun i v x hv => by simp at hv, fun v hv => by cases hv⟩
  | cons c' css ihc =>
   intro hh
   obtain ⟨v, x, g1, g2⟩ := hh c' (List.mem_cons_self ..)
   obtain ⟨l, xs, k1, k2, k3, k4, k5⟩ := ihc fun c' hc => hh c' (List.mem_cons_of_mem _ hc)
   refine ⟨v :: l, x :: xs, by rw [List.flatten_cons, List.flatMap_cons, k1, g1], by simp [k2], by simp [k3], fun i v' x' hv hx => ?_, fun v' hv => ?_⟩
   ·cases i with
    | zero => simp at hv hx; subst hv; subst hx; exact g2
    | succ i => exact k4 i v' x' (by simpa using hv) (by simpa using hx)
   ·rcases List.mem_cons.1 hv with rfl | hv
    ·exact ⟨x, g2⟩
    ·exact k5 v' hv
 obtain ⟨l, xs, k1, k2, k3, k4, k5⟩ := key css fun c' hc => ih m hm c' (h7 c' hc).2
 have hmx : reachBytes = 140737488351232 := rfl
 rw [hmx] at h4
 have hsl : s.len ≤ 140737488351232 := Nat.le_trans (Nat.le_mul_of_pos_right _ (by omega)) h4
 exact ⟨s, l, h1, ⟨xs, by rw [← k1]; exact h6, by omega, k3, by omega, k4⟩, k5⟩
end
section
variable {W : World}
theorem valTO : ValT Tryz.prog 56 28 := ⟨⟨_, Tryz.underlying56, rfl, ⟨_, _, rfl, rfl, rfl, Tryz.underlying5, by kernel_rfl⟩, ⟨_, _, rfl, rfl, rfl, Tryz.underlying2, by kernel_rfl⟩, ⟨_, _, rfl, rfl, rfl, Tryz.underlying9, by kernel_rfl⟩, ⟨_, rfl, rfl, rfl, by kernel_rfl⟩⟩, by kernel_rfl, Tryz.underlying28⟩
def OpIn (A : Heap) (o : OpV) (x : Qm) : Prop := OpIs A o x ∧ InOp o
theorem Qke (n : Nat) {cs : List Value} (h : TrW Tryz.prog W n 30 cs) : ∃ (rel : Str) (row : List V) (x : Qc), cs = Qc.c x ∧ x.Rel = rel ∧ VRow (heapOf W) x.L row ∧ VBs row ∧ row.length ≤ 140737488355328 ∧ rel.length ≤ 140737488355328 := by
 obtain ⟨hl, m, rfl, hf⟩ := h.struct Tryz.underlying30
 rw [show Tryz.prog.cellsOf 30 = 2 by kernel_rfl] at hl
 match cs, hl with
 | [q0, q1], _ =>
 have g0 : TrW Tryz.prog W m 9 (([q0, q1].drop 0).take (Tryz.prog.cellsOf 9)) := hf 0 _ rfl
 have g1 : TrW Tryz.prog W m 28 (([q0, q1].drop 1).take (Tryz.prog.cellsOf 28)) := hf 1 _ rfl
 rw [show Tryz.prog.cellsOf 9 = 1 by kernel_rfl] at g0
 rw [show Tryz.prog.cellsOf 28 = 1 by kernel_rfl] at g1
 replace g0 : TrW Tryz.prog W m 9 [q0] := g0
 replace g1 : TrW Tryz.prog W m 28 [q1] := g1
 obtain ⟨rel, e0, _, l0⟩ := g0.str Tryz.underlying9
 have hmx : reachBytes = 140737488351232 := rfl
 rw [hmx] at l0
 obtain ⟨y1, r1, z1, v1, w1, u1⟩ := Qj8 valTO (of_decide_eq_true (by kernel_rfl)) g1
 exact ⟨rel, r1, ⟨rel, y1⟩, (show [q0, q1] = [q0] ++ [q1] from rfl).trans (by rw [z1, e0]; rfl), rfl, v1, w1, u1, by omega⟩
theorem Qkq (n : Nat) {cs : List Value} (h : TrW Tryz.prog W n 32 cs) : ∃ (v : OpV) (x : Qm), cs = Qm.c x ∧ OpIn (heapOf W) v x := by
 obtain ⟨hl, m, rfl, hf⟩ := h.struct Tryz.underlying32
 rw [show Tryz.prog.cellsOf 32 = 4 by kernel_rfl] at hl
 match cs, hl with
 | [q0, q1, q2, q3], _ =>
 have g0 : TrW Tryz.prog W m 5 (([q0, q1, q2, q3].drop 0).take (Tryz.prog.cellsOf 5)) := hf 0 _ rfl
 have g1 : TrW Tryz.prog W m 3 (([q0, q1, q2, q3].drop 1).take (Tryz.prog.cellsOf 3)) := hf 1 _ rfl
 have g2 : TrW Tryz.prog W m 30 (([q0, q1, q2, q3].drop 2).take (Tryz.prog.cellsOf 30)) := hf 2 _ rfl
 rw [show Tryz.prog.cellsOf 5 = 1 by kernel_rfl] at g0
 rw [show Tryz.prog.cellsOf 3 = 1 by kernel_rfl] at g1
 rw [show Tryz.prog.cellsOf 30 = 2 by kernel_rfl] at g2
 replace g0 : TrW Tryz.prog W m 5 [q0] := g0
 replace g1 : TrW Tryz.prog W m 3 [q1] := g1
 replace g2 : TrW Tryz.prog W m 30 [q2, q3] := g2
 obtain ⟨x0, e0, _⟩ := g0.int Tryz.underlying5
 obtain ⟨x1, e1, w1⟩ := g1.int Tryz.underlying3
 obtain ⟨rel, row, y, e2, r1, r2, r3, r4, r5⟩ := Qke m g2
 exact ⟨⟨x0, x1, rel, row⟩, ⟨x0, x1, y⟩, (show [q0, q1, q2, q3] = [q0] ++ ([q1] ++ [q2, q3]) from rfl).trans (by rw [e0, e1, e2]; rfl), ⟨rfl, rfl, r1, r2⟩, r3, r4, r5⟩
theorem Qf7 {H : Type} {enc : TypeId × Value → H} {base : Nat} {v : Value} {d : DataW H} {p : List MemPlace} (hv : Value.okWide Tryz.prog W .any base 22 v) (h : DataW.Trod enc Tryz.prog W 0 (fun _ => true) true 22 v d p) (hw : ∀ w ∈ d.weights Tryz.prog 22, w ≤ reachBytes) :
 ∃ (s : Sl) (a : List OpV), v = slv s ∧ OpsIn (heapOf W) s a := by
 obtain ⟨x, len, c, rfl⟩ := WideShapes.okWide_slice Tryz.underlying22 hv
 obtain ⟨n, hn⟩ := TrW.of h hw
 obtain ⟨s, a, h1, h2, h3⟩ := Qkr (R := OpIn (heapOf W)) (c := Qm.c) hn Tryz.underlying22 (show Tryz.prog.cellsOf 32 = 4 by kernel_rfl) (by omega) (of_decide_eq_true (by kernel_rfl)) (fun m hm cs hc => Qkq m hc)
 refine ⟨s, a, ?_, SlIs.le (Heap.le.refl _) h2 fun _ _ _ hx => hx.1, fun o ho => (h3 o ho).elim fun _ h => h.2⟩
 simpa [Value.cells] using h1
end
theorem QgQ {C : Ctx} {H : Heap} (hFm : FmtC C) {s0 s1 : Sl} {l0 l1 : List OpV} (h0 : OpsIn H s0 l0) (h1 : OpsIn H s1 l1) : QF C s0 s1 (fun r _ => r = true) H := Qhm hFm h0.1 h1.1 h0.2 h1.2 fun _ => rfl
end
end Sx
end
noncomputable section

end

