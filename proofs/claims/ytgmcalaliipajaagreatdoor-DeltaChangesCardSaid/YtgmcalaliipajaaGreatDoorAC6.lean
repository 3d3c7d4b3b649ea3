/-
  Texts of this family, one behind the other: Zs6, Zs7, Zs8, Zs9, Zs10, Zs11, Zs12, Zs13, Zs14, Zs15, Zs16, Zs17, Zs18, Zs19, Zs20, Zs21, Zs22, ZsG, ZsH, ZsD, ZsE, DlQ, DlK, DlB, DlP, DlF, DlJ, DlG, DlX.
-/
import Derived.Test.YtgmcalaliipajaaGreatDoorAC5
noncomputable section
set_option linter.unusedVariables false
set_option linter.unusedSimpArgs false
set_option maxRecDepth 10000
namespace Sx
section
open Go Go.Proofs
theorem Qn7 {C : Ctx} {s : Sl} {f : Value} {H : Heap} {K : Heap → Prop} (h : s.len = 0) (k : K H) : Ql C s f K H := by
 apply QR
 unfold Qx
 rw [h]
 apply Qau
 unfold QT
 refine ⟨fun x B => x = (0, 20) ∧ B = H, fun _ _ => 0, ⟨rfl, rfl⟩, ?_⟩
 rintro _ B ⟨rfl, rfl⟩
 refine Qt rfl ?_
 apply Q8
 unfold QF
 refine ⟨fun x D => x = 1 ∧ D = B, fun _ _ => 0, ⟨rfl, rfl⟩, ?_⟩
 rintro _ D ⟨rfl, hD⟩
 subst hD
 refine Qt rfl ?_
 refine ⟨fun x E => x = 20 ∧ E = D, fun _ _ => 0, ⟨rfl, rfl⟩, ?_⟩
 rintro _ E ⟨rfl, hE⟩
 subst hE
 exact Qt rfl k
theorem Qp1 {C : Ctx} {A : Heap} {l : List V} {t : Sl} {H : Heap} {K : Sl → Heap → Prop} (hv : VRow A t l) (hle : A.le H) (hz : vsizes l ≤ 1000000) (k : ∀ t2 H2, Made H H2 l t2 → K t2 H2) : Qcn C t K H := by
 have main : ∀ v : V, ∀ (A : Heap) (t : Sl) (H : Heap) (K : Sl → Heap → Prop), VRow A t v.l → A.le H → vsizes v.l ≤ 1000000 → (∀ t2 H2, Made H H2 v.l t2 → K t2 H2) → Qcn C t K H := by
  refine fun v => V.rec_ (P := fun v => ∀ (A : Heap) (t : Sl) (H : Heap) (K : Sl → Heap → Prop), VRow A t v.l → A.le H → vsizes v.l ≤ 1000000 → (∀ t2 H2, Made H H2 v.l t2 → K t2 H2) → Qcn C t K H) (fun v ih => ?_) v
  intro A t H K hv hle hz k
  apply QlM
  unfold QiY
  have hl := hv.len
  have hll := Qaq v.l
  refine ift.of (fun h => ?_) (fun h => ?_)
  ·simp only [beq_iff_eq] at h
   have : v.l = [] := List.length_eq_zero_iff.1 (by omega)
   refine k _ _ ?_
   rw [this]; exact Made.nil rfl
  ·simp only [beq_eq_false_iff_ne] at h
   obtain ⟨xs, r1, r2, r3⟩ := hv
   refine Qoo (QbR hle r1) r2 (by omega) (by omega) fun b sp cap B hB nb hcap => ?_
   rw [hl] at hcap ⊢
   refine ⟨fun x D => ∃ (i : Nat) (ys : List TV) (E : Heap), x = (i : Int) ∧ i ≤ v.l.length ∧ D = E.put b (.row (ys.flatMap Qb.c ++ sp)) ∧ Ow A H E b i v.l xs ys, fun x _ => v.l.length - x.toNat,
    ⟨0, xs, B, rfl, Nat.zero_le _, rfl, hB, hle.trans hB, nb, by omega, by omega, r3, fun _ _ => rfl, fun j v x hj => by omega⟩, ?_⟩
   rintro _ D ⟨i, ys, E, rfl, hi, rfl, ho⟩
   have hlen : (Sl.of (some (b, 0)) v.l.length cap).len = v.l.length := rfl
   refine ift.of (fun h => ?_) (fun h => ?_)
   ·have hlt : i < v.l.length := by have := of_decide_eq_true h; omega
    have hi2 : i < ys.length := by rw [ho.len]; exact hlt
    have hyx := ho.rest i (Nat.le_refl _)
    rw [List.getElem?_eq_getElem hi2] at hyx
    have hold := QcH.1 (ho.old.get i _ _ (List.getElem?_eq_getElem hlt) hyx.symm)
    have hmem := List.getElem_mem hlt
    have hsz := QcG hmem
    have hszl : vsize v.l[i] = vsizes v.l[i].l + 1 := by cases v.l[i]; rfl
    have e0 : 0 + ((i : Int).toNat) * 4 + 3 = i * 4 + 3 := by omega
    have hf := flat4 ys
    refine ⟨(b, 0), rfl, rfl, by omega, by rw [hlen]; omega, ?_⟩
    refine ⟨ys[i].L, ?_, ?_⟩
    ·show rd _ (b, 0 + ((i : Int).toNat) * 4 + 3) = _
     rw [e0, QnT, List.getElem?_append_left (by omega)]
     exact QgB Qb.c 4 TV.c_len ys i _ (List.getElem?_eq_getElem hi2) 3 _ rfl
    ·refine ih _ hmem A _ _ _ hold.2.2.2 (ho.ale.trans (Heap.le_put ho.nb)) (by omega) fun t2 H2 hm => ?_
     obtain ⟨s1, s2⟩ := ho.step hlt hi2 hm
     refine ⟨(b, 0), rfl, rfl, by omega, by rw [hlen]; omega, ?_⟩
     refine ⟨_, hm.le _ _ (Heap.put_same ..), ?_, ?_⟩
     ·show 0 + ((i : Int).toNat) * 4 + 3 < _
      rw [e0, List.length_append, hf]; omega
     ·show _ ∧ _
      have e1 : (b, 0 + ((i : Int).toNat) * 4 + 3).2 = i * 4 + 3 := e0
      rw [Qq (by omega) (by omega)]
      refine ⟨⟨i + 1, _, _, by omega, by omega, ?_, s1⟩, by first | omega | (dsimp only; omega)⟩
      rw [← s2, ← Qqr ys i hi2]
      show H2.put b (.row ((List.flatMap Qb.c ys ++ sp).set (0 + ((i : Int).toNat) * 4 + 3) (slv t2))) = _
      rw [e0]
   ·have hie : i = v.l.length := by have := of_decide_eq_false h; omega
    refine k _ _ ?_
    have := ho.fin (sp := sp) (cap := cap) hie (ho.le.none ho.nb) (by omega) (by omega)
    rw [hie] at this
    exact this
 exact main (.mk 0 0 [] l) A t H K hv hle hz k
/-- what an entry's row is -/
def Rw (A : Heap) (x : Qa × En) : Prop := (VRow A x.1.Row x.2.1 ∧ VBs x.2.1 ∧ x.2.1.length ≤ 140737488355328) ∧ x.1.N = x.2.2
theorem sums2R {C : Ctx} {A H : Heap} {x y : Qa × En} {K : Int → Heap → Prop} (hx : Rw A x) (hy : Rw A y) (hA : A.le H) (k : K (cmpR x.2.1 y.2.1) H) : QaY C x.1 y.1 K H := by
 apply QaY.gh
 apply Qjp
 unfold Qf5
 refine box2 fun b1 b3 H4 hle h1 h3 => fL h1 rfl (fL h3 rfl ?_)
 have hA4 := hA.trans hle
 exact QiP (hx.1.1.le hA4) (hy.1.1.le hA4) hx.1.2.2 hy.1.2.2 hx.1.2.1 hy.1.2.1 ⟨H, Gh.le hle, k⟩
/-- entries put into their order, in place -/
theorem sortE {C : Ctx} {A H : Heap} {s : Sl} {L : List (Qa × En)} {K : Heap → Prop} (hA : A.le H) (hO : Own H 2 s (L.flatMap fun x => Qa.c x.1)) (hF : Fresh A s) (hR : ∀ x ∈ L, Rw A x) (hl : s.len = L.length) (hn : L.length ≤ 1000000)
 (k : ∀ (Z : List (Qa × En)) (H2 : Heap), Z.Perm L → Z.Pairwise (fun x y => cmpR x.2.1 y.2.1 ≤ 0) → Own H2 2 s (Z.flatMap fun x => Qa.c x.1) → (∀ b, (∀ p, s.p = some p → p.1 ≠ b) → H2 b = H b) → K H2) :
 Ql C s (.func (.func 71) (List.toArray []) (List.toArray []) : Value) K H := by
 have hO' := hO
 obtain ⟨o1, o2, o3, o4 | ⟨b, sp, hp, hb, hc⟩⟩ := hO
 ·refine Qn7 (by omega) (k L H (List.Perm.refl _) ?_ hO' fun _ _ => rfl)
  have : L = [] := List.length_eq_zero_iff.1 (by omega)
  rw [this]; exact List.Pairwise.nil
 have hL0 : (L.zipIdx.map fun e => (e.1.1, (e.1.2, e.2))).flatMap SE.enc = L.flatMap fun x => Qa.c x.1 := by
  rw [List.flatMap_map]
  have : ∀ (L : List (Qa × En)) (m : Nat), (L.zipIdx m).flatMap (fun e => SE.enc (e.1.1, (e.1.2, e.2))) = L.flatMap fun x => Qa.c x.1 := by
   intro L
   induction L with
   | nil => intro m; rfl
   | cons x L ih => intro m; rw [List.zipIdx_cons, List.flatMap_cons, List.flatMap_cons, ih]; rfl
  exact this L 0
 have harr : SE.arr H b sp (L.zipIdx.map fun e => (e.1.1, (e.1.2, e.2))) = H := by
  unfold SE.arr
  rw [hL0]
  funext c
  by_cases hcb : c = b
  ·subst hcb; rw [Heap.put_same, hb]
  ·rw [Heap.put_ne _ _ _ hcb]
 have hlen : (L.zipIdx.map fun e => (e.1.1, (e.1.2, e.2))).length = L.length := by simp
 have hmem : ∀ e ∈ L.zipIdx.map (fun e => (e.1.1, (e.1.2, e.2))), Rw A (e.1, e.2.1) := fun e he => by
  obtain ⟨⟨x, i⟩, hx, rfl⟩ := List.mem_map.1 he
  exact hR x (List.mem_of_getElem? (List.mem_zipIdx_iff_getElem?.1 hx))
 have hι : (L.zipIdx.map fun e => (e.1.1, (e.1.2, e.2))).Pairwise fun x y => x.2.2 < y.2.2 := by
  rw [List.pairwise_map]
  have : ∀ (L : List (Qa × En)) (m : Nat), (L.zipIdx m).Pairwise fun x y => x.2 < y.2 := by
   intro L
   induction L with
   | nil => intro m; exact List.Pairwise.nil
   | cons x L ih =>
    intro m
    rw [List.zipIdx_cons]
    refine List.pairwise_cons.2 ⟨fun y hy => ?_, ih _⟩
    have := List.le_snd_of_mem_zipIdx hy
    show m < y.2
    omega
  exact this L 0
 rw [← harr]
 refine SE.QpU (R := A) (P := fun e : Qa × (En × Nat) => Rw A (e.1, e.2.1)) (κ := fun a c => cmpR a.2.1.1 c.2.1.1) (ι := fun e => e.2.2) (n := L.length) ⟨⟨hp, o2, hl, by omega⟩, hA, hF _ hp, ⟨fun B hB x y hx hy Φ hΦ => ?_⟩, (Lin.row.comp fun e : Qa × (En × Nat) => e.2.1.1).sub fun _ _ => trivial⟩ hlen hmem hι fun Z hZp hZs => ?_
 ·have h := sums2R (C := C) (x := (x.1, x.2.1)) (y := (y.1, y.2.1)) (K := fun r H2 => Φ (.int .i64 r) H2) hx hy hB hΦ
  unfold QaY at h
  refine ⟨71, [], [], rfl, QjB, ?_⟩
  exact Spec.mono h fun v H2 hh => by obtain ⟨r, hv, hr⟩ := hh; rw [hv]; exact hr
 ·have hperm : (Z.map fun e => (e.1, e.2.1)).Perm L := by
   have := hZp.map (fun e : Qa × (En × Nat) => (e.1, e.2.1))
   rw [List.map_map] at this
   have e : (L.zipIdx.map ((fun e : Qa × (En × Nat) => (e.1, e.2.1)) ∘ fun e => (e.1.1, (e.1.2, e.2)))) = L := by
    have : ((fun e : Qa × (En × Nat) => (e.1, e.2.1)) ∘ fun e : (Qa × En) × Nat => (e.1.1, (e.1.2, e.2))) = Prod.fst := by funext e; rfl
    rw [this]; exact List.zipIdx_map_fst 0 L
   rw [e] at this; exact this
  have hZl : Z.length = L.length := by rw [← hperm.length_eq, List.length_map]
  have hcells : Z.flatMap SE.enc = (Z.map fun e => (e.1, e.2.1)).flatMap fun x => Qa.c x.1 := by
   rw [List.flatMap_map]; rfl
  refine k (Z.map fun e => (e.1, e.2.1)) _ hperm ?_ ⟨?_, o2, o3, .inr ⟨b, sp, hp, ?_, ?_⟩⟩ fun c hc' => ?_
  ·rw [List.pairwise_map]
   exact hZs.imp fun h => h.le
  ·rw [← hcells, SE.QgD, hZl, hl]
  ·unfold SE.arr; rw [Heap.put_same, hcells]
  ·rw [← hcells, List.length_append, SE.QgD, hZl]
   rw [List.length_append, o1] at hc
   rw [← hl]; exact hc
  ·have : c ≠ b := fun e => hc' _ hp (by rw [e])
   unfold SE.arr
   rw [Heap.put_ne _ _ _ this]
/-- a function's end: its results in cells, the mark -/
theorem Qmk {X B : Heap} {D b1 b3 : Nat} {s : Sl} {e : Int} {K : Sl → Int → Heap → Prop} (hX : X.le B) (x1 : X b1 = none) (x3 : X b3 = none) (xD : X D = none) (d1 : D ≠ b1) (d3 : D ≠ b3) (n13 : b1 ≠ b3) (hD : B D = some (true, .obj (.deferred (some []))))
 (h1 : B b1 = some (true, .row [slv s])) (h3 : B b3 = some (true, .row [.int .i64 e])) (k : ∀ H0, X.le H0 → K s e H0) : Rf.mk1 B D (fun Hm => ldL Hm (b1, 0) fun x => ldI Hm .i64 (b3, 0) fun y => K x y Hm) := by
 have l1 := Heap.le_put x1 (g := .row [slv s]) (m := true)
 have x3' : (X.put b1 (.row [slv s])) b3 = none := by rw [Heap.put_ne _ _ _ n13.symm]; exact x3
 have l3 := Heap.le_put x3' (g := .row [.int .i64 e]) (m := true)
 have r1 : ((X.put b1 (.row [slv s])).put b3 (.row [.int .i64 e])) b1 = some (true, .row [slv s]) := by rw [Heap.put_ne _ _ _ n13, Heap.put_same]
 have r3 : ((X.put b1 (.row [slv s])).put b3 (.row [.int .i64 e])) b3 = some (true, .row [.int .i64 e]) := Heap.put_same ..
 refine ⟨(X.put b1 (.row [slv s])).put b3 (.row [.int .i64 e]), fun b v hb => ?_, ?_, hD, ?_⟩
 ·by_cases h : b = b3
  ·subst h; rw [r3] at hb; injection hb with hb; subst hb; exact h3
  ·by_cases h' : b = b1
   ·subst h'; rw [r1] at hb; injection hb with hb; subst hb; exact h1
   ·rw [Heap.put_ne _ _ _ h, Heap.put_ne _ _ _ h'] at hb; exact hX _ _ hb
 ·rw [Heap.put_ne _ _ _ d3, Heap.put_ne _ _ _ d1]; exact xD
 ·exact fL (j := 0) r1 rfl (fI (j := 0) r3 rfl (k _ (l1.trans l3)))
end
section
open Go Go.Proofs
def RwE (A : Heap) (v : En) (x : Qa) : Prop := (VRow A x.Row v.1 ∧ VBs v.1 ∧ v.1.length ≤ 140737488355328) ∧ x.N = v.2
theorem Ql4 {r : List V} : ∀ {l : List En}, (∀ e ∈ l, -2147483647 ≤ e.2 ∧ e.2 ≤ 2147483647) → -(2147483647 * (l.length : Int)) ≤ totE l r ∧ totE l r ≤ 2147483647 * (l.length : Int)
 | [], _ => by simp [totE]
 | e :: l, h => by
  have h1 := h e (List.mem_cons_self ..)
  have h2 := Ql4 (r := r) fun x hx => h x (List.mem_cons_of_mem _ hx)
  simp only [totE, List.length_cons]
  split <;> omega
theorem Qoc {r : List V} {l : List En} {e : En} (h : e.1 = r) : totE (l ++ [e]) r = totE l r + e.2 := by
 rw [Qbq]
 have : totE [e] r = e.2 := by obtain ⟨a, b⟩ := e; have : a = r := h; subst this; exact QkU
 rw [this]
theorem Qoq {C : Ctx} {A F B : Heap} {b5 : Nat} {t : Sl} {R : List En} {post : Int × Int → Heap → Prop} (hAF : A.le F) (hF : F.le B) (h5 : B b5 = some (true, .row [slv t])) (hR : SlIs (RwE A) Qa.c F t R) (hne : 0 < R.length) (hl : R.length ≤ 1000000)
 (hmay : ∀ e ∈ R, mayR e.1 = true) (hN : ∀ e ∈ R, -2147483647 ≤ e.2 ∧ e.2 ≤ 2147483647)
 (hp : ∀ j : Nat, 0 < j → j ≤ R.length → (∀ i, (h : i < R.length) → i < j → R[i].1 = R[0].1) → (∀ h : j < R.length, R[j].1 ≠ R[0].1) → post ((j : Int), totE (R.take j) R[0].1) B) :
 lp (α := Int × Int) (0, 0) B (fun x126 J127 H128 =>
  jn (α := Bool) (fun x130 H131 =>
  ift x130
  (ldL H131 (b5, 0) fun x160 =>
  ixa x160 x126.1 fun p162 =>
  ldI H131 .i64 ((p162.1, p162.2 + (x126.1 : Int).toNat * 2).1, (p162.1, p162.2 + (x126.1 : Int).toNat * 2).2 + 1) fun x167 =>
  J127 ((w .i64 (x126.1 + 1)), (w .i64 (x126.2 + x167))) H131)
  (post x126 H131))
  (fun J129 => dr H128 fun Hs133 =>
  ldL Hs133 (b5, 0) fun x135 =>
  ift (decide ((x126.1 : Int) < (Sl.len x135 : Int)))
  (ldL Hs133 (b5, 0) fun x138 =>
  ixa x138 0 fun p140 =>
  ldL Hs133 ((p140.1, p140.2 + (0 : Int).toNat * 2).1, (p140.1, p140.2 + (0 : Int).toNat * 2).2 + 0) fun x145 =>
  ldL Hs133 (b5, 0) fun x147 =>
  ixa x147 x126.1 fun p149 =>
  ldL Hs133 ((p149.1, p149.2 + (x126.1 : Int).toNat * 2).1, (p149.1, p149.2 + (x126.1 : Int).toNat * 2).2 + 0) fun x154 =>
  QaK C x145 x154 (fun r157 H158 =>
  Heap.le Hs133 H158 ∧
  J129 ((r157 : Int) == 0) H158) H128)
  (J129 false H128))) := by
 have hAB := hAF.trans hF
 refine ⟨fun x D => D = B ∧ ∃ j : Nat, x.1 = (j : Int) ∧ j ≤ R.length ∧ (∀ i, (h : i < R.length) → i < j → R[i].1 = R[0].1) ∧ x.2 = totE (R.take j) R[0].1, fun x _ => R.length - x.1.toNat, ⟨rfl, 0, rfl, Nat.zero_le _, fun i h hi => by omega, by simp [totE]⟩, ?_⟩
 rintro ⟨_, _⟩ D ⟨rfl, j, rfl, hj, hq, rfl⟩
 refine jb (P := ∃ h : j < R.length, R[j].1 = R[0].1) D ?_ fun b hb => ?_
 ·refine ⟨D, Heap.le.refl _, fL (j := 0) h5 rfl ?_⟩
  rw [hR.len]
  refine ift.of (fun h => ?_) (fun h => ⟨rfl, ?_⟩)
  ·have hlt : j < R.length := by have : (j : Int) < R.length := of_decide_eq_true h; omega
   refine fL (j := 0) h5 rfl (SlIs.fL hR hF (z := 2) (fun _ => rfl) (by omega) (i := 0) rfl hne (j := 0) (f := fun y => y.Row) (fun _ => rfl) fun y1 hy1 => ?_)
   refine fL (j := 0) h5 rfl (SlIs.fL hR hF (z := 2) (fun _ => rfl) (by omega) rfl hlt (j := 0) (f := fun y => y.Row) (fun _ => rfl) fun y2 hy2 => ?_)
   refine QiP (hy1.1.1.le hAB) (hy2.1.1.le hAB) hy1.1.2.2 hy2.1.2.2 hy1.1.2.1 hy2.1.2.1 ⟨Heap.le.refl _, rfl, ?_⟩
   have hz := Qgy (hmay _ (List.getElem_mem hne)) (hmay _ (List.getElem_mem hlt))
   rw [beq_iff_eq, hz]
   exact ⟨fun e => ⟨hlt, e.symm⟩, fun ⟨_, e⟩ => e.symm⟩
  ·have hlt : ¬ j < R.length := by have : ¬ (j : Int) < R.length := of_decide_eq_false h; omega
   exact ⟨fun e => (nomatch e), fun ⟨e, _⟩ => absurd e hlt⟩
 refine ift.of (fun h => ?_) (fun h => ?_)
 ·obtain ⟨hlt, hr⟩ := hb.1 h
  refine fL (j := 0) h5 rfl (SlIs.fI hR hF (z := 2) (fun _ => rfl) (by omega) rfl hlt (j := 1) (f := fun y => y.N) (fun _ => rfl) fun y hy => ?_)
  rw [hy.2]
  have hbd := Ql4 (r := R[0].1) (l := R.take j) fun e he => hN e (List.mem_of_mem_take he)
  have hn1 := hN _ (List.getElem_mem hlt)
  rw [List.length_take, Nat.min_eq_left hj] at hbd
  rw [Qq (by omega) (by omega), Qq (by dsimp only; omega) (by dsimp only; omega)]
  refine ⟨⟨rfl, j + 1, rfl, by omega, fun i hi hij => ?_, ?_⟩, by first | omega | (dsimp only; omega)⟩
  ·by_cases he : i = j
   ·subst he; exact hr
   ·exact hq i hi (by omega)
  ·rw [List.take_add_one, List.getElem?_eq_getElem hlt]
   exact (Qoc hr).symm
 ·have hno : ¬ ∃ h : j < R.length, R[j].1 = R[0].1 := fun e => by rw [hb.2 e] at h; cases h
  refine hp j ?_ hj hq fun hlt e => hno ⟨hlt, e⟩
  rcases Nat.eq_zero_or_pos j with h0 | h0
  ·subst h0; exact absurd ⟨hne, rfl⟩ hno
  ·exact h0
end
section
open Go Go.Proofs
def nxS (C : Ctx) (b1 b3 b5 b7 : Nat) (K : Sl → Int → Heap → Prop) : Nat → Heap → Prop :=
 fun D14 H227 =>
 ldI H227 .i64 (b7, 0) fun x84 =>
 ift ((x84 : Int) != 0)
 (dr H227 fun Hs87 =>
 (ldI H227 .i64 (b7, 0) fun x90 =>
 Heap.le Hs87 H227 ∧
 st (b1, 0) (slv Sl.nil) (fun H93 =>
 Heap.le Hs87 H93 ∧
 st (b3, 0) (.int .i64 x90) (fun H94 =>
 Rf.mk1 H94 D14 (fun Hm95 =>
 ldL Hm95 (b1, 0) fun x99 => ldI Hm95 .i64 (b3, 0) fun x101 =>
 K x99 x101 Hm95)) H93) H227) ∧
 (st (b1, 0) (slv Sl.nil) (fun H104 =>
 Heap.le Hs87 H104 ∧
 ldI H104 .i64 (b7, 0) fun x106 =>
 Heap.le Hs87 H104 ∧
 st (b3, 0) (.int .i64 x106) (fun H108 =>
 Rf.mk1 H108 D14 (fun Hm109 =>
 ldL Hm109 (b1, 0) fun x113 => ldI Hm109 .i64 (b3, 0) fun x115 =>
 K x113 x115 Hm109)) H104) H227))
 (ldL H227 (b5, 0) fun x117 =>
 Ql C x117 (.func (.func 71) (List.toArray []) (List.toArray []) : Value) (fun H119 =>
 lp (α := Sl) Sl.nil H119 (fun x120 J121 H122 =>
 ldL H122 (b5, 0) fun x123 =>
 ift (decide (((Sl.len x123 : Int) : Int) > 0))
 (lp (α := Int × Int) (0, 0) H122 (fun x126 J127 H128 =>
 jn (α := Bool) (fun x130 H131 =>
 ift x130
 (ldL H131 (b5, 0) fun x160 =>
 ixa x160 x126.1 fun p162 =>
 ldI H131 .i64 ((p162.1, p162.2 + (x126.1 : Int).toNat * 2).1, (p162.1, p162.2 + (x126.1 : Int).toNat * 2).2 + 1) fun x167 =>
 J127 ((w .i64 (x126.1 + 1)), (w .i64 (x126.2 + x167))) H131)
 (Qc0 C x126.2 (fun r169 H170 =>
 ift r169
 (st (b1, 0) (slv Sl.nil) (fun H172 =>
 st (b3, 0) (.int .i64 80) (fun H173 =>
 Rf.mk1 H173 D14 (fun Hm174 =>
 ldL Hm174 (b1, 0) fun x178 => ldI Hm174 .i64 (b3, 0) fun x180 =>
 K x178 x180 Hm174)) H172) H170)
 (jn (α := Sl) (fun x183 H184 =>
 ldL H184 (b5, 0) fun x200 =>
 slL x200 x126.1 (Sl.len x200 : Int) (Sl.cap x200 : Int) 2 fun t202 =>
 st (b5, 0) (slv t202) (fun H208 =>
 J121 x183 H208) H184)
 (fun J182 => ift ((x126.2 : Int) != 0)
 (ldL H170 (b5, 0) fun x187 =>
 ixa x187 0 fun p189 =>
 ldL H170 ((p189.1, p189.2 + (0 : Int).toNat * 2).1, (p189.1, p189.2 + (0 : Int).toNat * 2).2 + 0) fun x194 =>
 Qcn C x194 (fun r196 H197 =>
 apd (Qa.c Qa.zero) 32 x120 ((Qa.c (⟨r196, x126.2⟩ : Qa)) ++ []) 1 (fun r198 H199 =>
 J182 r198 H199) H197) H170)
 (J182 x120 H170)))) H131))
 (fun J129 => dr H128 fun Hs133 =>
 ldL Hs133 (b5, 0) fun x135 =>
 ift (decide ((x126.1 : Int) < (Sl.len x135 : Int)))
 (ldL Hs133 (b5, 0) fun x138 =>
 ixa x138 0 fun p140 =>
 ldL Hs133 ((p140.1, p140.2 + (0 : Int).toNat * 2).1, (p140.1, p140.2 + (0 : Int).toNat * 2).2 + 0) fun x145 =>
 ldL Hs133 (b5, 0) fun x147 =>
 ixa x147 x126.1 fun p149 =>
 ldL Hs133 ((p149.1, p149.2 + (x126.1 : Int).toNat * 2).1, (p149.1, p149.2 + (x126.1 : Int).toNat * 2).2 + 0) fun x154 =>
 QaK C x145 x154 (fun r157 H158 =>
 Heap.le Hs133 H158 ∧
 J129 ((r157 : Int) == 0) H158) H128)
 (J129 false H128))))
 (st (b1, 0) (slv x120) (fun H209 =>
 st (b3, 0) (.int .i64 0) (fun H210 =>
 Rf.mk1 H210 D14 (fun Hm211 =>
 ldL Hm211 (b1, 0) fun x215 => ldI Hm211 .i64 (b3, 0) fun x217 =>
 K x215 x217 Hm211)) H209) H122))) H227)
theorem OgE.up {H B B2 : Heap} {es : List En} {s : Sl} {ys : List Qa} (h : OgE H B es s ys) (hle : B.le B2) : OgE H B2 es s ys :=
 ⟨h.own.up hle, h.len, fun j e y a b => by
  obtain ⟨q1, q2⟩ := h.done j e y a b
  exact ⟨q1.up (Heap.le_off ((Heap.off_le s B).trans hle) (Heap.off_fresh s B)), q2⟩⟩
theorem Heap.withS_none {X H : Heap} {s : Sl} {b : Nat} (h : X b = none) (hn : ∀ p, s.p = some p → p.1 ≠ b) : X.withS s H b = none := by
 unfold Heap.withS
 rw [if_neg]
 ·exact h
 ·intro hh
  obtain ⟨p, hp, e⟩ := Option.map_eq_some_iff.1 hh
  exact hn p hp e
open Classical in
noncomputable def lenAt (b : Nat) (H : Heap) : Nat := if h : ∃ t : Sl, H b = some (true, .row [slv t]) then (Classical.choose h).len else 0
theorem QpT {s t : Sl} (h : slv s = slv t) : s.len = t.len := by
 unfold slv at h
 injection h with _ h _
theorem Qmp {b : Nat} {H : Heap} {t : Sl} (h : H b = some (true, .row [slv t])) : lenAt b H = t.len := by
 unfold lenAt
 have hex : ∃ t : Sl, H b = some (true, .row [slv t]) := ⟨t, h⟩
 rw [dif_pos hex]
 have := h.symm.trans (Classical.choose_spec hex)
 injection this with this; injection this with _ this; injection this with this; injection this with this
 exact (QpT this).symm
theorem QjG : ∀ L : List (Qa × En), (L.flatMap fun x => Qa.c x.1).length = L.length * 2
 | [] => rfl
 | y :: L => by rw [List.flatMap_cons, List.length_append, QjG L, List.length_cons, show (Qa.c y.1).length = 2 from rfl]; omega
/-- the rest of a list of entries -/
theorem SlIs.dropE {A F : Heap} {t : Sl} {R : List En} {j : Nat} {K : Sl → Prop} (h : SlIs (RwE A) Qa.c F t R) (hj : j ≤ R.length) (hc : t.len ≤ t.cap) (k : ∀ t', SlIs (RwE A) Qa.c F t' (R.drop j) → t'.len ≤ t'.cap → t'.len = t.len - j → K t') :
 slL t (j : Int) (Sl.len t : Int) (Sl.cap t : Int) 2 K := by
 obtain ⟨xs, h1, h2, h3, h4, h5⟩ := h
 have fl : ∀ xs : List Qa, (xs.flatMap Qa.c).length = xs.length * 2 := by
  intro xs
  induction xs with
  | nil => rfl
  | cons x xs ih => rw [List.flatMap_cons, List.length_append, ih, List.length_cons, show (Qa.c x).length = 2 from rfl]; omega
 have fd : ∀ (xs : List Qa) (n : Nat), n ≤ xs.length → (xs.flatMap Qa.c).drop (n * 2) = (xs.drop n).flatMap Qa.c := by
  intro xs
  induction xs with
  | nil => intro n hn; have : n = 0 := by simpa using hn
           subst this; rfl
  | cons x xs ih =>
   intro n hn
   cases n with
   | zero => simp
   | succ n =>
    rw [List.flatMap_cons, List.drop_append, show (Qa.c x).length = 2 from rfl, List.drop_of_length_le (by rw [show (Qa.c x).length = 2 from rfl]; omega), List.nil_append, show (n + 1) * 2 - 2 = n * 2 by omega, ih n (by simpa using hn)]
    rfl
 refine ⟨by omega, by omega, by omega, by omega, _, rfl, k _ ?_ ?_ ?_⟩
 ·have hs := QmX (hr := h1) (lo := (j : Int)) (hi := (Sl.len t : Int)) (mx := (Sl.cap t : Int)) (z := 2) (by omega) (by omega) (by omega) (by rw [fl]; omega)
  have e0 : ((j : Int)).toNat = j := by omega
  rw [e0, fd xs j (by omega)] at hs
  have e1 : (((xs.drop j).flatMap Qa.c).take (((Sl.len t : Int) - (j : Int)).toNat * 2)) = (xs.drop j).flatMap Qa.c := List.take_of_length_le (by rw [fl, List.length_drop]; omega)
  rw [e1] at hs
  refine ⟨xs.drop j, ?_, ?_, by simp [h3], by rw [List.length_drop]; omega, fun i v x hv hx => ?_⟩
  ·rw [e0]; exact hs
  ·show ((Sl.len t : Int) - (j : Int)).toNat = _
   rw [List.length_drop]; omega
  ·rw [List.getElem?_drop] at hv hx; exact h5 _ v x hv hx
 ·show ((Sl.len t : Int) - (j : Int)).toNat ≤ ((Sl.cap t : Int) - (j : Int)).toNat
  omega
 ·show ((Sl.len t : Int) - (j : Int)).toNat = _
  omega
/-- where the sorted entries' sums stand -/
structure NX (A F : Heap) (D b1 b3 b5 : Nat) (R : List En) (m : Nat) (out : List En) (cs : Sl) (B : Heap) : Prop where
 le : m ≤ R.length
 few : out.length ≤ m
 hF : F.le B
 c1 : B b1 = some (true, .row [slv Sl.nil])
 c3 : B b3 = some (true, .row [.int .i64 0])
 sum : IsSum (R.take m) out
 ok : out.any (fun o => outE o.2) = false
 lt : ∀ x ∈ R.take m, ∀ y ∈ R.drop m, cmpR x.1 y.1 < 0
 t : ∃ t : Sl, B b5 = some (true, .row [slv t]) ∧ SlIs (RwE A) Qa.c F t (R.drop m) ∧ t.len ≤ t.cap
 fr : Fresh F cs ∧ ∀ p, cs.p = some p → p.1 ≠ b1 ∧ p.1 ≠ b3 ∧ p.1 ≠ b5
 og : ∃ (Bs : Heap) (ys : List Qa), OgE A Bs (out.filter fun o => !(o.2 == 0)) cs ys ∧ Bs.le B ∧ Bs b1 = none ∧ Bs b3 = none ∧ Bs b5 = none ∧ Bs D = none
/-- a row's entries, added: what is known then -/
theorem Qpx {R out : List En} {m j : Nat} (hm : m < R.length) (hj0 : 0 < j) (hj : j ≤ (R.drop m).length) (hs : IsSum (R.take m) out) (hlt : ∀ x ∈ R.take m, ∀ y ∈ R.drop m, cmpR x.1 y.1 < 0) (hso : R.Pairwise fun x y => cmpR x.1 y.1 ≤ 0) (hmay : ∀ e ∈ R, mayR e.1 = true)
 (hq : ∀ i, (h : i < (R.drop m).length) → i < j → (R.drop m)[i].1 = (R.drop m)[0].1) (hstop : ∀ h : j < (R.drop m).length, (R.drop m)[j].1 ≠ (R.drop m)[0].1) :
 IsSum (R.take (m + j)) (out ++ [((R.drop m)[0].1, totE ((R.drop m).take j) (R.drop m)[0].1)]) ∧ (∀ x ∈ R.take (m + j), ∀ y ∈ R.drop (m + j), cmpR x.1 y.1 < 0) := by
 have e1 : R.take (m + j) = R.take m ++ (R.drop m).take j := by rw [List.take_add]
 have h0 : 0 < (R.drop m).length := by omega
 have hG : ∀ e ∈ (R.drop m).take j, e.1 = (R.drop m)[0].1 := fun e he => by
  obtain ⟨i, hi, rfl⟩ := List.getElem_of_mem he
  rw [List.length_take] at hi
  rw [List.getElem_take]
  exact hq i (by omega) (by omega)
 have hso2 : (R.drop m).Pairwise fun x y => cmpR x.1 y.1 ≤ 0 := hso.sublist (List.drop_sublist _ _)
 have hmay2 : ∀ e ∈ R.drop m, mayR e.1 = true := fun e he => hmay e (List.mem_of_mem_drop he)
 refine ⟨?_, ?_⟩
 ·rw [e1]
  refine hs.step (fun e he => hlt e he _ (List.getElem_mem h0)) hG fun e => ?_
  have := congrArg List.length e
  rw [List.length_take] at this
  simp only [List.length_nil] at this; omega
 ·rw [e1, ← List.drop_drop]
  intro x hx y hy
  rcases List.mem_append.1 hx with hx | hx
  ·exact hlt x hx y (List.mem_of_mem_drop hy)
  ·rw [hG x hx]
   obtain ⟨i, hi, rfl⟩ := List.getElem_of_mem hy
   rw [List.length_drop] at hi
   rw [show (List.drop j (R.drop m))[i] = (R.drop m)[j + i]'(by omega) from List.getElem_drop ..]
   have hjl : j < (R.drop m).length := by omega
   have hp := List.pairwise_iff_getElem.1 hso2
   have h1 : cmpR (R.drop m)[0].1 (R.drop m)[j].1 ≤ 0 := hp 0 j h0 hjl hj0
   have hne : cmpR (R.drop m)[0].1 (R.drop m)[j].1 ≠ 0 := fun e => hstop hjl ((Qgy (hmay2 _ (List.getElem_mem h0)) (hmay2 _ (List.getElem_mem hjl))).1 e).symm
   by_cases hi0 : i = 0
   ·subst hi0
    have e0 : (R.drop m)[j + 0] = (R.drop m)[j] := rfl
    rw [e0]; omega
   ·have h2 : cmpR (R.drop m)[j].1 (R.drop m)[j + i].1 ≤ 0 := hp j (j + i) hjl (by omega) (by omega)
    exact (Lin.row.tr _ _ _ trivial trivial trivial h1 h2).2 (.inl (by omega))
end
section
open Go Go.Proofs
/-- what is left of all entries -/
def esS (S : List (En × Bool)) : List En := S.map fun x => (x.1.1, doE x.2 x.1.2)
theorem Qqx {C : Ctx} {A E H' : Heap} {D b1 b3 b5 b7 yl : Nat} {S : List (En × Bool)} {K : Sl → Int → Heap → Prop} (hAE : A.le E) (hED : E D = some (true, .obj (.deferred (some [])))) (hAD : A D = none) (d1 : D ≠ b1) (d3 : D ≠ b3) (d5 : D ≠ b5) (hS : S.length ≤ 1000000)
 (hsz : ∀ x ∈ S, vsizes x.1.1 ≤ 1000000) (hbd : ∀ x ∈ S, outE x.1.2 = false → -2147483647 ≤ doE x.2 x.1.2 ∧ doE x.2 x.1.2 ≤ 2147483647) (I : SI A b1 b3 b5 b7 yl S E H' S.length)
 (kout : S.any (fun x => outE x.1.2) = true → ∀ H0, A.le H0 → K Sl.nil 80 H0)
 (kover : S.any (fun x => outE x.1.2) = false → (∃ r, (∃ e ∈ esS S, e.1 = r) ∧ outE (totE (esS S) r) = true) → ∀ H0, A.le H0 → K Sl.nil 80 H0)
 (kok : S.any (fun x => outE x.1.2) = false → ∀ out cs ys H0, IsSum (esS S) out → out.any (fun o => outE o.2) = false → OgE A H0 (out.filter fun o => !(o.2 == 0)) cs ys → K cs 0 H0) :
 nxS C b1 b3 b5 b7 K D H' := by
 obtain ⟨o1, o3, o5, o7, oy⟩ := I.off
 obtain ⟨n13, n57, n51, n53, n71, n73⟩ := I.ne
 have A1 := hAE.none o1
 have A3 := hAE.none o3
 have A5 := hAE.none o5
 obtain ⟨s, L, g5, gO, gF, gN, gM, gV⟩ := I.ls
 rw [List.take_length] at gM
 have c7 := I.c7
 have hmayS := I.may
 rw [List.take_length] at c7 hmayS
 have hgM : L.map (·.2) = esS S := gM
 refine fI (j := 0) c7 rfl ?_
 cases hb : S.any (fun x => outE x.1.2) with
 | true =>
  rw [hb, if_pos rfl] at c7
  rw [if_pos rfl]
  refine QA rfl ?_
  have fin : ∀ B, E.le B → B b1 = some (true, .row [slv Sl.nil]) → B b3 = some (true, .row [.int .i64 80]) → Rf.mk1 B D (fun Hm => ldL Hm (b1, 0) fun x => ldI Hm .i64 (b3, 0) fun y => K x y Hm) := fun B hB h1 h3 => Qmk (hAE.trans hB) A1 A3 hAD d1 d3 n13 (hB _ _ hED) h1 h3 (kout hb)
  have l1 : E.le (H'.put b1 (.row [slv Sl.nil])) := Qn I.leE o1
  have c3' : (H'.put b1 (.row [slv Sl.nil])) b3 = some (true, .row [.int .i64 0]) := by rw [Heap.put_ne _ _ _ n13.symm]; exact I.c3
  have c7' : (H'.put b1 (.row [slv Sl.nil])) b7 = some (true, .row [.int .i64 80]) := by rw [Heap.put_ne _ _ _ n71]; exact c7
  refine ⟨E, I.leE, fI (j := 0) c7 rfl ⟨I.leE, stI I.c1 ⟨l1, stI c3' (fin _ (Qn l1 o3) ?_ (Heap.put_same ..))⟩⟩, stI I.c1 ⟨l1, fI (j := 0) c7' rfl ⟨l1, stI c3' (fin _ (Qn l1 o3) ?_ (Heap.put_same ..))⟩⟩⟩
  all_goals rw [Heap.put_ne _ _ _ n13, Heap.put_same]
 | false =>
 rw [if_neg (by simp)]
 refine Qt rfl ?_
 refine fL (j := 0) g5 rfl ?_
 have hlL : L.length = S.length := by
  have := congrArg List.length gM
  simpa using this
 have hsl : s.len = L.length := by
  have h1 := gO.1
  rw [QjG] at h1; omega
 refine sortE (A := A) (hAE.trans I.leE) gO (gF.le hAE) gV hsl (by omega) fun Z H2 hZp hZs hO2 hsame => ?_
 have hE2 : E.le H2 := fun b e hx => by
  rw [hsame b fun p hp e' => by have := gF p hp; rw [e', hx] at this; cases this]
  exact I.leE _ _ hx
 have hOF := OwnF.sub (X := E) (⟨hE2, hO2, gF⟩ : OwnF E H2 2 s _) (Heap.le.refl E)
 have hF2 : (E.withS s H2).le H2 := Heap.withS_le hE2
 have F1 := Heap.withS_none (H := H2) o1 fun p hp => (gN p hp).1
 have F3 := Heap.withS_none (H := H2) o3 fun p hp => (gN p hp).2.1
 have F5 := Heap.withS_none (H := H2) o5 fun p hp => (gN p hp).2.2.1
 have hEF := hOF.le
 have hrd := hOF.own.rdsl
 generalize E.withS s H2 = F at *
 have hAF := hAE.trans hEF
 have hFD := hEF _ _ hED
 have s1 : H2 b1 = some (true, .row [slv Sl.nil]) := by rw [hsame b1 fun p hp => (gN p hp).1]; exact I.c1
 have s3 : H2 b3 = some (true, .row [.int .i64 0]) := by rw [hsame b3 fun p hp => (gN p hp).2.1]; exact I.c3
 have s5 : H2 b5 = some (true, .row [slv s]) := by rw [hsame b5 fun p hp => (gN p hp).2.2.1]; exact g5
 have hperm : (Z.map (·.2)).Perm (esS S) := by rw [← hgM]; exact hZp.map _
 have hZl : Z.length = S.length := by rw [hZp.length_eq]; exact hlL
 have hRl : (Z.map (·.2)).length = S.length := by rw [List.length_map]; exact hZl
 have hR0 : SlIs (RwE A) Qa.c F s (Z.map (·.2)) := by
  refine ⟨Z.map (·.1), ?_, by rw [List.length_map]; omega, by simp, by rw [hRl]; omega, fun i v x hv hx => ?_⟩
  ·rw [List.flatMap_map]; exact hrd
  ·rw [List.getElem?_map] at hv hx
   cases hz : Z[i]? with
   | none => rw [hz] at hv; cases hv
   | some z =>
    rw [hz] at hv hx
    injection hv with hv; injection hx with hx; subst hv; subst hx
    exact gV z (hZp.mem_iff.1 (List.mem_of_getElem? hz))
 have hso : (Z.map (·.2)).Pairwise fun x y => cmpR x.1 y.1 ≤ 0 := by rw [List.pairwise_map]; exact hZs
 have hfrom : ∀ e ∈ Z.map (·.2), ∃ x ∈ S, e = (x.1.1, doE x.2 x.1.2) := fun e he => by
  obtain ⟨x, hx, rfl⟩ := List.mem_map.1 (hperm.mem_iff.1 he)
  exact ⟨x, hx, rfl⟩
 have hmay : ∀ e ∈ Z.map (·.2), mayR e.1 = true := fun e he => by
  obtain ⟨x, hx, rfl⟩ := hfrom e he; exact hmayS x hx
 have hN : ∀ e ∈ Z.map (·.2), -2147483647 ≤ e.2 ∧ e.2 ≤ 2147483647 := fun e he => by
  obtain ⟨x, hx, rfl⟩ := hfrom e he
  refine hbd x hx ?_
  cases ho : outE x.1.2 with
  | false => rfl
  | true => rw [List.any_eq_true.2 ⟨x, hx, ho⟩] at hb; cases hb
 have hvz : ∀ e ∈ Z.map (·.2), vsizes e.1 ≤ 1000000 := fun e he => by
  obtain ⟨x, hx, rfl⟩ := hfrom e he; exact hsz x hx
 have hscap : s.len ≤ s.cap := hO2.2.2.1
 generalize Z.map (·.2) = R at *
 refine ⟨fun cs B => ∃ m out, NX A F D b1 b3 b5 R m out cs B, fun _ B => lenAt b5 B, ⟨0, [], ⟨Nat.zero_le _, Nat.zero_le _, hF2, s1, s3, by simpa using IsSum.nil, rfl, fun x hx => by simp at hx, ⟨s, s5, hR0, hscap⟩, ⟨Fresh.nil _, fun p hp => by cases hp⟩, A, [], OgE.nil, hAF.trans hF2, A1, A3, A5, hAD⟩⟩, ?_⟩
 rintro cs B ⟨m, out, N⟩
 obtain ⟨t, t5, tR, tc⟩ := N.t
 obtain ⟨Bs, ys, gOg, gB, gB1, gB3, gB5, gBD⟩ := N.og
 have hAB := hAF.trans N.hF
 have htl : t.len = R.length - m := by rw [tR.len, List.length_drop]
 refine fL (j := 0) t5 rfl ?_
 refine ift.of (fun h => ?_) (fun h => ?_)
 ·have hpos : 0 < t.len := by have : (0 : Int) < (t.len : Int) := of_decide_eq_true h; omega
  have hm : m < R.length := by omega
  have hne : 0 < (R.drop m).length := by rw [List.length_drop]; omega
  refine Qoq (A := A) hAF N.hF t5 tR hne (by rw [List.length_drop]; omega) (fun e he => hmay e (List.mem_of_mem_drop he)) (fun e he => hN e (List.mem_of_mem_drop he)) fun j hj0 hjl hq hstop => ?_
  obtain ⟨g1, g2⟩ := Qpx hm hj0 hjl N.sum N.lt hso hmay hq hstop
  have hrow := List.getElem_mem hne
  have hrowR := List.mem_of_mem_drop hrow
  generalize hr0 : (R.drop m)[0].1 = r0 at *
  generalize hsum : totE ((R.drop m).take j) r0 = sum at *
  refine Qo8 ?_
  refine ift.of (fun ho => ?_) (fun ho => ?_)
  ·have c3' : (B.put b1 (.row [slv Sl.nil])) b3 = some (true, .row [.int .i64 0]) := by rw [Heap.put_ne _ _ _ n13.symm]; exact N.c3
   refine stI N.c1 (stI c3' (Qmk (X := A) (Qn (Qn hAB A1) A3) A1 A3 hAD d1 d3 n13 ?_ ?_ (Heap.put_same ..) (kover hb ⟨r0, ?_, ?_⟩)))
   ·rw [Heap.put_ne _ _ _ d3, Heap.put_ne _ _ _ d1]; exact N.hF _ _ hFD
   ·rw [Heap.put_ne _ _ _ n13, Heap.put_same]
   ·exact ⟨_, hperm.mem_iff.1 hrowR, hr0⟩
   ·have h1 := (g1.mem r0 sum).1 (List.mem_append_right _ (List.mem_singleton.2 rfl))
    have h2 : totE (R.drop (m + j)) r0 = 0 := Qab fun e he e' => by
     have hin : (r0, sum) ∈ out ++ [(r0, sum)] := List.mem_append_right _ (List.mem_singleton.2 rfl)
     obtain ⟨x, hx, hxr⟩ := h1.1
     have := g2 x hx e he
     rw [hxr, e'] at this; exact QeA this
    have h3 : totE (esS S) r0 = sum := by
     rw [← QlF hperm, ← List.take_append_drop (m + j) R, Qbq, h2, ← h1.2]; omega
    rw [h3]; exact ho
  have ho' : outE sum = false := ho
  refine ⟨fun cs' B' => F.le B' ∧ B' b1 = some (true, .row [slv Sl.nil]) ∧ B' b3 = some (true, .row [.int .i64 0]) ∧ B' b5 = some (true, .row [slv t]) ∧ (Fresh F cs' ∧ ∀ p, cs'.p = some p → p.1 ≠ b1 ∧ p.1 ≠ b3 ∧ p.1 ≠ b5) ∧ ∃ (Bs : Heap) (ys : List Qa), OgE A Bs ((out ++ [(r0, sum)]).filter fun o => !(o.2 == 0)) cs' ys ∧ Bs.le B' ∧ Bs b1 = none ∧ Bs b3 = none ∧ Bs b5 = none ∧ Bs D = none, ?_, ?_⟩
  ·refine ift.of (fun hz => ?_) (fun hz => ?_)
   ·have hz0 : (sum == 0) = false := by simpa using hz
    refine fL (j := 0) t5 rfl (SlIs.fL tR N.hF (z := 2) (fun _ => rfl) (by omega) (i := 0) rfl hne (j := 0) (f := fun y => y.Row) (fun _ => rfl) fun y1 hy1 => ?_)
    have hy := hy1.1.1
    rw [hr0] at hy
    refine Qp1 hy hAB (by rw [← hr0]; exact hvz _ hrowR) fun t2 H197 hm2 => ?_
    have hcsH : Own H197 2 cs (ys.flatMap Qa.c) := (gOg.own.own.le gB).le hm2.le
    have hysl : cs.len ≤ R.length := by
     have h1 := gOg.own.own.1
     have h2 : (ys.flatMap Qa.c).length = ys.length * 2 := by
      have : ∀ ys : List Qa, (ys.flatMap Qa.c).length = ys.length * 2 := by
       intro ys
       induction ys with
       | nil => rfl
       | cons y ys ih => rw [List.flatMap_cons, List.length_append, ih, List.length_cons, show (Qa.c y).length = 2 from rfl]; omega
      exact this ys
     have h3 := gOg.len
     have h4 : (out.filter fun o => !(o.2 == 0)).length ≤ out.length := List.length_filter_le ..
     have h5 := N.few
     have h6 := N.le
     omega
    refine Qb5 (ys := Qa.c (⟨t2, sum⟩ : Qa)) (m := 1) hcsH.off rfl (by show (cs.len + 1) * 32 ≤ _; omega) (by omega) fun r' H199 hO hlen => ?_
    have hX := Heap.plus_le gB hm2.le
    have hm3 := hm2.sub gB
    have hXoff : ((Heap.plus Bs B H197).off cs).le (H197.off cs) := Heap.le_off ((Heap.off_le _ _).trans hX) (Heap.off_fresh cs _)
    have hO' := hO.sub hXoff
    have hFo : F.le (H197.off cs) := Heap.le_off (N.hF.trans hm2.le) N.fr.1
    have at_ : ∀ (b : Nat) (e : Bool × GO), B b = some e → (∀ p, cs.p = some p → p.1 ≠ b) → (H197.off cs) b = some e := fun b e hb hn => Heap.off_some (hm2.le _ _ hb) hn
    have x1 := at_ b1 _ N.c1 fun p hp => (N.fr.2 p hp).1
    have x3 := at_ b3 _ N.c3 fun p hp => (N.fr.2 p hp).2.1
    have x5 := at_ b5 _ t5 fun p hp => (N.fr.2 p hp).2.2
    have xD := hFo _ _ hFD
    have rN : ∀ b e, (H197.off cs) b = some e → ∀ p, r'.p = some p → p.1 ≠ b := fun b e hb p hp e' => by
     have := hO.fresh p hp
     rw [e', hb] at this; cases this
    have nn : ∀ b e, B b = some e → Bs b = none → (H197.off cs) b = some e → (((Heap.plus Bs B H197).off cs).withS r' H199) b = none := fun b e hb hbs hbo => Heap.withS_none ((Heap.off_le cs _).none (Heap.plus_none hbs (by rw [hb]; simp))) (rN b e hbo)
    refine ⟨hFo.trans hO.le, hO.le _ _ x1, hO.le _ _ x3, hO.le _ _ x5, ⟨hO.fresh.le hFo, fun p hp => ⟨rN b1 _ x1 p hp, rN b3 _ x3 p hp, rN b5 _ x5 p hp⟩⟩, _, ys ++ [(⟨t2, sum⟩ : Qa)], ?_, Heap.withS_le (hXoff.trans hO.le), nn b1 _ N.c1 gB1 x1, nn b3 _ N.c3 gB3 x3, nn b5 _ t5 gB5 x5, nn D _ (N.hF _ _ hFD) gBD xD⟩
    have := gOg.step hm3 hO'
    rw [List.filter_append]
    have e2 : ([(r0, sum)].filter fun o : En => !(o.2 == 0)) = [(r0, sum)] := by simp [hz0]
    rw [e2]; exact this
   ·have hz0 : (sum == 0) = true := by simpa using hz
    refine ⟨N.hF, N.c1, N.c3, t5, N.fr, Bs, ys, ?_, gB, gB1, gB3, gB5, gBD⟩
    rw [List.filter_append]
    have e2 : ([(r0, sum)].filter fun o : En => !(o.2 == 0)) = [] := by simp [hz0]
    rw [e2, List.append_nil]; exact gOg
  rintro cs' B' ⟨k1, k2, k3, k4, k5, Bs', ys', k6, k7, k8, k9, k10, k11⟩
  refine fL (j := 0) k4 rfl (tR.dropE hjl tc fun t' ht' htc htl' => ?_)
  refine stI k4 ⟨⟨m + j, out ++ [(r0, sum)], ⟨?_, by rw [List.length_append, List.length_singleton]; have := N.few; omega, Qn k1 F5, ?_, ?_, g1, ?_, g2, ⟨t', Heap.put_same .., ?_, htc⟩, k5, Bs', ys', k6, Qn k7 k10, k8, k9, k10, k11⟩⟩, ?_⟩
  ·rw [List.length_drop] at hjl; omega
  ·rw [Heap.put_ne _ _ _ n51.symm]; exact k2
  ·rw [Heap.put_ne _ _ _ n53.symm]; exact k3
  ·rw [List.any_append, N.ok]; simp [ho']
  ·rw [List.drop_drop] at ht'; exact ht'
  ·show lenAt b5 (B'.put b5 (.row [slv t'])) < lenAt b5 B
   rw [Qmp (Heap.put_same ..), Qmp t5, htl']; omega
 ·have hz : t.len = 0 := by have : ¬ (0 : Int) < (t.len : Int) := of_decide_eq_false h; omega
  have hme : m = R.length := by have := N.le; omega
  have c3' : (B.put b1 (.row [slv cs])) b3 = some (true, .row [.int .i64 0]) := by rw [Heap.put_ne _ _ _ n13.symm]; exact N.c3
  refine stI N.c1 (stI c3' (Qmk (X := Bs) (Qn (Qn gB gB1) gB3) gB1 gB3 gBD d1 d3 n13 ?_ ?_ (Heap.put_same ..) fun H0 hH0 => kok hb out cs ys H0 ?_ N.ok (gOg.up hH0)))
  ·rw [Heap.put_ne _ _ _ d3, Heap.put_ne _ _ _ d1]; exact N.hF _ _ hFD
  ·rw [Heap.put_ne _ _ _ n13, Heap.put_same]
  ·have := N.sum
   rw [hme, List.take_length] at this
   exact this.perm hperm
end
section
open Go Go.Proofs
theorem OgE.down {H0 H B : Heap} {es : List En} {s : Sl} {ys : List Qa} (h : OgE H B es s ys) (hle : H0.le H) : OgE H0 B es s ys :=
 ⟨h.own.down hle, h.len, fun j e y a b => ⟨(h.done j e y a b).1.down hle, (h.done j e y a b).2⟩⟩
/-- what sums tells -/
structure SumsK (S : List (En × Bool)) (H : Heap) (K : Sl → Int → Heap → Prop) : Prop where
 bad : S.any (fun x => !(mayR x.1.1)) = true → ∀ H0, H.le H0 → K Sl.nil 4 H0
 out : (∀ x ∈ S, mayR x.1.1 = true) → S.any (fun x => outE x.1.2) = true → ∀ H0, H.le H0 → K Sl.nil 80 H0
 over : (∀ x ∈ S, mayR x.1.1 = true) → S.any (fun x => outE x.1.2) = false → (∃ r, (∃ e ∈ esS S, e.1 = r) ∧ outE (totE (esS S) r) = true) → ∀ H0, H.le H0 → K Sl.nil 80 H0
 ok : (∀ x ∈ S, mayR x.1.1 = true) → S.any (fun x => outE x.1.2) = false → ∀ out cs ys H0, IsSum (esS S) out → out.any (fun o => outE o.2) = false → OgE H H0 (out.filter fun o => !(o.2 == 0)) cs ys → K cs 0 H0
theorem Ql2 {C : Ctx} {H : Heap} {pl : Sl} {ps : List (List En × Bool)} {K : Sl → Int → Heap → Prop} (hP : SlIs (PtIs H) Qf.c H pl ps) (hS : (seqS ps).length ≤ 1000000)
 (hsz : ∀ x ∈ seqS ps, vsizes x.1.1 ≤ 1000000) (k : SumsK (seqS ps) H K) : Qc7 C pl K H := by
 have hbd : ∀ x ∈ seqS ps, outE x.1.2 = false → -2147483647 ≤ doE x.2 x.1.2 ∧ doE x.2 x.1.2 ≤ 2147483647 := fun x _ ho => by
  unfold outE at ho
  have h1 : ¬ x.1.2 < -2147483647 := fun h => by rw [decide_eq_true h] at ho; cases ho
  have h2 : ¬ x.1.2 > 2147483647 := fun h => by rw [decide_eq_true h, Bool.or_true] at ho; cases ho
  unfold doE
  split
  ·rw [Qq (by omega) (by omega)]; omega
  ·omega
 apply Qk8
 unfold QhY
 intro b1 n1 b3 n3 b5 n5 b7 n7
 have q31 : b3 ≠ b1 := fun e => by rw [e, Heap.put_same] at n3; cases n3
 have m3 : H b3 = none := by rw [Heap.put_ne _ _ _ q31] at n3; exact n3
 have q53 : b5 ≠ b3 := fun e => by rw [e, Heap.put_same] at n5; cases n5
 have m5 : (H.put b1 (.row [slv Sl.nil])) b5 = none := by rw [Heap.put_ne _ _ _ q53] at n5; exact n5
 have q51 : b5 ≠ b1 := fun e => by rw [e, Heap.put_same] at m5; cases m5
 have m5 : H b5 = none := by rw [Heap.put_ne _ _ _ q51] at m5; exact m5
 have q75 : b7 ≠ b5 := fun e => by rw [e, Heap.put_same] at n7; cases n7
 have m7 := n7
 rw [Heap.put_ne _ _ _ q75] at m7
 have q73 : b7 ≠ b3 := fun e => by rw [e, Heap.put_same] at m7; cases m7
 rw [Heap.put_ne _ _ _ q73] at m7
 have q71 : b7 ≠ b1 := fun e => by rw [e, Heap.put_same] at m7; cases m7
 rw [Heap.put_ne _ _ _ q71] at m7
 have le8 : H.le ((((H.put b1 (.row [slv Sl.nil])).put b3 (.row [.int .i64 0])).put b5 (.row [slv Sl.nil])).put b7 (.row [.int .i64 0])) := (((Heap.le_put n1).trans (Heap.le_put n3)).trans (Heap.le_put n5)).trans (Heap.le_put n7)
 have c1 : ((((H.put b1 (.row [slv Sl.nil])).put b3 (.row [.int .i64 0])).put b5 (.row [slv Sl.nil])).put b7 (.row [.int .i64 0])) b1 = some (true, .row [slv Sl.nil]) := by rw [Heap.put_ne _ _ _ q71.symm, Heap.put_ne _ _ _ q51.symm, Heap.put_ne _ _ _ q31.symm, Heap.put_same]
 have c3 : ((((H.put b1 (.row [slv Sl.nil])).put b3 (.row [.int .i64 0])).put b5 (.row [slv Sl.nil])).put b7 (.row [.int .i64 0])) b3 = some (true, .row [.int .i64 0]) := by rw [Heap.put_ne _ _ _ q73.symm, Heap.put_ne _ _ _ q53.symm, Heap.put_same]
 have c5 : ((((H.put b1 (.row [slv Sl.nil])).put b3 (.row [.int .i64 0])).put b5 (.row [slv Sl.nil])).put b7 (.row [.int .i64 0])) b5 = some (true, .row [slv Sl.nil]) := by rw [Heap.put_ne _ _ _ q75.symm, Heap.put_same]
 have c7 : ((((H.put b1 (.row [slv Sl.nil])).put b3 (.row [.int .i64 0])).put b5 (.row [slv Sl.nil])).put b7 (.row [.int .i64 0])) b7 = some (true, .row [.int .i64 0]) := Heap.put_same ..
 generalize (((H.put b1 (.row [slv Sl.nil])).put b3 (.row [.int .i64 0])).put b5 (.row [slv Sl.nil])).put b7 (.row [.int .i64 0]) = H8 at *
 refine stI c7 ?_
 have le9 : H.le (H8.put b7 (.row [.int .i64 0])) := Qn le8 m7
 have c1 : (H8.put b7 (.row [.int .i64 0])) b1 = some (true, .row [slv Sl.nil]) := by rw [Heap.put_ne _ _ _ q71.symm]; exact c1
 have c3 : (H8.put b7 (.row [.int .i64 0])) b3 = some (true, .row [.int .i64 0]) := by rw [Heap.put_ne _ _ _ q73.symm]; exact c3
 have c5 : (H8.put b7 (.row [.int .i64 0])) b5 = some (true, .row [slv Sl.nil]) := by rw [Heap.put_ne _ _ _ q75.symm]; exact c5
 have c7 : (H8.put b7 (.row [.int .i64 0])) b7 = some (true, .row [.int .i64 0]) := Heap.put_same ..
 generalize H8.put b7 (.row [.int .i64 0]) = H9 at *
 apply Qk7
 unfold QhX
 intro b9 n9
 have m9 := le9.none n9
 have r1 : b1 ≠ b9 := fun e => by rw [e, n9] at c1; cases c1
 have r3 : b3 ≠ b9 := fun e => by rw [e, n9] at c3; cases c3
 have r5 : b5 ≠ b9 := fun e => by rw [e, n9] at c5; cases c5
 have r7 : b7 ≠ b9 := fun e => by rw [e, n9] at c7; cases c7
 have lA : H.le (H.put b9 (.row [slv pl])) := Heap.le_put m9
 have A9 : (H.put b9 (.row [slv pl])) b9 = some (true, .row [slv pl]) := Heap.put_same ..
 have a1 : (H.put b9 (.row [slv pl])) b1 = none := by rw [Heap.put_ne _ _ _ r1]; exact n1
 have a3 : (H.put b9 (.row [slv pl])) b3 = none := by rw [Heap.put_ne _ _ _ r3]; exact m3
 have a5 : (H.put b9 (.row [slv pl])) b5 = none := by rw [Heap.put_ne _ _ _ r5]; exact m5
 have a7 : (H.put b9 (.row [slv pl])) b7 = none := by rw [Heap.put_ne _ _ _ r7]; exact m7
 have lA11 : (H.put b9 (.row [slv pl])).le (H9.put b9 (.row [slv pl])) := fun x e hx => by
  by_cases hb : x = b9
  ·subst hb; rw [Heap.put_same] at hx ⊢; exact hx
  ·rw [Heap.put_ne _ _ _ hb] at hx ⊢; exact le9 _ _ hx
 have c1 : (H9.put b9 (.row [slv pl])) b1 = some (true, .row [slv Sl.nil]) := by rw [Heap.put_ne _ _ _ r1]; exact c1
 have c3 : (H9.put b9 (.row [slv pl])) b3 = some (true, .row [.int .i64 0]) := by rw [Heap.put_ne _ _ _ r3]; exact c3
 have c5 : (H9.put b9 (.row [slv pl])) b5 = some (true, .row [slv Sl.nil]) := by rw [Heap.put_ne _ _ _ r5]; exact c5
 have c7 : (H9.put b9 (.row [slv pl])) b7 = some (true, .row [.int .i64 0]) := by rw [Heap.put_ne _ _ _ r7]; exact c7
 have hPA : SlIs (PtIs (H.put b9 (.row [slv pl]))) Qf.c (H.put b9 (.row [slv pl])) pl ps := hP.le lA fun v _ x hx => ⟨hx.1.le lA fun _ _ _ h => h.le lA, hx.2⟩
 generalize H.put b9 (.row [slv pl]) = A at *
 generalize H9.put b9 (.row [slv pl]) = H11 at *
 refine QnU (C := C) (nx := nxS C b1 b3 b5 b7 K) hPA hS lA11 A9 ⟨a1, a3, a5, a7⟩ ⟨q31.symm, q75.symm, q51, q53, q71, q73⟩ c1 c3 c5 c7 (fun D yl E H' hAE hED hAD d1 d3 d5 d7 I => ?_) fun D E H' hAE hED hAD d1 d3 he => ?_
 ·have hmay : ∀ x ∈ seqS ps, mayR x.1.1 = true := by have := I.may; rw [List.take_length] at this; exact this
  exact Qqx hAE hED hAD d1 d3 d5 hS hsz hbd I (fun h H0 hH => k.out hmay h H0 (lA.trans hH)) (fun h h2 H0 hH => k.over hmay h h2 H0 (lA.trans hH)) fun h out cs ys H0 g1 g2 g3 => k.ok hmay h out cs ys H0 g1 g2 (g3.down lA)
 ·exact Qmk (X := A) (hAE.trans he.leE) a1 a3 hAD d1 d3 q31.symm (he.leE _ _ hED) he.c1 he.c3 fun H0 hH => k.bad he.bad H0 (lA.trans hH)
end
section
open Go Go.Proofs
theorem SumsK.up {S : List (En × Bool)} {H H2 : Heap} {K : Sl → Int → Heap → Prop} (k : SumsK S H K) (hle : H.le H2) : SumsK S H2 K :=
 ⟨fun h H0 hH => k.bad h H0 (hle.trans hH), fun h h2 H0 hH => k.out h h2 H0 (hle.trans hH), fun h h2 h3 H0 hH => k.over h h2 h3 H0 (hle.trans hH), fun h h2 out cs ys H0 g1 g2 g3 => k.ok h h2 out cs ys H0 g1 g2 (g3.down hle)⟩
section
variable {C : Ctx} {H A : Heap}
theorem parts2 {a b : Sl} {la lb : List En} {tb : Bool} {c : Nat} {m : Bool} {cap : Nat} (ha : EnL H a la) (hb : EnL H b lb) (h : H c = some (m, .row (Qf.c (⟨a, fnv false⟩ : Qf) ++ Qf.c (⟨b, fnv tb⟩ : Qf) ++ []))) :
 SlIs (PtIs H) Qf.c H (Sl.of (some (c, 0)) 2 cap) [(la, false), (lb, tb)] := by
 refine ⟨[(⟨a, fnv false⟩ : Qf), (⟨b, fnv tb⟩ : Qf)], .inr ⟨rfl, _, rfl, Qaf h fun j v hj => by simpa using hj⟩, rfl, rfl, by simp, fun i v x hv hx => ?_⟩
 match i with
 | 0 => simp at hv hx; subst hv; subst hx; exact ⟨ha, rfl⟩
 | 1 => simp at hv hx; subst hv; subst hx; exact ⟨hb, rfl⟩
 | i + 2 => simp at hv
theorem EnL.le {B : Heap} {s : Sl} {l : List En} (h : EnL A s l) (hle : A.le B) : EnL B s l := SlIs.le hle h fun _ _ _ h => h.le hle
theorem QpL {a b : Sl} {la lb : List En} {K : Sl → Int → Heap → Prop} (ha : EnL H a la) (hb : EnL H b lb) (hn : la.length + lb.length ≤ 1000000) (hsz : ∀ x ∈ la ++ lb, vsizes x.1 ≤ 1000000) (k : SumsK (seqS [(la, false), (lb, false)]) H K) : QcZ C a b K H := by
 apply QlK
 unfold QiX
 intro b1 n1
 have hle := Heap.le_put n1 (g := .row (Qf.c (⟨a, fnv false⟩ : Qf) ++ Qf.c (⟨b, fnv false⟩ : Qf) ++ [])) (m := true)
 exact Ql2 (parts2 (ha.le hle) (hb.le hle) (Heap.put_same ..)) (by simp [seqS]; omega) (fun x hx => by
  simp [seqS] at hx
  rcases hx with ⟨r, n, h, rfl⟩ | ⟨r, n, h, rfl⟩
  ·exact hsz (r, n) (List.mem_append_left _ h)
  ·exact hsz (r, n) (List.mem_append_right _ h)) (k.up hle)
theorem Qoz {a b : Sl} {la lb : List En} {K : Sl → Int → Heap → Prop} (ha : EnL H a la) (hb : EnL H b lb) (hn : la.length + lb.length ≤ 1000000) (hsz : ∀ x ∈ la ++ lb, vsizes x.1 ≤ 1000000) (k : SumsK (seqS [(la, false), (lb, true)]) H K) : Qej C a b K H := by
 apply Qk6
 unfold QhW
 intro b1 n1
 have hle := Heap.le_put n1 (g := .row (Qf.c (⟨a, fnv false⟩ : Qf) ++ Qf.c (⟨b, fnv true⟩ : Qf) ++ [])) (m := true)
 exact Ql2 (parts2 (ha.le hle) (hb.le hle) (Heap.put_same ..)) (by simp [seqS]; omega) (fun x hx => by
  simp [seqS] at hx
  rcases hx with ⟨r, n, h, rfl⟩ | ⟨r, n, h, rfl⟩
  ·exact hsz (r, n) (List.mem_append_left _ h)
  ·exact hsz (r, n) (List.mem_append_right _ h)) (k.up hle)
/-- entries alike, one by one -/
theorem Qe2 {s t : Sl} {l m : List En} {K : Bool → Heap → Prop} (hs : EnL A s l) (ht : EnL A t m) (hA : A.le H) (k : ∀ b, (b = true ↔ l = m) → K b H) : Qae C s t K H := by
 apply Qae.gh
 apply Qkd
 unfold Qhe
 have i1 := nlen hs ht
 refine ift.of (fun h => ?_) (fun h => ?_)
 ·exact ⟨H, Gh.refl _, k _ ⟨fun e => (nomatch e), fun e => absurd (by rw [e]) (i1.1 h)⟩⟩
 have hq := n3 i1 h
 refine lpEq (l := l) (m := m) hs.bd fun i D J hD hi hh hJ => ?_
 rw [hs.len]
 refine ift.of (fun h => ?_) (fun h => ?_)
 ·have hlt : i < l.length := by have := of_decide_eq_true h; omega
  have hlt2 : i < m.length := by omega
  have hAD := hA.trans hD
  refine jb (P := ¬ (l[i].2 = m[i].2 ∧ l[i].1 = m[i].1)) D ?_ fun b hb => ?_
  ·refine ⟨D, Heap.le.refl _, SlIs.fI hs hAD (z := 2) (fun _ => rfl) (by omega) rfl hlt (j := 1) (f := fun y => y.N) (fun _ => rfl) fun y1 hy1 => SlIs.fI ht hAD (z := 2) (fun _ => rfl) (by omega) rfl hlt2 (j := 1) (f := fun y => y.N) (fun _ => rfl) fun y2 hy2 => ?_⟩
   have j1 := niq hy1.2.2.2.1 hy2.2.2.2.1
   refine ift.of (fun h => ⟨rfl, n1 j1 h⟩) fun h => ?_
   refine SlIs.fL hs hAD (z := 2) (fun _ => rfl) (by omega) rfl hlt (j := 0) (f := fun y => y.Row) (fun _ => rfl) fun y3 hy3 => SlIs.fL ht hAD (z := 2) (fun _ => rfl) (by omega) rfl hlt2 (j := 0) (f := fun y => y.Row) (fun _ => rfl) fun y4 hy4 => ?_
   refine QmP (hy3.1.le hAD) (hy4.1.le hAD) hy3.2.2.1 hy3.2.1 ⟨Heap.le.refl _, rfl, n2 j1 h ?_⟩
   rw [Bool.not_eq_true', ← Bool.not_eq_true, Qby]
  have he : l[i] = m[i] ↔ l[i].2 = m[i].2 ∧ l[i].1 = m[i].1 := ⟨fun e => by rw [e]; exact ⟨rfl, rfl⟩, fun ⟨e1, e2⟩ => Prod.ext e2 e1⟩
  rw [← he] at hb
  refine ift.of (fun h => ?_) (fun h => ?_)
  ·exact ⟨H, Gh.le hD, k _ ⟨fun e => (nomatch e), fun e => absurd e (Qqg hlt hlt2 (hb.1 h))⟩⟩
  ·exact hJ hlt _ hD (QpX hlt hlt2 hh (n3 hb h))
 ·have hie : i = l.length := by have := of_decide_eq_false h; omega
  exact ⟨H, Gh.le hD, k _ ⟨fun _ => QoT hie hq hh, fun _ => rfl⟩⟩
/-- the document's error of entries -/
def chkE (l : List En) : Int := if l.any (fun e => !(mayR e.1)) then 4 else if l.any (fun e => outE e.2) then 80 else 0
theorem Qnj {s : Sl} {l : List En} {K : Int → Heap → Prop} (hs : EnL A s l) (hA : A.le H) (hsz : ∀ x ∈ l, vsizes x.1 ≤ 1000000) (k : K (chkE l) H) : QaU C s K H := by
 apply QaU.gh
 apply Qjf
 unfold QfV
 refine ⟨fun x D => H.le D ∧ ∃ i : Nat, x = (i : Int) ∧ i ≤ l.length ∧ (l.take i).any (fun e => !(mayR e.1)) = false, fun x _ => l.length - x.toNat, ⟨Heap.le.refl _, 0, rfl, Nat.zero_le _, rfl⟩, ?_⟩
 rintro _ D ⟨hD, i, rfl, hi, hq⟩
 have hb := hs.bd
 rw [hs.len]
 have hAD := hA.trans hD
 refine ift.of (fun h => ?_) (fun h => ?_)
 ·have hlt : i < l.length := by have := of_decide_eq_true h; omega
  refine SlIs.fL hs hAD (z := 2) (fun _ => rfl) (by omega) rfl hlt (j := 0) (f := fun y => y.Row) (fun _ => rfl) fun y hy => ?_
  refine Qm5 (hy.1.le hAD) hy.2.2.1 hy.2.1 (fun v hv => by have h1 := QcG hv; have h2 := hsz _ (List.getElem_mem hlt); omega) ?_
  refine ift.of (fun h2 => ?_) (fun h2 => ?_)
  ·have h3 : mayR l[i].1 = false := by simpa using h2
   have : chkE l = 4 := by unfold chkE; rw [if_pos (List.any_eq_true.2 ⟨l[i], List.getElem_mem hlt, by rw [h3]; rfl⟩)]
   rw [this] at k; exact ⟨H, Gh.le hD, k⟩
  ·have h3 : mayR l[i].1 = true := by simpa using h2
   rw [Qq (by omega) (by omega)]
   refine ⟨⟨hD, i + 1, by omega, by omega, ?_⟩, by first | omega | (dsimp only; omega)⟩
   rw [List.take_add_one, List.getElem?_eq_getElem hlt, List.any_append, hq]
   simp [h3]
 have hie : i = l.length := by have := of_decide_eq_false h; omega
 rw [hie, List.take_length] at hq
 clear h
 refine ⟨fun x D => H.le D ∧ ∃ i : Nat, x = (i : Int) ∧ i ≤ l.length ∧ (l.take i).any (fun e => outE e.2) = false, fun x _ => l.length - x.toNat, ⟨hD, 0, rfl, Nat.zero_le _, rfl⟩, ?_⟩
 rintro _ D2 ⟨hD2, i, rfl, hi, hq2⟩
 have hAD2 := hA.trans hD2
 refine ift.of (fun h => ?_) (fun h => ?_)
 ·have hlt : i < l.length := by have := of_decide_eq_true h; omega
  refine SlIs.fI hs hAD2 (z := 2) (fun _ => rfl) (by omega) rfl hlt (j := 1) (f := fun y => y.N) (fun _ => rfl) fun y hy => ?_
  refine jb (P := outE l[i].2 = true) D2 ?_ fun b hb2 => ?_
  ·refine ift.of (fun h2 => ⟨rfl, ?_⟩) (fun h2 => SlIs.fI hs hAD2 (z := 2) (fun _ => rfl) (by omega) rfl hlt (j := 1) (f := fun y => y.N) (fun _ => rfl) fun y2 hy2 => ⟨rfl, ?_⟩)
   ·rw [hy.2.2.2.1] at h2
    unfold outE; rw [h2]; simp
   ·rw [hy.2.2.2.1] at h2
    rw [hy2.2.2.2.1]
    unfold outE; rw [h2]; simp
  refine ift.of (fun h2 => ?_) (fun h2 => ?_)
  ·have : chkE l = 80 := by unfold chkE; rw [hq, if_neg (by simp), if_pos (List.any_eq_true.2 ⟨l[i], List.getElem_mem hlt, hb2.1 h2⟩)]
   rw [this] at k; exact ⟨H, Gh.le hD2, k⟩
  ·have h3 : outE l[i].2 = false := by
    cases ho : outE l[i].2 with
    | false => rfl
    | true => rw [hb2.2 ho] at h2; cases h2
   rw [Qq (by omega) (by omega)]
   refine ⟨⟨hD2, i + 1, by omega, by omega, ?_⟩, by first | omega | (dsimp only; omega)⟩
   rw [List.take_add_one, List.getElem?_eq_getElem hlt, List.any_append, hq2]
   simp [h3]
 ·have hie : i = l.length := by have := of_decide_eq_false h; omega
  rw [hie, List.take_length] at hq2
  have : chkE l = 0 := by unfold chkE; rw [hq, hq2]; simp
  rw [this] at k; exact ⟨H, Gh.le hD2, k⟩
end
end
section
open Go Go.Proofs
section
variable {C : Ctx} {H A : Heap}
theorem QO : ∀ ys : List Qa, (ys.flatMap Qa.c).length = ys.length * 2
 | [] => rfl
 | y :: ys => by rw [List.flatMap_cons, List.length_append, QO ys, List.length_cons, show (Qa.c y).length = 2 from rfl]; omega
theorem OgE.slen {B : Heap} {es : List En} {s : Sl} {ys : List Qa} (h : OgE H B es s ys) : s.len = es.length := by
 have h1 := h.own.own.1
 rw [QO, h.len] at h1; omega
/-- owned entries are entries -/
theorem OgE.en {B : Heap} {es : List En} {s : Sl} {ys : List Qa} (h : OgE H B es s ys) (hb : ∀ e ∈ es, VBs e.1 ∧ e.1.length ≤ 140737488355328 ∧ -9223372036854775808 ≤ e.2 ∧ e.2 < 9223372036854775808) (hn : es.length ≤ 140737488355328) : EnL B s es :=
 ⟨ys, h.own.own.rdsl, by rw [h.slen, h.len], h.len.symm, hn, fun i v x hv hx => by
  obtain ⟨q1, q2⟩ := h.done i v x hv hx
  obtain ⟨b1, b2, b3, b4⟩ := hb v (List.mem_of_getElem? hv)
  exact ⟨q1.row2.le (Heap.off_le s B), b1, b2, q2, b3, b4⟩⟩
theorem Qib {s0 : Sl} {l : List En} {K : Sl → Heap → Prop} (hs : EnL A s0 l) (hA : A.le H) (hn : l.length ≤ 1000000) (hsz : ∀ x ∈ l, vsizes x.1 ≤ 1000000) (k : ∀ r ys H2, OgE H H2 l r ys → K r H2) : Qbt C s0 K H := by
 apply Qi8
 unfold QfO
 refine ⟨fun x D => ∃ (i : Nat) (ys : List Qa), x.2 = (i : Int) ∧ i ≤ l.length ∧ OgE H D (l.take i) x.1 ys, fun x _ => l.length - x.2.toNat, ⟨0, [], rfl, Nat.zero_le _, OgE.nil⟩, ?_⟩
 rintro ⟨s, _⟩ D ⟨i, ys, rfl, hi, hg⟩
 rw [hs.len]
 refine ift.of (fun h => ?_) (fun h => ?_)
 ·have hlt : i < l.length := by have : (i : Int) < l.length := of_decide_eq_true h; omega
  have hHo : H.le (D.off s) := Heap.le_off hg.own.le hg.own.fresh
  have hAo := hA.trans hHo
  refine ⟨D.off s, Heap.off_le s D, SlIs.fL hs hAo (z := 2) (fun _ => rfl) (by omega) rfl hlt (j := 0) (f := fun y => y.Row) (fun _ => rfl) fun y1 hy1 => SlIs.fI hs hAo (z := 2) (fun _ => rfl) (by omega) rfl hlt (j := 1) (f := fun y => y.N) (fun _ => rfl) fun y2 hy2 => ?_⟩
  rw [hy2.2.2.2.1]
  refine QoW hy1.1 (hA.trans hg.own.le) (hsz _ (List.getElem_mem hlt)) fun t2 H23 hm => ⟨(Heap.off_le s D).trans hm.le, ?_⟩
  intro b25 n25
  have l26 := Heap.le_put n25 (g := .row (Qa.c (⟨t2, l[i].2⟩ : Qa) ++ [])) (m := true)
  have h26 : (H23.put b25 (.row (Qa.c (⟨t2, l[i].2⟩ : Qa) ++ []))) b25 = some (true, .row (Qa.c (⟨t2, l[i].2⟩ : Qa) ++ [])) := Heap.put_same ..
  generalize H23.put b25 (.row (Qa.c (⟨t2, l[i].2⟩ : Qa) ++ [])) = H26 at *
  have hm2 := hm.up l26
  refine ⟨(Heap.off_le s D).trans hm2.le, ?_⟩
  have hsl : s.len = i := by have h := hg.slen; rw [List.length_take, Nat.min_eq_left hi] at h; exact h
  refine Qdt (ys := Qa.c (⟨t2, l[i].2⟩ : Qa)) (hg.own.own.le hm2.le).off (.inr ⟨rfl, _, rfl, Qaf h26 fun j v hj => by simpa using hj⟩) rfl (by intro u hu; simp [Qa.c] at hu; rcases hu with rfl | rfl <;> rfl) (by show (s.len + 1) * 32 ≤ _; omega) (by show s.len + 1 ≤ _; omega) fun r' H29 hO hlen => ?_
  refine ⟨(Heap.le_off ((Heap.off_le s D).trans hm2.le) (Heap.off_fresh s D)).trans hO.le, ?_⟩
  rw [Qq (by dsimp only; omega) (by dsimp only; omega)]
  refine ⟨⟨i + 1, ys ++ [(⟨t2, l[i].2⟩ : Qa)], rfl, by omega, ?_⟩, by first | omega | (dsimp only; omega)⟩
  rw [List.take_add_one, List.getElem?_eq_getElem hlt]
  exact hg.step (l := l[i].1) (n := l[i].2) hm2 hO
 ·have hie : i = l.length := by have : ¬ (i : Int) < l.length := of_decide_eq_false h; omega
  rw [hie, List.take_length] at hg
  exact k _ _ _ hg
theorem Qit {s0 : Sl} {l : List En} {K : Sl → Heap → Prop} (hs : EnL A s0 l) (hA : A.le H) (hn : l.length ≤ 1000000) (k : ∀ r H2, H.le H2 → EnL H2 r l → K r H2) : Qbk C s0 K H := by
 apply Qj3
 unfold Qg4
 refine ⟨fun x D => ∃ (i : Nat) (ys : List Qa), x.2 = (i : Int) ∧ i ≤ l.length ∧ OwnF H D 2 x.1 (ys.flatMap Qa.c) ∧ ys.length = i ∧ ∀ (j : Nat) (e : En) (y : Qa), l[j]? = some e → ys[j]? = some y → EnIs A e y, fun x _ => l.length - x.2.toNat, ⟨0, [], rfl, Nat.zero_le _, OwnF.nil H 2, rfl, fun j e y _ hy => by simp at hy⟩, ?_⟩
 rintro ⟨s, _⟩ D ⟨i, ys, rfl, hi, hO, hyl, hy⟩
 rw [hs.len]
 have hsl : s.len = i := by have h1 : (ys.flatMap Qa.c).length = s.len * 2 := hO.own.1; rw [QO, hyl] at h1; omega
 refine ift.of (fun h => ?_) (fun h => ?_)
 ·have hlt : i < l.length := by have : (i : Int) < l.length := of_decide_eq_true h; omega
  have hHo : H.le (D.off s) := Heap.le_off hO.le hO.fresh
  have hAo := hA.trans hHo
  refine ⟨D.off s, Heap.off_le s D, SlIs.fL hs hAo (z := 2) (fun _ => rfl) (by omega) rfl hlt (j := 0) (f := fun y => y.Row) (fun _ => rfl) fun y1 hy1 => SlIs.fI hs hAo (z := 2) (fun _ => rfl) (by omega) rfl hlt (j := 1) (f := fun y => y.N) (fun _ => rfl) fun y2 hy2 => ?_⟩
  intro b25 n25
  have l26 := Heap.le_put n25 (g := .row (Qa.c (⟨y1.Row, y2.N⟩ : Qa) ++ [])) (m := true)
  have h26 : (D.put b25 (.row (Qa.c (⟨y1.Row, y2.N⟩ : Qa) ++ []))) b25 = some (true, .row (Qa.c (⟨y1.Row, y2.N⟩ : Qa) ++ [])) := Heap.put_same ..
  generalize D.put b25 (.row (Qa.c (⟨y1.Row, y2.N⟩ : Qa) ++ [])) = H26 at *
  refine ⟨(Heap.off_le s D).trans l26, ?_⟩
  refine Qdt (ys := Qa.c (⟨y1.Row, y2.N⟩ : Qa)) (hO.own.le l26).off (.inr ⟨rfl, _, rfl, Qaf h26 fun j v hj => by simpa using hj⟩) rfl (by intro u hu; simp [Qa.c] at hu; rcases hu with rfl | rfl <;> rfl) (by show (s.len + 1) * 32 ≤ _; omega) (by show s.len + 1 ≤ _; omega) fun r' H29 hO2 hlen => ?_
  have lo := Heap.le_off ((Heap.off_le s D).trans l26) (Heap.off_fresh s D)
  refine ⟨lo.trans hO2.le, ?_⟩
  rw [Qq (by dsimp only; omega) (by dsimp only; omega)]
  refine ⟨⟨i + 1, ys ++ [(⟨y1.Row, y2.N⟩ : Qa)], rfl, by omega, ?_, by simp [hyl], fun j e y he hj => ?_⟩, by first | omega | (dsimp only; omega)⟩
  ·rw [List.flatMap_append]
   have this : OwnF H H29 2 r' (List.flatMap Qa.c ys ++ Qa.c (⟨y1.Row, y2.N⟩ : Qa)) := hO2.down (hHo.trans lo)
   simpa using this
  ·by_cases hj' : j < ys.length
   ·rw [List.getElem?_append_left hj'] at hj; exact hy j e y he hj
   ·have hjl := (List.getElem?_eq_some_iff.1 hj).1
    rw [List.length_append, List.length_singleton] at hjl
    have hje : j = i := by omega
    subst hje
    rw [List.getElem?_append_right (by omega), hyl, Nat.sub_self] at hj
    simp only [List.getElem?_cons_zero, Option.some.injEq] at hj
    rw [List.getElem?_eq_getElem hlt] at he
    have he := Option.some.inj he
    subst he; subst hj
    exact ⟨hy1.1, hy1.2.1, hy1.2.2.1, hy2.2.2.2.1, hy2.2.2.2.2⟩
 ·have hie : i = l.length := by have : ¬ (i : Int) < l.length := of_decide_eq_false h; omega
  subst hie
  exact k _ _ hO.le ⟨ys, hO.own.rdsl, by dsimp only; omega, hyl.symm, by omega, fun j e y he hj => (hy j e y he hj).le (hA.trans hO.le)⟩
end
end
section
open Go Go.Proofs
section
variable {C : Ctx} {H A X : Heap}
theorem QlT {es : List En} {got want : Sl} {ys : List Qa} {e : Int} {K : Bool → Heap → Prop} (hg : OgE X H es got ys) (hb : ∀ e ∈ es, VBs e.1 ∧ e.1.length ≤ 140737488355328 ∧ -9223372036854775808 ≤ e.2 ∧ e.2 < 9223372036854775808) (hn : es.length ≤ 1000000)
 (hw : EnL A want es) (hA : A.le H) (k : ∀ H2, X.le H2 → K true H2) : Qcw C got e want e K H := by
 apply Qj4
 unfold Qg5
 have hen := hg.en hb (by omega)
 refine ⟨fun b E => b = false ∧ H.le E, ?_, ?_⟩
 ·refine Qt (by simp) ?_
  refine Qit hen (Heap.le.refl _) hn fun r5 H6 h6 he6 => ?_
  refine Qe2 (A := H6) he6 (EnL.le hw (hA.trans h6)) (Heap.le.refl _) fun b hb2 => ⟨?_, h6⟩
  rw [hb2.2 rfl]; rfl
 rintro _ E ⟨rfl, hE⟩
 refine Qt rfl ?_
 have hsl := hg.slen
 have hyl := hg.len
 have hXE := hg.own.le.trans hE
 have hfr := hg.own.fresh
 have hOE := hg.own.own.le hE
 obtain ⟨q1, q2, q3, q4⟩ := hOE
 have hcell : ∀ g, got.p = some (g, 0) → ∃ cs, E g = some (true, .row cs) ∧ 2 * es.length ≤ cs.length ∧ ∀ j, (h : j < ys.length) → cs[j * 2]? = some (slv ys[j].Row) := fun g hgp => by
  rcases q4 with ⟨p0, _⟩ | ⟨b, sp, hp, hbk, hc⟩
  ·rw [p0] at hgp; cases hgp
  ·rw [hp] at hgp; injection hgp with hgp; injection hgp with hgp _; subst hgp
   refine ⟨_, hbk, by rw [List.length_append, QO]; omega, fun j h => ?_⟩
   rw [List.getElem?_append_left (by rw [QO]; omega)]
   have := QgC Qa.c 2 (fun _ => rfl) ys j _ (List.getElem?_eq_getElem h) 0 _ rfl
   rw [Nat.add_zero] at this; exact this
 have hSp : ∀ j, (h : j < ys.length) → ∃ k, Sp (fun c => X c = none ∧ ∀ p, got.p = some p → p.1 ≠ c) E k ys[j].Row := fun j h => by
  have hj : j < es.length := by omega
  obtain ⟨m1, _⟩ := hg.done j _ _ (List.getElem?_eq_getElem hj) (List.getElem?_eq_getElem h)
  obtain ⟨k, hk⟩ := m1.sp
  refine ⟨k, hk.to fun b e' hb' he' => ⟨⟨hb', fun p hp hpc => ?_⟩, hE _ _ (Heap.off_le _ _ _ _ he')⟩⟩
  have := Heap.off_fresh got H p hp
  rw [hpc, he'] at this; cases this
 refine ⟨fun x D => X.le D ∧ ∃ i : Nat, x = (i : Int) ∧ i ≤ es.length ∧ (∀ g, got.p = some (g, 0) → ∃ cs, D g = some (true, .row cs) ∧ 2 * es.length ≤ cs.length ∧ ∀ j, (h : j < ys.length) → cs[j * 2]? = some (slv ys[j].Row)) ∧ ∀ j, (h : j < ys.length) → ∃ k, Sp (fun c => X c = none ∧ ∀ p, got.p = some p → p.1 ≠ c) D k ys[j].Row, fun x _ => es.length - x.toNat, ⟨hXE, 0, rfl, Nat.zero_le _, hcell, hSp⟩, ?_⟩
 rintro _ D ⟨hXD, i, rfl, hi, hc, hS⟩
 rw [hsl]
 refine ift.of (fun h => ?_) (fun h => k D hXD)
 have hlt : i < es.length := by have := of_decide_eq_true h; omega
 have hlt2 : i < ys.length := by omega
 rcases q4 with ⟨p0, c0⟩ | ⟨g, sp, hp, _, _⟩
 ·omega
 obtain ⟨cs, d1, d2, d3⟩ := hc g hp
 refine ⟨(g, 0), hp, q2, by omega, by omega, ?_⟩
 refine ⟨ys[i].Row, ?_, ?_⟩
 ·show rd D (g, 0 + (i : Int).toNat * 2 + 0) = _
  rw [QeG d1, show 0 + (i : Int).toNat * 2 + 0 = i * 2 by omega]
  exact d3 i hlt2
 obtain ⟨k1, hk1⟩ := hS i hlt2
 refine QoR hk1 fun H22 hsame hkeep => ?_
 have d1' : H22 g = some (true, .row cs) := by rw [hsame g fun hN => hN.2 _ hp rfl]; exact d1
 have hX22 : X.le H22 := fun b v hb' => by rw [hsame b fun hN => by rw [hN.1] at hb'; cases hb']; exact hXD _ _ hb'
 rw [Qq (by omega) (by omega)]
 refine ⟨⟨hX22, i + 1, by omega, by omega, fun g' hg' => ?_, fun j h => ?_⟩, by first | omega | (dsimp only; omega)⟩
 ·rw [hp] at hg'; injection hg' with hg'; injection hg' with hg' _; subst hg'
  exact ⟨_, d1', d2, fun j h => d3 j h⟩
 ·obtain ⟨k2, hk2⟩ := hS j h
  exact ⟨k2, hkeep _ _ hk2⟩
end
end
section
open Go Go.Proofs
theorem Qqy (x : Int) : -9223372036854775808 ≤ w .i64 x ∧ w .i64 x < 9223372036854775808 := by
 have h : w .i64 x = if x % 18446744073709551616 ≥ 9223372036854775808 then x % 18446744073709551616 - 18446744073709551616 else x % 18446744073709551616 := by
  unfold w IntKind.wrap
  simp [IntKind.signed, IntKind.bits]
 rw [h]
 by_cases hc : x % 18446744073709551616 ≥ 9223372036854775808
 ·rw [if_pos hc]; omega
 ·rw [if_neg hc]; omega
theorem Qnb {xs : List Qa} : ∀ u ∈ xs.flatMap Qa.c, u.oneCell' = true := by
 intro u hu
 obtain ⟨x, _, hx⟩ := List.mem_flatMap.1 hu
 simp [Qa.c] at hx
 rcases hx with rfl | rfl <;> rfl
section
variable {C : Ctx} {H A : Heap}
theorem Qna {a b : Sl} {la lb : List En} {tb : Bool} {K : Sl → Heap → Prop} (ha : EnL A a la) (hb : EnL A b lb) (hA : A.le H) (hn : la.length + lb.length ≤ 1000000) (k : ∀ r H2, H.le H2 → EnL H2 r (la ++ lb.map fun e => (e.1, doE tb e.2)) → K r H2) : Qdv C a b tb K H := by
 apply Qke
 unfold Qhf
 intro b1 n1
 obtain ⟨xs, x1, x2, x3, x4, x5⟩ := ha
 have l1 := Heap.le_put n1 (g := .row []) (m := true)
 refine Qdt (QjM (z := 2) n1) (QbR (hA.trans l1) x1) (by rw [QO, ← x2]; rfl) Qnb (by show (0 + a.len) * 32 ≤ _; omega) (by show 0 + a.len ≤ _; omega) fun r3 H4 hO hlen => ?_
 rw [List.nil_append] at hO
 refine ⟨fun x D => ∃ (i : Nat) (ys : List Qa), x.2 = (i : Int) ∧ i ≤ lb.length ∧ OwnF H D 2 x.1 ((xs ++ ys).flatMap Qa.c) ∧ ys.length = i ∧ ∀ (j : Nat) (e : En) (y : Qa), lb[j]? = some e → ys[j]? = some y → EnIs A (e.1, doE tb e.2) y, fun x _ => lb.length - x.2.toNat, ⟨0, [], rfl, Nat.zero_le _, by rw [List.append_nil]; exact hO, rfl, fun j e y _ hy => by simp at hy⟩, ?_⟩
 rintro ⟨s, _⟩ D ⟨i, ys, rfl, hi, hO, hyl, hy⟩
 rw [hb.len]
 have hsl : s.len = xs.length + i := by have h1 : ((xs ++ ys).flatMap Qa.c).length = s.len * 2 := hO.own.1; rw [QO, List.length_append, hyl] at h1; omega
 refine ift.of (fun h => ?_) (fun h => ?_)
 ·have hlt : i < lb.length := by have : (i : Int) < lb.length := of_decide_eq_true h; omega
  have hAD := hA.trans hO.le
  refine hb.ld hAD (z := 2) (fun _ => rfl) (by omega) rfl hlt fun x14 hx14 => ?_
  intro b16 n16
  refine nwT rfl ?_
  have l16 := Heap.le_put n16 (g := .row (Qa.c x14)) (m := true)
  have h16 : (D.put b16 (.row (Qa.c x14))) b16 = some (true, .row (Qa.c x14)) := Heap.put_same ..
  have hput : ∀ g, (D.put b16 (.row (Qa.c x14))).put b16 g = D.put b16 g := fun g => Heap.put_put ..
  have lg : ∀ g, D.le (D.put b16 g) := fun g => Heap.le_put n16
  refine ⟨fun _ E => D.le E ∧ E b16 = some (true, .row (Qa.c (⟨x14.Row, doE tb x14.N⟩ : Qa))), ?_, ?_⟩
  ·cases tb with
   | true =>
    refine QA rfl (fI h16 rfl ⟨_, h16, by simp [Qa.c], ?_⟩)
    rw [hput]
    exact ⟨lg _, Heap.put_same ..⟩
   | false => exact Qt rfl ⟨l16, h16⟩
  rintro _ E ⟨lE, hE16⟩
  refine bxT hE16 ?_
  refine Qb5 (ys := Qa.c (⟨x14.Row, doE tb x14.N⟩ : Qa)) (m := 1) (hO.up lE) rfl (by show (s.len + 1) * 32 ≤ _; omega) (by show s.len + 1 ≤ _; omega) fun r' H30 hO2 hlen2 => ?_
  rw [Qq (by dsimp only; omega) (by dsimp only; omega)]
  refine ⟨⟨i + 1, ys ++ [(⟨x14.Row, doE tb x14.N⟩ : Qa)], rfl, by omega, ?_, by simp [hyl], fun j e y he hj => ?_⟩, by first | omega | (dsimp only; omega)⟩
  ·have this : OwnF H H30 2 r' ((xs ++ ys).flatMap Qa.c ++ Qa.c (⟨x14.Row, doE tb x14.N⟩ : Qa)) := hO2
   rw [← List.append_assoc, List.flatMap_append]
   simpa using this
  ·by_cases hj' : j < ys.length
   ·rw [List.getElem?_append_left hj'] at hj; exact hy j e y he hj
   ·have hjl := (List.getElem?_eq_some_iff.1 hj).1
    rw [List.length_append, List.length_singleton] at hjl
    have hje : j = i := by omega
    subst hje
    rw [List.getElem?_append_right (by omega), hyl, Nat.sub_self] at hj
    simp only [List.getElem?_cons_zero, Option.some.injEq] at hj
    rw [List.getElem?_eq_getElem hlt] at he
    have he := Option.some.inj he
    subst he; subst hj
    obtain ⟨e1, e2, e3, e4, e5, e6⟩ := hx14
    refine ⟨e1, e2, e3, by show doE tb x14.N = _; rw [e4], ?_⟩
    unfold doE
    split
    ·exact Qqy _
    ·exact ⟨e5, e6⟩
 ·have hie : i = lb.length := by have : ¬ (i : Int) < lb.length := of_decide_eq_false h; omega
  subst hie
  refine k _ _ hO.le ⟨xs ++ ys, hO.own.rdsl, by rw [List.length_append]; dsimp only; omega, by simp [x3, hyl], by rw [List.length_append, List.length_map]; omega, fun j v x hv hx => ?_⟩
  by_cases hj : j < xs.length
  ·rw [List.getElem?_append_left hj] at hx
   rw [List.getElem?_append_left (by omega)] at hv
   exact (x5 j v x hv hx).le (hA.trans hO.le)
  ·rw [List.getElem?_append_right (by omega)] at hx
   rw [List.getElem?_append_right (by omega), List.getElem?_map, x3] at hv
   cases hl : lb[j - xs.length]? with
   | none => rw [hl] at hv; cases hv
   | some e =>
    rw [hl] at hv
    injection hv with hv; subst hv
    exact (hy _ e x hl hx).le (hA.trans hO.le)
end
end
section
open Go Go.Proofs
theorem Qla {a b c d : Int} (h : (decide (a < b) && decide (c < d)) = false) : b ≤ a ∨ d ≤ c := by
 rw [Bool.and_eq_false_iff] at h
 rcases h with h | h
 ·left; have := of_decide_eq_false h; omega
 ·right; have := of_decide_eq_false h; omega
theorem Ql8 {a b c d : Int} (h : (decide (a < b) && decide (c < d)) = true) : a < b ∧ c < d := by
 rw [Bool.and_eq_true] at h
 exact ⟨of_decide_eq_true h.1, of_decide_eq_true h.2⟩
theorem Qid {C : Ctx} {H A : Heap} {s : Sl} {l : List En} {K : Bool → Heap → Prop} (hs : EnL A s l) (hA : A.le H) (k : ∀ b, (b = false → l.length ≤ 120 ∧ ∀ e ∈ l, vsizes e.1 ≤ 120) → K b H) : Qbu C s K H := by
 apply Qi9
 unfold QfP
 have hb := hs.bd
 rw [hs.len]
 refine ⟨fun x D => D = H ∧ ∃ i n : Nat, x.1 = (n : Int) ∧ x.2 = (i : Int) ∧ i ≤ l.length ∧ n ≤ 562949953421312 ∧ l.length ≤ n ∧ (n < 120 → ∀ j, (h : j < l.length) → j < i → vsizes l[j].1 ≤ n), fun x _ => l.length - x.2.toNat, ⟨rfl, 0, l.length, rfl, rfl, Nat.zero_le _, by omega, Nat.le_refl _, fun _ j h hj => by omega⟩, ?_⟩
 rintro ⟨_, _⟩ D ⟨rfl, i, n, rfl, rfl, hi, hn, hln, hq⟩
 refine ift.of (fun h => ?_) (fun h => ?_)
 ·have h0 := Ql8 h
  have hlt : i < l.length := by have := h0.1; dsimp only at this; omega
  have hn5 : n < 120 := by have := h0.2; dsimp only at this; omega
  refine SlIs.fL hs hA (z := 2) (fun _ => rfl) (by omega) rfl hlt (j := 0) (f := fun y => y.Row) (fun _ => rfl) fun y1 hy1 => ?_
  have hrl := hy1.1.len
  have hrb := hy1.2.2.1
  rw [hrl, Qq (by dsimp only; omega) (by dsimp only; omega)]
  refine ⟨fun x E => E = D ∧ ∃ m n2 : Nat, x.1 = (n2 : Int) ∧ x.2 = (m : Int) ∧ m ≤ l[i].1.length ∧ n2 ≤ 562949953421312 ∧ n ≤ n2 ∧ (n2 < 120 → n + l[i].1.length + vsizes (l[i].1.take m) ≤ n2), fun x _ => l[i].1.length - x.2.toNat, ⟨rfl, 0, n + l[i].1.length, by dsimp only; omega, rfl, Nat.zero_le _, by omega, by omega, fun _ => by simp [vsizes]⟩, ?_⟩
  rintro ⟨_, _⟩ E ⟨rfl, m, n2, rfl, rfl, hm, hn2, hnn, hq2⟩
  refine SlIs.fL hs hA (z := 2) (fun _ => rfl) (by omega) rfl hlt (j := 0) (f := fun y => y.Row) (fun _ => rfl) fun y2 hy2 => ?_
  rw [hy2.1.len]
  refine ift.of (fun h => ?_) (fun h => ?_)
  ·have h1 := Ql8 h
   have hmt : m < l[i].1.length := by have := h1.1; dsimp only at this; omega
   have hn25 : n2 < 120 := by have := h1.2; dsimp only at this; omega
   refine SlIs.fL hs hA (z := 2) (fun _ => rfl) (by omega) rfl hlt (j := 0) (f := fun y => y.Row) (fun _ => rfl) fun y3 hy3 => ?_
   refine SlIs.ld (VLs hy3.1 hy3.2.2.1) hA (z := 4) (fun _ => rfl) (by omega) rfl hmt fun x hx => ?_
   refine Qoh (m := 120) (hx.le hA) (hy3.2.1.mem (List.getElem_mem hmt)) (by omega) (by omega) fun r r1 r2 r3 => ?_
   rw [Qq (by dsimp only; omega) (by dsimp only; omega), Qq (by dsimp only; omega) (by dsimp only; omega)]
   refine ⟨⟨rfl, m + 1, n2 + r, by dsimp only; omega, by dsimp only; omega, by omega, by omega, by omega, fun h5 => ?_⟩, by first | omega | (dsimp only; omega)⟩
   have h6 := hq2 hn25
   have h7 := r3 (by omega)
   rw [Qi2 hmt]; omega
  ·have h1 := Qla h
   dsimp only at h1
   rw [Qq (by dsimp only; omega) (by dsimp only; omega)]
   refine ⟨⟨rfl, i + 1, n2, rfl, by dsimp only; omega, by omega, hn2, by omega, fun h5 j hj hji => ?_⟩, by first | omega | (dsimp only; omega)⟩
   have hme : m = l[i].1.length := by omega
   have h6 := hq2 h5
   rw [hme, List.take_length] at h6
   by_cases he : j = i
   ·subst he; omega
   ·have := hq (by omega) j hj (by omega); omega
 ·have h1 := Qla h
  dsimp only at h1
  refine k _ fun hf => ?_
  have hn5 : n < 120 := by have : ¬ (n : Int) ≥ 120 := of_decide_eq_false hf; omega
  have hie : i = l.length := by omega
  refine ⟨by omega, fun e he => ?_⟩
  obtain ⟨j, hj, rfl⟩ := List.getElem_of_mem he
  have := hq hn5 j hj (by omega); omega
end
section
open Go Go.Proofs
theorem spl2 {C Z sp N : List Value} {a : Nat} (hZ : Z.length = 2) (hN : N.length = 2) (ha : a * 2 ≤ C.length) : splice (splice (C ++ Z ++ sp) ((a + 1) * 2) (C.drop (a * 2))) (a * 2) N = C.take (a * 2) ++ (N ++ C.drop (a * 2)) ++ sp := by
 have e1 : splice (C ++ Z ++ sp) ((a + 1) * 2) (C.drop (a * 2)) = (C ++ Z).take (a * 2 + 2) ++ (C.drop (a * 2) ++ sp) := by
  unfold splice
  have h1 : (C ++ Z ++ sp).take ((a + 1) * 2) = (C ++ Z).take (a * 2 + 2) := by
   rw [show (a + 1) * 2 = a * 2 + 2 by omega, List.take_append_of_le_length (by rw [List.length_append]; omega)]
  have h2 : (C ++ Z ++ sp).drop ((a + 1) * 2 + (C.drop (a * 2)).length) = sp := by
   rw [List.length_drop, List.drop_append, List.drop_of_length_le (by rw [List.length_append]; omega), List.nil_append, show (a + 1) * 2 + (C.length - a * 2) - (C ++ Z).length = 0 by rw [List.length_append]; omega, List.drop_zero]
  rw [h1, h2]; simp
 rw [e1]
 unfold splice
 have hl : ((C ++ Z).take (a * 2 + 2)).length = a * 2 + 2 := by rw [List.length_take, List.length_append]; omega
 have h3 : ((C ++ Z).take (a * 2 + 2) ++ (C.drop (a * 2) ++ sp)).take (a * 2) = C.take (a * 2) := by
  rw [List.take_append_of_le_length (by omega), List.take_take, Nat.min_eq_left (by omega), List.take_append_of_le_length ha]
 have h4 : ((C ++ Z).take (a * 2 + 2) ++ (C.drop (a * 2) ++ sp)).drop (a * 2 + N.length) = C.drop (a * 2) ++ sp := by
  rw [hN, List.drop_append, List.drop_of_length_le (by omega), List.nil_append, hl, Nat.sub_self, List.drop_zero]
 rw [h3, h4]; simp
theorem Qih : ∀ (ys : List Qa) (a : Nat), (ys.flatMap Qa.c).take (a * 2) = (ys.take a).flatMap Qa.c
 | [], a => by simp
 | y :: ys, 0 => by simp
 | y :: ys, a + 1 => by
  rw [List.flatMap_cons, List.take_succ_cons, List.flatMap_cons, List.take_append, show (Qa.c y).length = 2 from rfl, List.take_of_length_le (by rw [show (Qa.c y).length = 2 from rfl]; omega), show (a + 1) * 2 - 2 = a * 2 by omega, Qih ys a]
theorem QkY : ∀ (ys : List Qa) (a : Nat), (ys.flatMap Qa.c).drop (a * 2) = (ys.drop a).flatMap Qa.c
 | [], a => by simp
 | y :: ys, 0 => by simp
 | y :: ys, a + 1 => by
  rw [List.flatMap_cons, List.drop_succ_cons, List.drop_append, show (Qa.c y).length = 2 from rfl, List.drop_of_length_le (by rw [show (Qa.c y).length = 2 from rfl]; omega), List.nil_append, show (a + 1) * 2 - 2 = a * 2 by omega, QkY ys a]
theorem Qoj : ∀ (ys : List Qa) (i : Nat) (n : Int) (h : i < ys.length) (sp : List Value), ((ys.flatMap Qa.c) ++ sp).set (i * 2 + 1) (.int .i64 n) = ((ys.set i (⟨ys[i].Row, n⟩ : Qa)).flatMap Qa.c) ++ sp
 | [], i, n, h, sp => by simp at h
 | y :: ys, 0, n, h, sp => by simp [Qa.c]
 | y :: ys, i + 1, n, h, sp => by
  have ih := Qoj ys i n (by simpa using h) sp
  have e : (i + 1) * 2 + 1 = (i * 2 + 1) + 1 + 1 := by omega
  rw [List.set_cons_succ, List.flatMap_cons, List.flatMap_cons, e]
  show (slv y.Row :: Value.int .i64 y.N :: (ys.flatMap Qa.c ++ sp)).set (i * 2 + 1 + 1 + 1) (.int .i64 n) = _
  rw [List.set_cons_succ, List.set_cons_succ, ih]
  rfl
theorem QkC {H : Heap} {s : Sl} {g : Nat} {o : GO} {x : Nat} (hp : s.p = some (g, x)) : (H.put g o).off s = H.off s := by
 funext b
 unfold Heap.off
 by_cases hb : g = b
 ·subst hb; rw [if_pos (by rw [hp]; rfl), if_pos (by rw [hp]; rfl)]
 ·rw [if_neg (by rw [hp]; simpa using hb), if_neg (by rw [hp]; simpa using hb), Heap.put_ne _ _ _ fun e => hb e.symm]
/-- an owned entry's number is set -/
theorem OgE.setN {H B : Heap} {es : List En} {s : Sl} {ys : List Qa} {i : Nat} {n : Int} {g : Nat} {c : List Value} (h : OgE H B es s ys) (hi : i < es.length) (hp : s.p = some (g, 0)) (hc : B g = some (true, .row c)) :
 OgE H (B.put g (.row (c.set (i * 2 + 1) (.int .i64 n)))) (es.set i (es[i].1, n)) s (ys.set i (⟨(ys[i]'(by rw [h.len]; exact hi)).Row, n⟩ : Qa)) := by
 have hi2 : i < ys.length := by rw [h.len]; exact hi
 obtain ⟨hle, ⟨q1, q2, q3, q4⟩, hf⟩ := h.own
 have hHg : H g = none := hf _ hp
 refine ⟨⟨Qn hle hHg, ⟨?_, q2, q3, ?_⟩, hf⟩, by simp [h.len], fun j e y he hy => ?_⟩
 ·rw [QO, List.length_set, ← QO]; exact q1
 ·rcases q4 with ⟨p0, _⟩ | ⟨g', sp, hp', hb, hcl⟩
  ·rw [p0] at hp; cases hp
  ·rw [hp] at hp'; injection hp' with hp'; injection hp' with hp' _; subst hp'
   rw [hc] at hb; injection hb with hb; injection hb with _ hb; injection hb with hb; subst hb
   refine .inr ⟨g, sp, hp, ?_, ?_⟩
   ·rw [Heap.put_same, Qoj ys i n hi2 sp]
   ·rw [List.length_append, QO, List.length_set, ← QO, ← List.length_append]; exact hcl
 ·rw [QkC hp]
  by_cases hij : i = j
  ·subst hij
   rw [List.getElem?_set_self hi] at he
   rw [List.getElem?_set_self hi2] at hy
   injection he with he; injection hy with hy; subst he; subst hy
   obtain ⟨m1, _⟩ := h.done i _ _ (List.getElem?_eq_getElem hi) (List.getElem?_eq_getElem hi2)
   exact ⟨m1, rfl⟩
  ·rw [List.getElem?_set_ne hij] at he hy
   exact h.done j e y he hy
end
section
open Go Go.Proofs
theorem OgE.insert {H B B1 B3 : Heap} {es : List En} {s r t : Sl} {ys : List Qa} {a : Nat} {l : List V} {n : Int} {g : Nat} {sp : List Value} (h : OgE H B es s ys) (ha : a ≤ es.length) (hO : OwnF (B.off s) B1 2 r (ys.flatMap Qa.c ++ Qa.c (⟨Sl.nil, 0⟩ : Qa)))
 (hp : r.p = some (g, 0)) (hg : B1 g = some (true, .row (ys.flatMap Qa.c ++ Qa.c (⟨Sl.nil, 0⟩ : Qa) ++ sp))) (hcap : r.cap * 2 ≤ (ys.flatMap Qa.c ++ Qa.c (⟨Sl.nil, 0⟩ : Qa) ++ sp).length)
 (hm : Made (B1.put g (.row (splice (ys.flatMap Qa.c ++ Qa.c (⟨Sl.nil, 0⟩ : Qa) ++ sp) ((a + 1) * 2) ((ys.flatMap Qa.c).drop (a * 2))))) B3 l t) :
 OgE H (B3.put g (.row (splice (splice (ys.flatMap Qa.c ++ Qa.c (⟨Sl.nil, 0⟩ : Qa) ++ sp) ((a + 1) * 2) ((ys.flatMap Qa.c).drop (a * 2))) (a * 2) (Qa.c (⟨t, n⟩ : Qa))))) (es.take a ++ (l, n) :: es.drop a) r (ys.take a ++ (⟨t, n⟩ : Qa) :: ys.drop a) := by
 have hoff : H.le (B.off s) := Heap.le_off h.own.le h.own.fresh
 have hHg : H g = none := hO.fresh.le hoff _ hp
 have hfr : Fresh H r := hO.fresh.le hoff
 have hH1 : H.le B1 := hoff.trans hO.le
 have hH2 := Qn (g := .row (splice (ys.flatMap Qa.c ++ Qa.c (⟨Sl.nil, 0⟩ : Qa) ++ sp) ((a + 1) * 2) ((ys.flatMap Qa.c).drop (a * 2)))) hH1 hHg
 have hmo := hm.off hH2 hfr fun p hp' => by rw [hp] at hp'; injection hp' with hp'; subst hp'; exact ⟨_, Heap.put_same ..⟩
 have l1 : (B.off s).le (B1.off r) := Heap.le_off hO.le hO.fresh
 have l3 : (B1.off r).le (B3.off r) := by
  have h2 := Heap.le_off (A := (B1.put g (.row (splice (ys.flatMap Qa.c ++ Qa.c (⟨Sl.nil, 0⟩ : Qa) ++ sp) ((a + 1) * 2) ((ys.flatMap Qa.c).drop (a * 2))))).off r) ((Heap.off_le r _).trans hm.le) (Heap.off_fresh r _)
  rw [QkC hp] at h2; exact h2
 have hal : a * 2 ≤ (ys.flatMap Qa.c).length := by rw [QO, h.len]; omega
 rw [spl2 rfl rfl hal, Qih, QkY]
 have hcells : (ys.take a).flatMap Qa.c ++ (Qa.c (⟨t, n⟩ : Qa) ++ (ys.drop a).flatMap Qa.c) = (ys.take a ++ (⟨t, n⟩ : Qa) :: ys.drop a).flatMap Qa.c := by
  rw [List.flatMap_append, List.flatMap_cons]
 rw [hcells]
 obtain ⟨q1, q2, q3, q4⟩ := hO.own
 have hyl : (ys.take a ++ (⟨t, n⟩ : Qa) :: ys.drop a).length = ys.length + 1 := by
  rw [List.length_append, List.length_cons, List.length_take, List.length_drop, h.len]; omega
 refine ⟨⟨Qn (hH2.trans hm.le) hHg, ⟨?_, q2, q3, .inr ⟨g, sp, hp, Heap.put_same .., ?_⟩⟩, hfr⟩, by rw [hyl, List.length_append, List.length_cons, List.length_take, List.length_drop, h.len]; omega, fun j e y he hy => ?_⟩
 ·rw [List.length_append, QO] at q1
  rw [QO, hyl]
  have : (Qa.c (⟨Sl.nil, 0⟩ : Qa)).length = 2 := rfl
  omega
 ·rw [List.length_append, QO, hyl]
  rw [List.length_append, List.length_append, QO] at hcap
  have : (Qa.c (⟨Sl.nil, 0⟩ : Qa)).length = 2 := rfl
  omega
 ·rw [QkC hp]
  have l13 := l1.trans l3
  have hta : (es.take a).length = a := by rw [List.length_take]; omega
  have hty : (ys.take a).length = a := by rw [List.length_take, h.len]; omega
  by_cases hj : j < a
  ·rw [List.getElem?_append_left (by omega), List.getElem?_take_of_lt hj] at he
   rw [List.getElem?_append_left (by omega), List.getElem?_take_of_lt hj] at hy
   obtain ⟨m1, m2⟩ := h.done j e y he hy
   exact ⟨m1.up l13, m2⟩
  ·rw [List.getElem?_append_right (by omega), hta] at he
   rw [List.getElem?_append_right (by omega), hty] at hy
   by_cases hj0 : j = a
   ·subst hj0
    rw [Nat.sub_self] at he hy
    simp only [List.getElem?_cons_zero, Option.some.injEq] at he hy
    subst he; subst hy
    exact ⟨hmo, rfl⟩
   ·obtain ⟨d, hd⟩ : ∃ d, j - a = d + 1 := ⟨j - a - 1, by omega⟩
    rw [hd, List.getElem?_cons_succ, List.getElem?_drop] at he hy
    obtain ⟨m1, m2⟩ := h.done (a + d) e y he hy
    exact ⟨m1.up l13, m2⟩
end
section
open Go Go.Proofs
def okE (e : En) : Prop := VBs e.1 ∧ e.1.length ≤ 140737488355328 ∧ -9223372036854775808 ≤ e.2 ∧ e.2 < 9223372036854775808
section
variable {C : Ctx} {H A : Heap}
/-- where the document's entries stand -/
structure DC (H : Heap) (l : List En) (i : Nat) (outs : List En) (s : Sl) (D : Heap) : Prop where
 og : ∃ ys, OgE H D outs s ys
 sum : IsSum (l.take i) outs
 few : outs.length ≤ i
theorem QnD {es out : List En} (h : IsSum es out) {o : En} (ho : o ∈ out) : (∃ e ∈ es, e.1 = o.1) ∧ o.2 = totE es o.1 := (h.mem o.1 o.2).1 ho
theorem DC.ok {l : List En} {i : Nat} {outs : List En} {s : Sl} {D : Heap} (h : DC H l i outs s D) (hl : l.length ≤ 1000000) (hb : ∀ e ∈ l, VBs e.1 ∧ e.1.length ≤ 140737488355328) (hN : ∀ e ∈ l, -2147483647 ≤ e.2 ∧ e.2 ≤ 2147483647) : ∀ e ∈ outs, okE e ∧ -(2147483647 * (l.length : Int)) ≤ e.2 ∧ e.2 ≤ 2147483647 * (l.length : Int) := fun e he => by
 obtain ⟨⟨x, hx, hxe⟩, hn⟩ := QnD h.sum he
 have h1 := hb x (List.mem_of_mem_take hx)
 have h2 := Ql4 (r := e.1) (l := l.take i) fun y hy => hN y (List.mem_of_mem_take hy)
 have h3 : (l.take i).length ≤ l.length := by rw [List.length_take]; omega
 rw [← hn] at h2
 exact ⟨⟨by rw [← hxe]; exact h1.1, by rw [← hxe]; exact h1.2, by omega, by omega⟩, by omega, by omega⟩
theorem Qns {l outs : List En} {i a : Nat} {r : List V} {m : Int} (h : IsSum (l.take i) outs) (hi : i < l.length) (hr : l[i] = (r, m)) (ha : a ≤ outs.length) (hlt : ∀ j, (hj : j < outs.length) → j < a → cmpR outs[j].1 r < 0) (hge : ∀ hj : a < outs.length, ¬ cmpR outs[a].1 r < 0)
 (hmr : mayR r = true) (hmo : ∀ o ∈ outs, mayR o.1 = true) :
 (∀ hj : a < outs.length, cmpR outs[a].1 r = 0 → IsSum (l.take (i + 1)) (outs.set a (outs[a].1, outs[a].2 + m))) ∧ ((∀ hj : a < outs.length, cmpR outs[a].1 r ≠ 0) → IsSum (l.take (i + 1)) (outs.take a ++ (r, m) :: outs.drop a)) := by
 have htk : l.take (i + 1) = l.take i ++ [(r, m)] := by rw [List.take_add_one, List.getElem?_eq_getElem hi, hr]; rfl
 rw [htk]
 refine ⟨fun hj h0 => ?_, fun h0 => ?_⟩
 ·have e0 := (Qgy (hmo _ (List.getElem_mem hj)) hmr).1 h0
  have es : outs = outs.take a ++ (r, outs[a].2) :: outs.drop (a + 1) := by
   conv => lhs; rw [← List.take_append_drop a outs, List.drop_eq_getElem_cons hj]
   rw [← e0]
  have e2 : outs.set a (outs[a].1, outs[a].2 + m) = outs.take a ++ (r, outs[a].2 + m) :: outs.drop (a + 1) := by
   rw [List.set_eq_take_append_cons_drop, if_pos hj, e0]
  rw [e2]
  rw [es] at h
  exact h.add
 ·rw [← List.take_append_drop a outs] at h
  refine h.ins (fun x hx => ?_) fun y hy => ?_
  ·obtain ⟨j, hj, rfl⟩ := List.getElem_of_mem hx
   rw [List.length_take] at hj
   rw [List.getElem_take]
   exact hlt j (by omega) (by omega)
  ·have haj : a < outs.length := by
    rcases Nat.lt_or_ge a outs.length with h1 | h1
    ·exact h1
    ·rw [List.drop_of_length_le h1] at hy; cases hy
   have h1 := hge haj
   have h2 := h0 haj
   have h3 := Lin.row.anti outs[a].1 r trivial trivial
   have h4 : cmpR r outs[a].1 < 0 := by omega
   rw [List.drop_eq_getElem_cons haj] at hy
   rcases List.mem_cons.1 hy with rfl | hy
   ·exact h4
   ·have hp := (List.pairwise_append.1 h.rise).2.1
    rw [List.drop_eq_getElem_cons haj] at hp
    have h5 := (List.pairwise_cons.1 hp).1 y hy
    exact (Lin.row.tr _ _ _ trivial trivial trivial (by omega) (by omega)).2 (.inl h4)
end
end
section
open Go Go.Proofs
section
variable {C : Ctx} {H A : Heap}
theorem Qpv {s : Sl} {l : List En} {K : Sl → Int → Heap → Prop} (hs : EnL A s l) (hA : A.le H) (hn : l.length ≤ 1000000) (kover : l.any (fun e => outE e.2) = true → ∀ H0, H.le H0 → K Sl.nil 80 H0)
 (kok : l.any (fun e => outE e.2) = false → ∀ r H0, H.le H0 → EnL H0 r (l.filter fun o => !(o.2 == 0)) → K r 0 H0) :
 lp (α := Sl × Int) (Sl.nil, 0) H (fun x131 J132 H133 =>
  ift (decide ((x131.2 : Int) < (Sl.len s : Int)))
  (jn (α := Sl) (fun x136 H137 =>
  J132 (x136, (w .i64 (x131.2 + 1))) H137)
  (fun J135 => ixa s x131.2 fun p139 =>
  ldI H133 .i64 ((p139.1, p139.2 + (x131.2 : Int).toNat * 2).1, (p139.1, p139.2 + (x131.2 : Int).toNat * 2).2 + 1) fun x144 =>
  jn (α := Bool) (fun b146 H157 =>
  ift b146
  (K Sl.nil 80 H157)
  (ixa s x131.2 fun p159 =>
  ldI H157 .i64 ((p159.1, p159.2 + (x131.2 : Int).toNat * 2).1, (p159.1, p159.2 + (x131.2 : Int).toNat * 2).2 + 1) fun x164 =>
  ift ((x164 : Int) != 0)
  (ixa s x131.2 fun p167 =>
  ldT H157 Qa.c (p167.1, p167.2 + (x131.2 : Int).toNat * 2) fun x172 =>
  apd (Qa.c Qa.zero) 32 x131.1 ((Qa.c x172) ++ []) 1 (fun r174 H175 =>
  J135 r174 H175) H157)
  (J135 x131.1 H157)))
  (fun J147 => ift (decide ((x144 : Int) < (-2147483647)))
  (J147 true H133)
  (ixa s x131.2 fun p150 =>
  ldI H133 .i64 ((p150.1, p150.2 + (x131.2 : Int).toNat * 2).1, (p150.1, p150.2 + (x131.2 : Int).toNat * 2).2 + 1) fun x155 =>
  J147 (decide ((x155 : Int) > 2147483647)) H133))))
  (K x131.1 0 H133)) := by
 rw [hs.len]
 refine ⟨fun x D => ∃ (i : Nat) (ys : List Qa), x.2 = (i : Int) ∧ i ≤ l.length ∧ (l.take i).any (fun e => outE e.2) = false ∧ OwnF H D 2 x.1 (ys.flatMap Qa.c) ∧ ys.length = ((l.take i).filter fun o => !(o.2 == 0)).length ∧ ∀ (j : Nat) (e : En) (y : Qa), ((l.take i).filter fun o => !(o.2 == 0))[j]? = some e → ys[j]? = some y → EnIs A e y, fun x _ => l.length - x.2.toNat, ⟨0, [], rfl, Nat.zero_le _, rfl, OwnF.nil H 2, rfl, fun j e y _ hy => by simp at hy⟩, ?_⟩
 rintro ⟨c, _⟩ D ⟨i, ys, rfl, hi, hno, hO, hyl, hy⟩
 have hAD := hA.trans hO.le
 refine ift.of (fun h => ?_) (fun h => ?_)
 ·have hlt : i < l.length := by have : (i : Int) < l.length := of_decide_eq_true h; omega
  have htk : l.take (i + 1) = l.take i ++ [l[i]] := by rw [List.take_add_one, List.getElem?_eq_getElem hlt]; rfl
  refine ⟨fun c' D' => ∃ ys' : List Qa, (l.take (i + 1)).any (fun e => outE e.2) = false ∧ OwnF H D' 2 c' (ys'.flatMap Qa.c) ∧ ys'.length = ((l.take (i + 1)).filter fun o => !(o.2 == 0)).length ∧ ∀ (j : Nat) (e : En) (y : Qa), ((l.take (i + 1)).filter fun o => !(o.2 == 0))[j]? = some e → ys'[j]? = some y → EnIs A e y, ?_, ?_⟩
  ·refine SlIs.fI hs hAD (z := 2) (fun _ => rfl) (by omega) rfl hlt (j := 1) (f := fun y => y.N) (fun _ => rfl) fun y1 hy1 => ?_
   refine jb (P := outE l[i].2 = true) D ?_ fun b hb2 => ?_
   ·refine ift.of (fun h2 => ⟨rfl, ?_⟩) (fun h2 => SlIs.fI hs hAD (z := 2) (fun _ => rfl) (by omega) rfl hlt (j := 1) (f := fun y => y.N) (fun _ => rfl) fun y2 hy2 => ⟨rfl, ?_⟩)
    ·rw [hy1.2.2.2.1] at h2
     unfold outE; rw [h2]; simp
    ·rw [hy1.2.2.2.1] at h2
     rw [hy2.2.2.2.1]
     unfold outE; rw [h2]; simp
   refine ift.of (fun h2 => kover (List.any_eq_true.2 ⟨l[i], List.getElem_mem hlt, hb2.1 h2⟩) _ hO.le) (fun h2 => ?_)
   have h3 : outE l[i].2 = false := by
    cases ho : outE l[i].2 with
    | false => rfl
    | true => rw [hb2.2 ho] at h2; cases h2
   have hno' : (l.take (i + 1)).any (fun e => outE e.2) = false := by rw [htk, List.any_append, hno]; simp [h3]
   refine SlIs.fI hs hAD (z := 2) (fun _ => rfl) (by omega) rfl hlt (j := 1) (f := fun y => y.N) (fun _ => rfl) fun y3 hy3 => ?_
   rw [hy3.2.2.2.1]
   have hcl : c.len = ys.length := by have h1 : (ys.flatMap Qa.c).length = c.len * 2 := hO.own.1; rw [QO] at h1; omega
   have hyn : ys.length ≤ l.length := by
    rw [hyl]
    have := List.length_filter_le (fun o : En => !(o.2 == 0)) (l.take i)
    rw [List.length_take] at this; omega
   refine ift.of (fun hz => ?_) (fun hz => ?_)
   ·have hz0 : (l[i].2 == 0) = false := by simpa using hz
    have e2 : ([l[i]].filter fun o : En => !(o.2 == 0)) = [l[i]] := by simp [hz0]
    refine hs.ld hAD (z := 2) (fun _ => rfl) (by omega) rfl hlt fun x hx => ?_
    refine Qb5 (ys := Qa.c x) (m := 1) hO rfl (by show (c.len + 1) * 32 ≤ _; omega) (by show c.len + 1 ≤ _; omega) fun r' H30 hO2 hlen2 => ?_
    refine ⟨ys ++ [x], hno', ?_, ?_, fun j e y he hj => ?_⟩
    ·have this : OwnF H H30 2 r' (ys.flatMap Qa.c ++ Qa.c x) := hO2
     rw [List.flatMap_append]
     simpa using this
    ·rw [htk, List.filter_append, e2, List.length_append, List.length_append, hyl]; rfl
    ·rw [htk, List.filter_append, e2] at he
     by_cases hj' : j < ys.length
     ·rw [List.getElem?_append_left hj'] at hj
      rw [List.getElem?_append_left (by rw [← hyl]; exact hj')] at he
      exact hy j e y he hj
     ·have hjl := (List.getElem?_eq_some_iff.1 hj).1
      rw [List.length_append, List.length_singleton] at hjl
      have hje : j = ys.length := by omega
      subst hje
      rw [List.getElem?_append_right (Nat.le_refl _), Nat.sub_self] at hj
      rw [List.getElem?_append_right (by rw [hyl]; exact Nat.le_refl _), hyl, Nat.sub_self] at he
      simp only [List.getElem?_cons_zero, Option.some.injEq] at hj he
      subst hj; subst he
      exact hx
   ·have hz0 : (l[i].2 == 0) = true := by simpa using hz
    have e2 : ([l[i]].filter fun o : En => !(o.2 == 0)) = [] := by simp [hz0]
    refine ⟨ys, hno', hO, ?_, ?_⟩
    ·rw [htk, List.filter_append, e2, List.append_nil]; exact hyl
    ·rw [htk, List.filter_append, e2, List.append_nil]; exact hy
  rintro c' D' ⟨ys', k1, k2, k3, k4⟩
  rw [Qq (by dsimp only; omega) (by dsimp only; omega)]
  exact ⟨⟨i + 1, ys', rfl, by omega, k1, k2, k3, k4⟩, by first | omega | (dsimp only; omega)⟩
 ·have hie : i = l.length := by have : ¬ (i : Int) < l.length := of_decide_eq_false h; omega
  subst hie
  rw [List.take_length] at hno hyl hy
  have hcl : c.len = ys.length := by have h1 : (ys.flatMap Qa.c).length = c.len * 2 := hO.own.1; rw [QO] at h1; omega
  have hfl := List.length_filter_le (fun o : En => !(o.2 == 0)) l
  exact kok hno _ _ hO.le ⟨ys, hO.own.rdsl, hcl, hyl.symm, by omega, fun j e y he hj => (hy j e y he hj).le hAD⟩
end
end
section
open Go Go.Proofs
theorem QmB {H : Heap} {g : Nat} {c : List Value} (h : H g = some (true, .row c)) : H.put g (.row c) = H := by
 funext b
 by_cases hb : b = g
 ·subst hb; rw [Heap.put_same, h]
 ·rw [Heap.put_ne _ _ _ hb]
theorem Qm2 {c : List Value} {o : Nat} : splice c o [] = c := by unfold splice; simp
section
variable {C : Ctx} {H A : Heap}
theorem Qor {s0 s : Sl} {l outs : List En} {ys : List Qa} {i a : Nat} {D : Heap} {J8 : Sl → Heap → Prop} (hs : EnL A s0 l) (hA : A.le H) (hg : OgE H D outs s ys) (hi : i < l.length) (ha : a ≤ outs.length) (hn : outs.length ≤ 1000000) (hl : l.length ≤ 1000000) (hsz : ∀ x ∈ l, vsizes x.1 ≤ 1000000)
 (k : ∀ r ys' D', OgE H D' (outs.take a ++ (l[i].1, l[i].2) :: outs.drop a) r ys' → J8 r D') :
 apd (Qa.c Qa.zero) 32 s ((Qa.c (⟨Sl.nil, 0⟩ : Qa)) ++ []) 1 (fun r87 H88 =>
  dr H88 fun Hs89 =>
  slL r87 (w .i64 ((a : Int) + 1)) (Sl.len r87 : Int) (Sl.cap r87 : Int) 2 fun t91 =>
  slL r87 (a : Int) (Sl.len r87 : Int) (Sl.cap r87 : Int) 2 fun t97 =>
  cpy 2 t91 t97 (fun r104 H105 =>
  Heap.le Hs89 H105 ∧
  dr H105 fun Hs106 =>
  ixa s0 (i : Int) fun p108 =>
  ldL Hs106 ((p108.1, p108.2 + (i : Int).toNat * 2).1, (p108.1, p108.2 + (i : Int).toNat * 2).2 + 0) fun x113 =>
  ixa s0 (i : Int) fun p115 =>
  ldI Hs106 .i64 ((p115.1, p115.2 + (i : Int).toNat * 2).1, (p115.1, p115.2 + (i : Int).toNat * 2).2 + 1) fun x120 =>
  QaS C x113 (fun r123 H124 =>
  Heap.le Hs106 H124 ∧
  ixa r87 (a : Int) fun p125 =>
  stT (p125.1, p125.2 + (a : Int).toNat * 2) (Qa.c (⟨r123, x120⟩ : Qa)) (fun H130 =>
  J8 r87 H130) H124) H105) H88) D := by
 have hsl := hg.slen
 have hyl := hg.len
 refine Qb5 (ys := Qa.c (⟨Sl.nil, 0⟩ : Qa)) (m := 1) (hg.own.own.off) rfl (by show (s.len + 1) * 32 ≤ _; omega) (by show s.len + 1 ≤ _; omega) fun r H88 hO hlen => ?_
 have hO : OwnF (D.off s) H88 2 r (ys.flatMap Qa.c ++ Qa.c (⟨Sl.nil, 0⟩ : Qa)) := hO
 have hoff : H.le (D.off s) := Heap.le_off hg.own.le hg.own.fresh
 obtain ⟨q1, q2, q3, q4⟩ := hO.own
 obtain ⟨g, sp, hp, hgc, hcap⟩ : ∃ g sp, r.p = some (g, 0) ∧ H88 g = some (true, .row (ys.flatMap Qa.c ++ Qa.c (⟨Sl.nil, 0⟩ : Qa) ++ sp)) ∧ r.cap * 2 ≤ (ys.flatMap Qa.c ++ Qa.c (⟨Sl.nil, 0⟩ : Qa) ++ sp).length := by
  rcases q4 with ⟨_, c0⟩ | ⟨b, sp, h1, h2, h3⟩
  ·omega
  ·exact ⟨b, sp, h1, h2, h3⟩
 have hHg : H g = none := hO.fresh.le hoff _ hp
 have hH88 := hoff.trans hO.le
 have hrl : r.len = outs.length + 1 := by omega
 have hcl : (ys.flatMap Qa.c).length = outs.length * 2 := by rw [QO, hyl]
 refine ⟨H88.off r, Heap.off_le r H88, ?_⟩
 rw [Qq (by omega) (by omega)]
 refine ⟨by omega, by omega, by omega, by omega, _, rfl, by omega, by omega, by omega, by omega, _, rfl, ?_⟩
 have fin : (H88.off r).le (H88.put g (.row (splice (ys.flatMap Qa.c ++ Qa.c (⟨Sl.nil, 0⟩ : Qa) ++ sp) ((a + 1) * 2) ((ys.flatMap Qa.c).drop (a * 2))))) ∧
  dr (H88.put g (.row (splice (ys.flatMap Qa.c ++ Qa.c (⟨Sl.nil, 0⟩ : Qa) ++ sp) ((a + 1) * 2) ((ys.flatMap Qa.c).drop (a * 2))))) fun Hs106 =>
  ixa s0 (i : Int) fun p108 =>
  ldL Hs106 ((p108.1, p108.2 + (i : Int).toNat * 2).1, (p108.1, p108.2 + (i : Int).toNat * 2).2 + 0) fun x113 =>
  ixa s0 (i : Int) fun p115 =>
  ldI Hs106 .i64 ((p115.1, p115.2 + (i : Int).toNat * 2).1, (p115.1, p115.2 + (i : Int).toNat * 2).2 + 1) fun x120 =>
  QaS C x113 (fun r123 H124 =>
  Heap.le Hs106 H124 ∧
  ixa r (a : Int) fun p125 =>
  stT (p125.1, p125.2 + (a : Int).toNat * 2) (Qa.c (⟨r123, x120⟩ : Qa)) (fun H130 =>
  J8 r H130) H124) (H88.put g (.row (splice (ys.flatMap Qa.c ++ Qa.c (⟨Sl.nil, 0⟩ : Qa) ++ sp) ((a + 1) * 2) ((ys.flatMap Qa.c).drop (a * 2))))) := by
  have lo : (H88.off r).le (H88.put g (.row (splice (ys.flatMap Qa.c ++ Qa.c (⟨Sl.nil, 0⟩ : Qa) ++ sp) ((a + 1) * 2) ((ys.flatMap Qa.c).drop (a * 2))))) := Qn (Heap.off_le r H88) (Heap.off_fresh r H88 _ hp)
  have hH105 := Qn (g := .row (splice (ys.flatMap Qa.c ++ Qa.c (⟨Sl.nil, 0⟩ : Qa) ++ sp) ((a + 1) * 2) ((ys.flatMap Qa.c).drop (a * 2)))) hH88 hHg
  have hA105 := hA.trans hH105
  refine ⟨lo, _, Heap.le.refl _, SlIs.fL hs hA105 (z := 2) (fun _ => rfl) (by omega) rfl hi (j := 0) (f := fun y => y.Row) (fun _ => rfl) fun y1 hy1 => SlIs.fI hs hA105 (z := 2) (fun _ => rfl) (by omega) rfl hi (j := 1) (f := fun y => y.N) (fun _ => rfl) fun y2 hy2 => ?_⟩
  rw [hy2.2.2.2.1]
  refine QoW hy1.1 hA105 (hsz _ (List.getElem_mem hi)) fun t2 H124 hm => ⟨hm.le, (g, 0), hp, q2, by omega, by omega, ?_⟩
  have h124 := hm.le _ _ (Heap.put_same ..)
  refine ⟨_, h124, ?_, ?_⟩
  ·show 0 + (a : Int).toNat * 2 + 2 ≤ _
   unfold splice
   rw [List.length_append, List.length_append, List.length_take, List.length_append, List.length_append, List.length_drop, hcl, show (Qa.c (⟨Sl.nil, 0⟩ : Qa)).length = 2 from rfl]
   omega
  ·have hins := OgE.insert (n := l[i].2) hg ha hO hp hgc hcap hm
   have e0 : (0 : Nat) + (a : Int).toNat * 2 = a * 2 := by omega
   show J8 r (H124.put g (.row (splice _ (0 + (a : Int).toNat * 2) _)))
   rw [e0]
   exact k _ _ _ hins
 rcases Nat.lt_or_ge a outs.length with hlt | hge
 ·have m1 : ¬ ((Sl.cap r : Int) = (a : Int) + 1) := by omega
  have m2 : ¬ ((Sl.cap r : Int) = (a : Int)) := by omega
  refine ⟨(ys.flatMap Qa.c).drop (a * 2), .inr ⟨?_, (g, 0 + (a : Int).toNat * 2), ?_, ?_⟩, ?_, fun u hu => Qnb u (List.mem_of_mem_drop hu), .inr ⟨(g, 0 + ((a : Int) + 1).toNat * 2), _, ?_, ?_, hgc, ?_, ?_⟩⟩
  ·dsimp only; rw [q2]; split <;> rfl
  ·dsimp only; rw [if_neg m2, hp]; rfl
  ·refine Qaf hgc fun j v hj => ?_
   rw [List.getElem?_drop] at hj
   have e0 : (0 : Nat) + (a : Int).toNat * 2 + j = a * 2 + j := by omega
   rw [e0, List.append_assoc, List.getElem?_append_left (List.getElem?_eq_some_iff.1 hj).1]; exact hj
  ·rw [List.length_drop, hcl]
   show _ = Nat.min ((Sl.len r : Int) - (a : Int)).toNat ((Sl.len r : Int) - ((a : Int) + 1)).toNat * 2
   have : Nat.min ((Sl.len r : Int) - (a : Int)).toNat ((Sl.len r : Int) - ((a : Int) + 1)).toNat = outs.length - a := by
    rw [show Nat.min ((Sl.len r : Int) - (a : Int)).toNat ((Sl.len r : Int) - ((a : Int) + 1)).toNat = min ((Sl.len r : Int) - (a : Int)).toNat ((Sl.len r : Int) - ((a : Int) + 1)).toNat from rfl]
    omega
   rw [this]; omega
  ·dsimp only; rw [if_neg m1, hp]; rfl
  ·dsimp only; rw [q2]; split <;> rfl
  ·show 0 + ((a : Int) + 1).toNat * 2 + _ ≤ _
   rw [List.length_drop, List.length_append, List.length_append, hcl, show (Qa.c (⟨Sl.nil, 0⟩ : Qa)).length = 2 from rfl]
   omega
  ·have e1 : (0 : Nat) + ((a : Int) + 1).toNat * 2 = (a + 1) * 2 := by omega
   rw [show ((g, 0 + ((a : Int) + 1).toNat * 2) : Nat × Nat).2 = (a + 1) * 2 from e1]
   exact fin
 ·have hd : (ys.flatMap Qa.c).drop (a * 2) = [] := List.drop_of_length_le (by rw [hcl]; omega)
  rw [hd, Qm2, QmB hgc] at fin
  refine ⟨[], .inl rfl, ?_, fun u hu => (by cases hu), .inl ⟨rfl, fin⟩⟩
  show 0 = Nat.min ((Sl.len r : Int) - (a : Int)).toNat ((Sl.len r : Int) - ((a : Int) + 1)).toNat * 2
  have : Nat.min ((Sl.len r : Int) - (a : Int)).toNat ((Sl.len r : Int) - ((a : Int) + 1)).toNat = 0 := by
   rw [show Nat.min ((Sl.len r : Int) - (a : Int)).toNat ((Sl.len r : Int) - ((a : Int) + 1)).toNat = min ((Sl.len r : Int) - (a : Int)).toNat ((Sl.len r : Int) - ((a : Int) + 1)).toNat from rfl]
   omega
  rw [this]
end
end
section
open Go Go.Proofs
section
variable {C : Ctx} {H A : Heap}
theorem Qnk {s : Sl} {l : List En} {K : Sl → Int → Heap → Prop} (hs : EnL A s l) (hA : A.le H) (hn : l.length ≤ 1000000) (hsz : ∀ x ∈ l, vsizes x.1 ≤ 1000000)
 (kerr : chkE l ≠ 0 → K Sl.nil (chkE l) H)
 (kover : chkE l = 0 → ∀ out, IsSum l out → out.any (fun e => outE e.2) = true → ∀ H0, H.le H0 → K Sl.nil 80 H0)
 (kok : chkE l = 0 → ∀ out, IsSum l out → out.length ≤ l.length → out.any (fun e => outE e.2) = false → ∀ r H0, H.le H0 → EnL H0 r (out.filter fun o => !(o.2 == 0)) → K r 0 H0) : QP C s K H := by
 apply Qjg
 unfold QfW
 refine Qnj hs hA hsz ?_
 refine ift.of (fun h => kerr (by simpa using h)) (fun h => ?_)
 have hc : chkE l = 0 := by simpa using h
 have hmay : ∀ e ∈ l, mayR e.1 = true := fun e he => by
  cases hm : mayR e.1 with
  | true => rfl
  | false =>
   unfold chkE at hc
   rw [if_pos (List.any_eq_true.2 ⟨e, he, by rw [hm]; rfl⟩)] at hc; cases hc
 have hno : ∀ e ∈ l, -2147483647 ≤ e.2 ∧ e.2 ≤ 2147483647 := fun e he => by
  have ho : outE e.2 = false := by
   cases ho : outE e.2 with
   | false => rfl
   | true =>
    unfold chkE at hc
    split at hc
    ·cases hc
    ·rw [if_pos (List.any_eq_true.2 ⟨e, he, ho⟩)] at hc; cases hc
  unfold outE at ho
  have h1 : ¬ e.2 < -2147483647 := fun h => by rw [decide_eq_true h] at ho; cases ho
  have h2 : ¬ e.2 > 2147483647 := fun h => by rw [decide_eq_true h, Bool.or_true] at ho; cases ho
  omega
 have hbl : ∀ e ∈ l, VBs e.1 ∧ e.1.length ≤ 140737488355328 := fun e he => by
  obtain ⟨xs, x1, x2, x3, x4, x5⟩ := hs
  obtain ⟨j, hj, rfl⟩ := List.getElem_of_mem he
  have := x5 j _ _ (List.getElem?_eq_getElem hj) (List.getElem?_eq_getElem (by omega))
  exact ⟨this.2.1, this.2.2.1⟩
 refine ⟨fun x D => ∃ (i : Nat) (outs : List En), x.2 = (i : Int) ∧ i ≤ l.length ∧ DC H l i outs x.1 D, fun x _ => l.length - x.2.toNat, ⟨0, [], rfl, Nat.zero_le _, ⟨[], OgE.nil⟩, by simpa using IsSum.nil, Nat.zero_le _⟩, ?_⟩
 rintro ⟨s1, _⟩ D ⟨i, outs, rfl, hi, hd⟩
 rw [hs.len]
 have hfew := hd.few
 obtain ⟨ys, hg⟩ := hd.og
 have hok := hd.ok hn hbl hno
 have hEn : EnL D s1 outs := hg.en (fun e he => (hok e he).1) (by omega)
 have hAD := hA.trans hg.own.le
 have hfrom : ∀ o ∈ outs, ∃ e ∈ l, e.1 = o.1 := fun o ho => by
  obtain ⟨⟨e, he, heo⟩, _⟩ := QnD hd.sum ho
  exact ⟨e, List.mem_of_mem_take he, heo⟩
 refine ift.of (fun h => ?_) (fun h => ?_)
 ·have hlt : i < l.length := by have : (i : Int) < l.length := of_decide_eq_true h; omega
  refine ⟨fun s' D' => ∃ outs', DC H l (i + 1) outs' s' D', ?_, ?_⟩
  ·have hvl : ∀ v ∈ l[i].1, vsize v ≤ 4611686018427387904 := fun v hv => by have h1 := QcG hv; have h2 := hsz _ (List.getElem_mem hlt); omega
   have hvo : ∀ o ∈ outs, ∀ v ∈ o.1, vsize v ≤ 4611686018427387904 := fun o ho v hv => by
    obtain ⟨e, he, heo⟩ := hfrom o ho
    have h1 := QcG hv; have h2 := hsz e he; rw [heo] at h2; omega
   refine ⟨fun x D' => D' = D ∧ ∃ a : Nat, x = (a : Int) ∧ a ≤ outs.length ∧ ∀ j, (hj : j < outs.length) → j < a → cmpR outs[j].1 l[i].1 < 0, fun x _ => outs.length - x.toNat, ⟨rfl, 0, rfl, Nat.zero_le _, fun j hj h => by omega⟩, ?_⟩
   rintro _ D' ⟨rfl, a, rfl, ha, hq⟩
   refine jb (P := ∃ h : a < outs.length, cmpR outs[a].1 l[i].1 < 0) D' ?_ fun b hb => ?_
   ·refine ⟨D', Heap.le.refl _, ?_⟩
    rw [hEn.len]
    refine ift.of (fun h => ?_) (fun h => ⟨rfl, fun e => (nomatch e), fun ⟨e, _⟩ => absurd e (by have : ¬ (a : Int) < outs.length := of_decide_eq_false h; omega)⟩)
    have hal : a < outs.length := by have : (a : Int) < outs.length := of_decide_eq_true h; omega
    refine SlIs.fL hEn (Heap.le.refl _) (z := 2) (fun _ => rfl) (by omega) rfl hal (j := 0) (f := fun y => y.Row) (fun _ => rfl) fun y1 hy1 => SlIs.fL hs hAD (z := 2) (fun _ => rfl) (by omega) rfl hlt (j := 0) (f := fun y => y.Row) (fun _ => rfl) fun y2 hy2 => ?_
    refine QeH hy1.1 (hy2.1.le hAD) hy1.2.2.1 hy2.2.2.1 hy1.2.1 hy2.2.1 (hvo _ (List.getElem_mem hal)) hvl ⟨Heap.le.refl _, rfl, ?_⟩
    rw [decide_eq_true_iff]
    exact ⟨fun e => ⟨hal, e⟩, fun ⟨_, e⟩ => e⟩
   refine ift.of (fun h => ?_) (fun h => ?_)
   ·obtain ⟨hal, h1⟩ := hb.1 h
    rw [Qq (by omega) (by omega)]
    refine ⟨⟨rfl, a + 1, by omega, by omega, fun j hj hja => ?_⟩, by first | omega | (dsimp only; omega)⟩
    by_cases he : j = a
    ·subst he; exact h1
    ·exact hq j hj (by omega)
   have hge : ∀ hj : a < outs.length, ¬ cmpR outs[a].1 l[i].1 < 0 := fun hj h1 => by rw [hb.2 ⟨hj, h1⟩] at h; cases h
   have hins := Qns (r := l[i].1) (m := l[i].2) hd.sum hlt rfl ha hq hge (hmay _ (List.getElem_mem hlt)) fun o ho => by obtain ⟨e, he, heo⟩ := hfrom o ho; rw [← heo]; exact hmay e he
   refine jb (P := ∃ h : a < outs.length, cmpR outs[a].1 l[i].1 = 0) D' ?_ fun b2 hb2 => ?_
   ·refine ⟨D', Heap.le.refl _, ?_⟩
    rw [hEn.len]
    refine ift.of (fun h => ?_) (fun h => ⟨rfl, fun e => (nomatch e), fun ⟨e, _⟩ => absurd e (by have : ¬ (a : Int) < outs.length := of_decide_eq_false h; omega)⟩)
    have hal : a < outs.length := by have : (a : Int) < outs.length := of_decide_eq_true h; omega
    refine SlIs.fL hEn (Heap.le.refl _) (z := 2) (fun _ => rfl) (by omega) rfl hal (j := 0) (f := fun y => y.Row) (fun _ => rfl) fun y1 hy1 => SlIs.fL hs hAD (z := 2) (fun _ => rfl) (by omega) rfl hlt (j := 0) (f := fun y => y.Row) (fun _ => rfl) fun y2 hy2 => ?_
    refine QeH hy1.1 (hy2.1.le hAD) hy1.2.2.1 hy2.2.2.1 hy1.2.1 hy2.2.1 (hvo _ (List.getElem_mem hal)) hvl ⟨Heap.le.refl _, rfl, ?_⟩
    rw [beq_iff_eq]
    exact ⟨fun e => ⟨hal, e⟩, fun ⟨_, e⟩ => e⟩
   refine ift.of (fun h2 => ?_) (fun h2 => ?_)
   ·obtain ⟨hal, h0⟩ := hb2.1 h2
    obtain ⟨q1, q2, q3, q4⟩ := hg.own.own
    have hsl := hg.slen
    obtain ⟨g, sp, hp, hgc⟩ : ∃ g sp, s1.p = some (g, 0) ∧ D' g = some (true, .row (ys.flatMap Qa.c ++ sp)) := by
     rcases q4 with ⟨_, c0⟩ | ⟨b, sp, h1, h2, h3⟩
     ·omega
     ·exact ⟨b, sp, h1, h2⟩
    refine ⟨D', Heap.le.refl _, SlIs.fI hEn (Heap.le.refl _) (z := 2) (fun _ => rfl) (by omega) rfl hal (j := 1) (f := fun y => y.N) (fun _ => rfl) fun y1 hy1 => SlIs.fI hs hAD (z := 2) (fun _ => rfl) (by omega) rfl hlt (j := 1) (f := fun y => y.N) (fun _ => rfl) fun y2 hy2 => ⟨(g, 0), hp, q2, by omega, by omega, _, hgc, ?_, ?_⟩⟩
    ·show 0 + (a : Int).toNat * 2 + 1 < _
     rw [List.length_append, QO, hg.len]; omega
    ·rw [hy1.2.2.2.1, hy2.2.2.2.1]
     have hb1 := (hok _ (List.getElem_mem hal)).2
     have hb2' := hno _ (List.getElem_mem hlt)
     rw [Qq (by omega) (by omega)]
     have hset := hg.setN (n := outs[a].2 + l[i].2) hal hp hgc
     have e0 : (0 : Nat) + (a : Int).toNat * 2 + 1 = a * 2 + 1 := by omega
     show ∃ outs', DC H l (i + 1) outs' s1 (D'.put g (.row ((ys.flatMap Qa.c ++ sp).set (0 + (a : Int).toNat * 2 + 1) (.int .i64 (outs[a].2 + l[i].2)))))
     rw [e0]
     exact ⟨_, ⟨_, hset⟩, hins.1 hal h0, by rw [List.length_set]; omega⟩
   ·refine Qor hs hA hg hlt ha (by omega) hn hsz fun r ys' D2 ho => ⟨_, ⟨_, ho⟩, hins.2 fun hj h0 => (by rw [hb2.2 ⟨hj, h0⟩] at h2; cases h2), ?_⟩
    rw [List.length_append, List.length_cons, List.length_take, List.length_drop]; omega
  rintro s' D' ⟨outs', hd'⟩
  rw [Qq (by dsimp only; omega) (by dsimp only; omega)]
  exact ⟨⟨i + 1, outs', rfl, by omega, hd'⟩, by first | omega | (dsimp only; omega)⟩
 ·have hie : i = l.length := by have : ¬ (i : Int) < l.length := of_decide_eq_false h; omega
  have hsum := hd.sum
  rw [hie, List.take_length] at hsum
  exact Qpv hEn (Heap.le.refl _) (by omega) (fun h H0 hH => kover hc outs hsum h H0 (hg.own.le.trans hH)) fun h r H0 hH he => kok hc outs hsum (by omega) h r H0 (hg.own.le.trans hH) he
end
end
section
open Go Go.Proofs
def nzE (o : List En) : List En := o.filter fun o => !(o.2 == 0)
structure ResP (l : List En) (e : Int) (out : List En) : Prop where
 err : chkE l ≠ 0 → e = chkE l ∧ out = []
 over : chkE l = 0 → ∀ o, IsSum l o → o.any (fun e => outE e.2) = true → e = 80 ∧ out = []
 ok : chkE l = 0 → ∀ o, IsSum l o → o.any (fun e => outE e.2) = false → e = 0 ∧ out = nzE o
def ResD (l : List En) (e : Int) (out : List En) : Prop := (chkE l ≠ 0 ∧ e = chkE l ∧ out = []) ∨ (chkE l = 0 ∧ ∃ o, IsSum l o ∧ ((o.any (fun e => outE e.2) = true ∧ e = 80 ∧ out = []) ∨ (o.any (fun e => outE e.2) = false ∧ e = 0 ∧ out = nzE o)))
theorem Qo7 {b : Bool} {n : Int} (h0 : -9223372036854775808 ≤ n) (h1 : n < 9223372036854775808) : outE (doE b n) = outE n := by
 cases b with
 | false => rfl
 | true =>
  show outE (w .i64 (0 - n)) = outE n
  by_cases hm : n = -9223372036854775808
  ·subst hm; rfl
  ·rw [Qq (by omega) (by omega)]
   unfold outE
   rw [Bool.eq_iff_iff]
   simp only [Bool.or_eq_true, decide_eq_true_iff]
   omega
theorem Qig {S : List (En × Bool)} {H : Heap} {K : Sl → Int → Heap → Prop} (hr : ∀ x ∈ S, -9223372036854775808 ≤ x.1.2 ∧ x.1.2 < 9223372036854775808) (k : ∀ e out cs ys H0, ResP (esS S) e out → OgE H H0 out cs ys → K cs e H0) : SumsK S H K := by
 have nil : ∀ H0, H.le H0 → OgE H H0 [] Sl.nil [] := fun H0 hH => OgE.nil.up hH
 have hmem : ∀ e ∈ esS S, ∃ x ∈ S, e = (x.1.1, doE x.2 x.1.2) := fun e he => by
  obtain ⟨x, hx, rfl⟩ := List.mem_map.1 he; exact ⟨x, hx, rfl⟩
 have hma : (∀ x ∈ S, mayR x.1.1 = true) → (esS S).any (fun e => !(mayR e.1)) = false := fun h => by
  rw [List.any_eq_false]; intro e he
  obtain ⟨x, hx, rfl⟩ := hmem e he
  rw [h x hx]; simp
 have hou : (esS S).any (fun e => outE e.2) = S.any fun x => outE x.1.2 := by
  unfold esS
  rw [List.any_map]
  rw [Bool.eq_iff_iff, List.any_eq_true, List.any_eq_true]
  constructor
  ·rintro ⟨x, hx, h⟩; exact ⟨x, hx, by rw [← Qo7 (b := x.2) (hr x hx).1 (hr x hx).2]; exact h⟩
  ·rintro ⟨x, hx, h⟩; exact ⟨x, hx, by show outE (doE x.2 x.1.2) = true; rw [Qo7 (hr x hx).1 (hr x hx).2]; exact h⟩
 have c0 : (∀ x ∈ S, mayR x.1.1 = true) → S.any (fun x => outE x.1.2) = false → chkE (esS S) = 0 := fun h1 h2 => by
  unfold chkE; rw [hma h1, hou, h2]; simp
 refine ⟨fun h H0 hH => k 4 [] _ _ H0 ?_ (nil H0 hH), fun h h2 H0 hH => k 80 [] _ _ H0 ?_ (nil H0 hH), fun h h2 h3 H0 hH => k 80 [] _ _ H0 ?_ (nil H0 hH), fun h h2 out cs ys H0 g1 g2 g3 => k 0 (nzE out) cs ys H0 ?_ g3⟩
 ·have : chkE (esS S) = 4 := by
   obtain ⟨x, hx, h⟩ := List.any_eq_true.1 h
   have hin : (x.1.1, doE x.2 x.1.2) ∈ esS S := List.mem_map.2 ⟨x, hx, rfl⟩
   have hany : (esS S).any (fun e => !(mayR e.1)) = true := List.any_eq_true.2 ⟨_, hin, h⟩
   unfold chkE
   rw [if_pos hany]
  exact ⟨fun _ => ⟨this.symm, rfl⟩, fun c => (by rw [this] at c; cases c), fun c => (by rw [this] at c; cases c)⟩
 ·have : chkE (esS S) = 80 := by unfold chkE; rw [hma h, hou, h2]; simp
  exact ⟨fun _ => ⟨this.symm, rfl⟩, fun c => (by rw [this] at c; cases c), fun c => (by rw [this] at c; cases c)⟩
 ·have c := c0 h h2
  obtain ⟨r, he, ho⟩ := h3
  refine ⟨fun n => absurd c n, fun _ o _ _ => ⟨rfl, rfl⟩, fun _ o hs hn => ?_⟩
  have := (hs.mem r _).2 ⟨he, rfl⟩
  rw [List.any_eq_true.2 ⟨_, this, ho⟩] at hn; cases hn
 ·have c := c0 h h2
  refine ⟨fun n => absurd c n, fun _ o hs hn => ?_, fun _ o hs hn => ⟨rfl, by rw [hs.uniq g1]⟩⟩
  rw [hs.uniq g1, g2] at hn; cases hn
section
variable {C : Ctx} {H A : Heap}
theorem EnL.nil {H : Heap} : EnL H Sl.nil [] := ⟨[], .inl rfl, rfl, rfl, by simp, fun i v x hv => by simp at hv⟩
theorem dCleanR {s : Sl} {l : List En} {K : Sl → Int → Heap → Prop} (hs : EnL A s l) (hA : A.le H) (hn : l.length ≤ 1000000) (hsz : ∀ x ∈ l, vsizes x.1 ≤ 1000000) (k : ∀ e out r H0, ResD l e out → out.length ≤ l.length → H.le H0 → EnL H0 r out → K r e H0) : QP C s K H :=
 Qnk hs hA hn hsz (fun c => k _ _ _ _ (.inl ⟨c, rfl, rfl⟩) (Nat.zero_le _) (Heap.le.refl _) EnL.nil) (fun c o ho h H0 hH => k _ _ _ _ (.inr ⟨c, o, ho, .inl ⟨h, rfl, rfl⟩⟩) (Nat.zero_le _) hH EnL.nil) fun c o ho hf h r H0 hH he => k _ _ _ _ (.inr ⟨c, o, ho, .inr ⟨h, rfl, rfl⟩⟩) (Nat.le_trans (List.length_filter_le ..) hf) hH he
theorem esS2 {la lb : List En} {tb : Bool} : esS (seqS [(la, false), (lb, tb)]) = la ++ lb.map fun e => (e.1, doE tb e.2) := by
 unfold esS seqS
 simp [List.map_append, Function.comp_def, doE]
theorem Qpt {a b : Sl} {la lb : List En} {K : Sl → Int → Heap → Prop} (ha : EnL A a la) (hb : EnL A b lb) (hA : A.le H) (hn : la.length + lb.length ≤ 1000000) (hsz : ∀ x ∈ la ++ lb, vsizes x.1 ≤ 1000000) (k : ∀ e out r H0, ResD (esS (seqS [(la, false), (lb, false)])) e out → out.length ≤ la.length + lb.length → H.le H0 → EnL H0 r out → K r e H0) : Qc4 C a b K H := by
 apply Qk3
 unfold QhT
 refine Qna ha hb hA hn fun r H2 h2 he => ?_
 rw [← esS2] at he
 refine dCleanR he (Heap.le.refl _) (by rw [esS2]; simp; omega) (fun x hx => ?_) fun e out r' H0 g1 gl g2 g3 => k e out r' H0 g1 (by rw [esS2, List.length_append, List.length_map] at gl; exact gl) (h2.trans g2) g3
 rw [esS2] at hx
 rcases List.mem_append.1 hx with hx | hx
 ·exact hsz x (List.mem_append_left _ hx)
 ·obtain ⟨y, hy, rfl⟩ := List.mem_map.1 hx; exact hsz y (List.mem_append_right _ hy)
theorem Qop {a b : Sl} {la lb : List En} {K : Sl → Int → Heap → Prop} (ha : EnL A a la) (hb : EnL A b lb) (hA : A.le H) (hn : la.length + lb.length ≤ 1000000) (hsz : ∀ x ∈ la ++ lb, vsizes x.1 ≤ 1000000) (k : ∀ e out r H0, ResD (esS (seqS [(la, false), (lb, true)])) e out → out.length ≤ la.length + lb.length → H.le H0 → EnL H0 r out → K r e H0) : QbU C a b K H := by
 apply Qkc
 unfold Qhd
 refine Qna ha hb hA hn fun r H2 h2 he => ?_
 rw [← esS2] at he
 refine dCleanR he (Heap.le.refl _) (by rw [esS2]; simp; omega) (fun x hx => ?_) fun e out r' H0 g1 gl g2 g3 => k e out r' H0 g1 (by rw [esS2, List.length_append, List.length_map] at gl; exact gl) (h2.trans g2) g3
 rw [esS2] at hx
 rcases List.mem_append.1 hx with hx | hx
 ·exact hsz x (List.mem_append_left _ hx)
 ·obtain ⟨y, hy, rfl⟩ := List.mem_map.1 hx; exact hsz y (List.mem_append_right _ hy)
end
end
section
open Go Go.Proofs
theorem QhK {es out : List En} (h : IsSum es out) (r : List V) (n : Int) : (r, n) ∈ nzE out ↔ n = totE es r ∧ n ≠ 0 := by
 unfold nzE
 rw [List.mem_filter, h.mem]
 constructor
 ·rintro ⟨⟨_, h1⟩, h2⟩
  exact ⟨h1, by simpa using h2⟩
 ·rintro ⟨h1, h2⟩
  refine ⟨⟨?_, h1⟩, by simpa using h2⟩
  exact Classical.byContradiction fun hn => h2 (by rw [h1]; exact Qab fun e he e' => hn ⟨e, he, e'⟩)
theorem QhA {es out : List En} (h : IsSum es out) : (nzE out).Pairwise fun a b => cmpR a.1 b.1 < 0 := h.rise.filter _
theorem QpI {es fs o p : List En} (h1 : IsSum es o) (h2 : IsSum fs p) (h : ∀ r, totE es r = totE fs r) : nzE o = nzE p :=
 QgX (QhA h1) (QhA h2) fun x => by obtain ⟨r, n⟩ := x; rw [QhK h1, QhK h2, h r]
theorem Qi0 : ∀ {l : List En}, l.Pairwise (fun a b => cmpR a.1 b.1 < 0) → ∀ {r : List V} {n : Int}, (r, n) ∈ l → totE l r = n
 | [], _, r, n, h => by simp at h
 | e :: l, hp, r, n, h => by
  have hp' := List.pairwise_cons.1 hp
  simp only [totE]
  rcases List.mem_cons.1 h with h | h
  ·subst h
   rw [if_pos (Qby.2 rfl), Qab fun e he e' => by have := hp'.1 e he; rw [e'] at this; exact QeA this]; omega
  ·have hne : sameVs e.1 r = false := by
    cases hb : sameVs e.1 r with
    | false => rfl
    | true => have := hp'.1 _ h; rw [Qby.1 hb] at this; exact absurd this QeA
   rw [hne, Qi0 hp'.2 h]; simp
theorem Qqm {es o : List En} (h : IsSum es o) (r : List V) : totE (nzE o) r = totE es r := by
 by_cases h0 : totE es r = 0
 ·rw [h0]; exact Qab fun e he e' => by
   obtain ⟨q, n⟩ := e
   have := (QhK h q n).1 he
   subst e'; exact this.2 (by rw [this.1]; exact h0)
 ·exact Qi0 (QhA h) ((QhK h r _).2 ⟨rfl, h0⟩)
theorem QnH {n : Int} (h0 : -2147483647 ≤ n) (h1 : n ≤ 2147483647) : outE n = false := by
 unfold outE
 rw [decide_eq_false (by omega), decide_eq_false (by omega)]; rfl
theorem QhB {n : Int} (h : outE n = false) : -2147483647 ≤ n ∧ n ≤ 2147483647 := by
 unfold outE at h
 rw [Bool.or_eq_false_iff] at h
 have h1 := of_decide_eq_false h.1
 have h2 := of_decide_eq_false h.2
 omega
/-- entries that may be, whose sums may be -/
structure OkS (es : List En) : Prop where
 may : ∀ e ∈ es, mayR e.1 = true
 n : ∀ e ∈ es, outE e.2 = false
 tot : ∀ r, outE (totE es r) = false
theorem Qpq {es : List En} (h : OkS es) : chkE es = 0 := by
 unfold chkE
 rw [if_neg, if_neg]
 ·rw [List.any_eq_true]; rintro ⟨x, hx, h1⟩; rw [h.n x hx] at h1; cases h1
 ·rw [List.any_eq_true]; rintro ⟨x, hx, h1⟩; rw [h.may x hx] at h1; cases h1
theorem OkS.of {l m : List En} (h : OkS m) (ht : ∀ r, totE l r = totE m r) (hm : ∀ e ∈ l, mayR e.1 = true) (hn : ∀ e ∈ l, outE e.2 = false) : OkS l := ⟨hm, hn, fun r => by rw [ht r]; exact h.tot r⟩
theorem Qnw {α : Type} : ∀ {a b : List α}, a.Pairwise (fun x y => x ≠ y) → (∀ x ∈ a, x ∈ b) → a.length ≤ b.length
 | [], b, _, _ => Nat.zero_le _
 | x :: a, b, hp, hs => by
  have hp' := List.pairwise_cons.1 hp
  obtain ⟨b1, b2, rfl⟩ := List.append_of_mem (hs x (List.mem_cons_self ..))
  have := Qnw (b := b1 ++ b2) hp'.2 fun y hy => by
   have h1 := hs y (List.mem_cons_of_mem _ hy)
   rcases List.mem_append.1 h1 with h1 | h1
   ·exact List.mem_append_left _ h1
   ·rcases List.mem_cons.1 h1 with h1 | h1
    ·exact absurd h1.symm (hp'.1 y hy)
    ·exact List.mem_append_right _ h1
  simp only [List.length_append, List.length_cons] at this ⊢
  omega
theorem QpV {es out : List En} (h : IsSum es out) : out.length ≤ es.length := by
 have := Qnw (a := out.map fun e => e.1) (b := es.map fun e => e.1) (by
  rw [List.pairwise_map]
  exact h.rise.imp fun {a b} hab e => by rw [e] at hab; exact QeA hab) fun r hr => by
   obtain ⟨e, he, rfl⟩ := List.mem_map.1 hr
   obtain ⟨⟨x, hx, hxr⟩, _⟩ := (h.mem e.1 e.2).1 he
   exact List.mem_map.2 ⟨x, hx, hxr⟩
 simpa using this
theorem Qo4 {es out : List En} (h : IsSum es out) : (nzE out).length ≤ es.length := Nat.le_trans (List.length_filter_le ..) (QpV h)
theorem Qql {es o : List En} (h : IsSum es o) {e : En} (he : e ∈ nzE o) : (∃ x ∈ es, x.1 = e.1) ∧ e.2 = totE es e.1 := (h.mem e.1 e.2).1 (List.mem_filter.1 he).1
def negE (l : List En) : List En := l.map fun e => (e.1, doE true e.2)
theorem esA {la lb : List En} : esS (seqS [(la, false), (lb, false)]) = la ++ lb := by
 rw [esS2]
 have : (lb.map fun e : En => (e.1, doE false e.2)) = lb := by
  rw [show (fun e : En => (e.1, doE false e.2)) = id from rfl, List.map_id]
 rw [this]
theorem esL {la lb : List En} : esS (seqS [(la, false), (lb, true)]) = la ++ negE lb := esS2
theorem esC {la : List En} : esS (seqS [(la, false)]) = la := by
 have : esS (seqS [(la, false)]) = la.map fun e : En => (e.1, doE false e.2) := by
  unfold esS seqS
  simp [Function.comp_def]
 rw [this, show (fun e : En => (e.1, doE false e.2)) = id from rfl, List.map_id]
end
section
open Go Go.Proofs
section
variable {C : Ctx} {H A : Heap}
theorem EnL.oks {s : Sl} {l : List En} (hs : EnL A s l) : ∀ e ∈ l, Sx.okE e := fun e he => by
 obtain ⟨xs, x1, x2, x3, x4, x5⟩ := hs
 obtain ⟨j, hj, rfl⟩ := List.getElem_of_mem he
 have := x5 j _ _ (List.getElem?_eq_getElem hj) (List.getElem?_eq_getElem (by omega))
 exact ⟨this.2.1, this.2.2.1, this.2.2.2.2⟩
theorem parts1 {a : Sl} {la : List En} {c : Nat} {m : Bool} {cap : Nat} (ha : EnL H a la) (h : H c = some (m, .row (Qf.c (⟨a, fnv false⟩ : Qf) ++ []))) :
 SlIs (PtIs H) Qf.c H (Sl.of (some (c, 0)) 1 cap) [(la, false)] := by
 refine ⟨[(⟨a, fnv false⟩ : Qf)], .inr ⟨rfl, _, rfl, Qaf h fun j v hj => by simpa using hj⟩, rfl, rfl, by simp, fun i v x hv hx => ?_⟩
 match i with
 | 0 => simp at hv hx; subst hv; subst hx; exact ⟨ha, rfl⟩
 | i + 1 => simp at hv
theorem Qlq {a : Sl} {la : List En} {K : Sl → Int → Heap → Prop} (ha : EnL H a la) (hn : la.length ≤ 1000000) (hsz : ∀ x ∈ la, vsizes x.1 ≤ 1000000) (k : SumsK (seqS [(la, false)]) H K) : QI C a K H := by
 apply Qkm
 unfold Qhn
 intro b1 n1
 have hle := Heap.le_put n1 (g := .row (Qf.c (⟨a, fnv false⟩ : Qf) ++ [])) (m := true)
 exact Ql2 (parts1 (ha.le hle) (Heap.put_same ..)) (by simp [seqS]; omega) (fun x hx => by
  simp [seqS] at hx
  obtain ⟨r, n, h, rfl⟩ := hx
  exact hsz (r, n) h) (k.up hle)
end
end
section
open Go Go.Proofs
section
variable {C : Ctx} {H A : Heap}
theorem eL {g : Nat} {s : Sl} {m : Bool} {zs : List Qa} {sp : List Value} (hp : s.p = some (g, 0)) (hx : s.x = none) (hl : s.len = zs.length) (hn : zs.length ≤ 1000000) (hg : H g = some (m, .row (zs.flatMap Qa.c ++ sp))) :
 SlIs (fun a b => b = a) Qa.c H s zs :=
 ⟨zs, .inr ⟨hx, _, hp, Qaf hg fun j v hj => by rw [Nat.zero_add]; exact (List.getElem?_append_left (List.getElem?_eq_some_iff.1 hj).1).trans hj⟩, hl, rfl, by omega, fun i v x hv hx => by rw [hv] at hx; injection hx with hx; exact hx.symm⟩
theorem Qm4 {zs : List Qa} {sp : List Value} {i : Nat} {y : Qa} (hi : i < zs.length) : splice (zs.flatMap Qa.c ++ sp) (i * 2) (Qa.c y) = (zs.set i y).flatMap Qa.c ++ sp := by
 have hf := QO zs
 unfold splice
 rw [List.take_append_of_le_length (by omega), Qih, show (Qa.c y).length = 2 from rfl, show i * 2 + 2 = (i + 1) * 2 by omega, List.drop_append_of_le_length (by omega), QkY, List.set_eq_take_append_cons_drop, if_pos hi]
 simp
theorem Qli {xs : List Qa} {s : Sl} {f : Value} {φ : Qa → Bool} {K : Int → Heap → Prop} (hs : SlIs (fun a b => b = a) Qa.c H s xs)
 (hf : ∀ x ∈ xs, ∀ Φ : Value → Heap → Prop, Φ (.bool (φ x)) H → callU Tryz.prog C f [.agg (Qa.c x).toArray] H Φ)
 (k0 : xs.all (fun x => !(φ x)) = true → K (-1) H) (k1 : ∀ (i : Nat) (h : i < xs.length), φ xs[i] = true → (xs.take i).all (fun x => !(φ x)) = true → K i H) : QG C s f K H := by
 apply Qa6
 unfold Qaa
 have hb := hs.bd
 rw [hs.len]
 refine ⟨fun x D => D = H ∧ ∃ i : Nat, x = (i : Int) ∧ i ≤ xs.length ∧ (xs.take i).all (fun x => !(φ x)) = true, fun x _ => xs.length - x.toNat, ⟨rfl, 0, rfl, Nat.zero_le _, by simp⟩, ?_⟩
 rintro _ D ⟨rfl, i, rfl, hi, hq⟩
 refine ift.of (fun h => ?_) (fun h => ?_)
 ·have hlt : i < xs.length := by have := of_decide_eq_true h; omega
  refine hs.ld (Heap.le.refl _) (fun _ => rfl) (by omega) rfl hlt fun y hy => ?_
  subst hy
  refine hf _ (List.getElem_mem hlt) _ ⟨_, rfl, ?_⟩
  refine ift.of (fun h2 => k1 i hlt h2 hq) (fun h2 => ?_)
  rw [Qq (by omega) (by omega)]
  refine ⟨⟨rfl, i + 1, by omega, by omega, ?_⟩, by first | omega | (dsimp only; omega)⟩
  rw [List.take_add_one, List.getElem?_eq_getElem hlt, List.all_append, hq]
  simp [h2]
 ·have hie : i = xs.length := by have := of_decide_eq_false h; omega
  rw [hie, List.take_length] at hq
  exact k0 hq
theorem Qgf {α : Type} {p : α → Bool} {l : List α} {j : Nat} (hj : j < l.length) : (l.take (j + 1)).filter p = (l.take j).filter p ++ if p l[j] then [l[j]] else [] := by
 rw [List.take_add_one, List.getElem?_eq_getElem hj, List.filter_append]
 simp [List.filter_cons]
theorem QmR {Bo : Heap} {g : Nat} {s : Sl} {ys : List Qa} {sp : List Value} {f : Value} {φ : Qa → Bool} {K : Sl → Heap → Prop} (hp : s.p = some (g, 0)) (hx : s.x = none) (hl : s.len = ys.length) (hc : s.len ≤ s.cap)
 (hn : ys.length ≤ 1000000) (hB : Bo g = none) (hf : ∀ (E : Heap) (x : Qa), x ∈ ys → Bo.le E → ∀ Φ : Value → Heap → Prop, Φ (.bool (φ x)) E → callU Tryz.prog C f [.agg (Qa.c x).toArray] E Φ)
 (k : ∀ (E : Heap) (sp2 : List Value), Bo.le E → ((ys.filter fun x => !(φ x)).flatMap Qa.c ++ sp2).length = (ys.flatMap Qa.c ++ sp).length →
  K ⟨some (g, 0), (ys.filter fun x => !(φ x)).length, s.cap, none⟩ (E.put g (.row ((ys.filter fun x => !(φ x)).flatMap Qa.c ++ sp2)))) :
 Qs C s f K (Bo.put g (.row (ys.flatMap Qa.c ++ sp))) := by
 have hse : s = ⟨some (g, 0), ys.length, s.cap, none⟩ := by
  obtain ⟨p, l, c, x⟩ := s
  simp only at hp hx hl
  subst hp; subst hx; subst hl; rfl
 apply Q2
 unfold QC
 have hgg : (Bo.put g (.row (ys.flatMap Qa.c ++ sp))) g = some (true, .row (ys.flatMap Qa.c ++ sp)) := Heap.put_same ..
 refine Qli (eL hp hx hl hn hgg) (fun x hx Φ h => hf _ x hx (Qn (Heap.le.refl _) hB) Φ h) (fun h => ?_) (fun i0 hi0 h1 h2 => ?_)
 ·refine QA rfl ?_
  have e : (ys.filter fun x => !(φ x)) = ys := List.filter_eq_self.2 fun a ha => List.all_eq_true.1 h a ha
  have := k Bo sp (Heap.le.refl _) (by rw [e])
  rw [e, ← hse] at this
  exact this
 refine Qt (by simp) ?_
 rw [Qq (x := (i0 : Int) + 1) (by omega) (by omega), hl]
 refine ⟨fun x D => ∃ (E : Heap) (zs : List Qa) (i j : Nat), x = ((i : Int), (j : Int)) ∧ D = E.put g (.row (zs.flatMap Qa.c ++ sp)) ∧ Bo.le E ∧ zs.length = ys.length ∧ i < j ∧ j ≤ ys.length ∧ zs.take i = (ys.take j).filter (fun x => !(φ x)) ∧ zs.drop j = ys.drop j,
  fun x _ => ys.length - x.2.toNat, ⟨Bo, ys, i0, i0 + 1, rfl, rfl, Heap.le.refl _, rfl, by omega, by omega, ?_, rfl⟩, ?_⟩
 ·rw [Qgf hi0, h1, List.filter_eq_self.2 fun a ha => List.all_eq_true.1 h2 a ha]
  simp
 rintro _ D ⟨E, zs, i, j, rfl, rfl, hE, hz, hij, hj, ht, hd⟩
 have hD : (E.put g (.row (zs.flatMap Qa.c ++ sp))) g = some (true, .row (zs.flatMap Qa.c ++ sp)) := Heap.put_same ..
 have hf2 := QO zs
 refine ift.of (fun h => ?_) (fun h => ?_)
 ·have hlt : j < ys.length := by have := of_decide_eq_true h; dsimp only at this; omega
  have hzj : zs[j]'(by omega) = ys[j] := by
   have := congrArg (fun l => l[0]?) hd
   simp only [List.getElem?_drop, Nat.add_zero] at this
   rw [List.getElem?_eq_getElem (by omega), List.getElem?_eq_getElem hlt] at this
   injection this
  have hsl := eL hp hx (by rw [hl, hz]) (by omega) hD
  have w1 : w .i64 ((j : Int) + 1) = ((j + 1 : Nat) : Int) := by rw [Qq (by omega) (by omega)]; omega
  have w2 : w .i64 ((i : Int) + 1) = ((i + 1 : Nat) : Int) := by rw [Qq (by omega) (by omega)]; omega
  have hdj : zs.drop (j + 1) = ys.drop (j + 1) := by
   have := congrArg (List.drop 1) hd
   simpa [List.drop_drop] using this
  refine ⟨fun x9 D' => ∃ (E' : Heap) (zs' : List Qa) (i' : Nat), x9 = (i' : Int) ∧ D' = E'.put g (.row (zs'.flatMap Qa.c ++ sp)) ∧ Bo.le E' ∧ zs'.length = ys.length ∧ i' < j + 1 ∧ zs'.take i' = (ys.take (j + 1)).filter (fun x => !(φ x)) ∧ zs'.drop (j + 1) = ys.drop (j + 1), ?_, ?_⟩
  ·refine hsl.ld (Heap.le.refl _) (fun _ => rfl) (by omega) rfl (by omega) fun y hy => ?_
   subst hy
   rw [hzj]
   intro b nb
   refine nwT rfl ?_
   have hbg : b ≠ g := fun e => by subst e; rw [hD] at nb; cases nb
   have hEb : E b = none := by rw [Heap.put_ne _ _ _ hbg] at nb; exact nb
   rw [Heap.put_comm _ _ _ _ _ hbg.symm]
   have hE' : Bo.le (E.put b (.row (Qa.c ys[j]))) := hE.trans (Heap.le_put hEb)
   have hb2 : ((E.put b (.row (Qa.c ys[j]))).put g (.row (zs.flatMap Qa.c ++ sp))) b = some (true, .row (Qa.c ys[j])) := by rw [Heap.put_ne _ _ _ hbg, Heap.put_same]
   generalize E.put b (.row (Qa.c ys[j])) = E2 at *
   refine bxT hb2 ?_
   refine hf _ _ (List.getElem_mem hlt) (Qn hE' hB) _ ⟨_, rfl, ?_⟩
   refine ift.of (fun h3 => ?_) (fun h3 => ?_)
   ·refine bxT hb2 ?_
    refine ⟨(g, 0), hp, hx, by omega, by omega, ?_⟩
    refine ⟨_, Heap.put_same .., ?_, ?_⟩
    ·show 0 + (i : Int).toNat * 2 + 2 ≤ _
     rw [List.length_append, hf2]; omega
    show ∃ E' zs' i', _
    refine ⟨E2, zs.set i ys[j], i + 1, w2, ?_, hE', by simp [hz], by omega, ?_, ?_⟩
    ·rw [Heap.put_put]
     have e0 : (g, 0).2 + ((i : Int)).toNat * 2 = i * 2 := by show 0 + _ = _; omega
     rw [e0, Qm4 (by omega)]
    ·rw [Qgf hlt, if_pos h3, ← ht, List.take_add_one, List.getElem?_set_self (by omega), List.take_set_of_le (by omega)]
     rfl
    ·rw [List.drop_set_of_lt (by omega)]; exact hdj
   ·have h4 : φ ys[j] = true := by simpa using h3
    refine ⟨E2, zs, i, rfl, rfl, hE', hz, by omega, ?_, hdj⟩
    rw [Qgf hlt, if_neg (by simp [h4]), List.append_nil]; exact ht
  ·rintro x9 D' ⟨E', zs', i', rfl, rfl, q1, q2, q3, q4, q5⟩
   rw [w1]
   exact ⟨⟨E', zs', i', j + 1, rfl, rfl, q1, q2, q3, by omega, q4, q5⟩, by first | omega | (dsimp only; omega)⟩
 ·have hje : j = ys.length := by have := of_decide_eq_false h; dsimp only at this; omega
  subst hje
  rw [List.take_length] at ht
  have hfl : (ys.filter fun x => !(φ x)).length = i := by rw [← ht, List.length_take]; omega
  have hne : ¬ ((s.cap : Int) = (i : Int)) := by omega
  refine ⟨by omega, by omega, by omega, by omega, _, rfl, ?_⟩
  rw [if_neg hne, hp]
  have hx0 : (if (s.cap : Int) = (i : Int) ∨ (i : Int).toNat * 2 = 0 then s.x else none) = none := by rw [hx]; split <;> rfl
  rw [hx0]
  refine .inr ⟨(g, 0 + (i : Int).toNat * 2), _, rfl, rfl, Heap.put_same .., ?_, ?_⟩
  ·show 0 + (i : Int).toNat * 2 + ((ys.length : Int) - (i : Int)).toNat * 2 ≤ _
   rw [List.length_append, hf2]; omega
  rw [Heap.put_put]
  refine ⟨by omega, by omega, by omega, by omega, _, rfl, ?_⟩
  have hne2 : ¬ ((s.cap : Int) = 0) := by omega
  rw [if_neg hne2, hp]
  have hx1 : (if (s.cap : Int) = 0 ∨ (0 : Int).toNat * 2 = 0 then s.x else none) = none := by rw [hx]; split <;> rfl
  rw [hx1]
  have e1 : ((g, 0).1, (g, 0).2 + (0 : Int).toNat * 2) = (g, 0) := rfl
  simp only [Option.map_some, e1]
  have hZl : (zeros (Qa.c Qa.zero) (⟨some ((g, 0).1, (g, 0).2 + (i : Int).toNat * 2), ((ys.length : Int) - (i : Int)).toNat, ((s.cap : Int) - (i : Int)).toNat, none⟩ : Sl).len).length = (ys.length - i) * 2 := by
   rw [QaP]
   show ((ys.length : Int) - (i : Int)).toNat * 2 = _
   omega
  generalize zeros (Qa.c Qa.zero) (⟨some ((g, 0).1, (g, 0).2 + (i : Int).toNat * 2), ((ys.length : Int) - (i : Int)).toNat, ((s.cap : Int) - (i : Int)).toNat, none⟩ : Sl).len = Z at *
  have hs2 : splice (zs.flatMap Qa.c ++ sp) (g, 0 + (i : Int).toNat * 2).2 Z = (ys.filter fun x => !(φ x)).flatMap Qa.c ++ (Z ++ (zs.flatMap Qa.c ++ sp).drop ((g, 0 + (i : Int).toNat * 2).2 + Z.length)) := by
   have e0 : (g, 0 + (i : Int).toNat * 2).2 = i * 2 := by show 0 + _ = _; omega
   unfold splice
   rw [e0, List.take_append_of_le_length (by omega), Qih, ht, List.append_assoc]
  have hl2 : (splice (zs.flatMap Qa.c ++ sp) (g, 0 + (i : Int).toNat * 2).2 Z).length = (zs.flatMap Qa.c ++ sp).length := QcY (by
   show 0 + (i : Int).toNat * 2 + Z.length ≤ _
   rw [hZl, List.length_append, hf2]; omega)
  rw [hs2] at hl2 ⊢
  have e3 : ((i : Int) - 0).toNat = (ys.filter fun x => !(φ x)).length := by omega
  have e4 : ((s.cap : Int) - 0).toNat = s.cap := by omega
  rw [e3, e4]
  exact k E _ hE (by rw [hl2, List.length_append, List.length_append, hf2, QO, hz])
theorem Qlg {x : Qa} {K : Bool → Heap → Prop} (k : K (decide (x.N < 0)) H) : Qap C x K H := by
 apply Qap.gh
 apply Qgw
 unfold QdI
 intro b1 n1
 exact fI (Heap.put_same ..) rfl ⟨H, Gh.le (Heap.le_put n1), k⟩
def keepE (l : List En) : List En := l.filter fun e => !(decide (e.2 < 0))
def posE (l : List En) : List En := (keepE l).map fun e => (e.1, 1)
theorem QjI {α β : Type} {p : α → Bool} {q : β → Bool} : ∀ {al : List α} {bs : List β}, al.length = bs.length → (∀ (j : Nat) (a : α) (b : β), al[j]? = some a → bs[j]? = some b → p a = q b) →
 (al.filter p).length = (bs.filter q).length ∧ ∀ (j : Nat) (a : α) (b : β), (al.filter p)[j]? = some a → (bs.filter q)[j]? = some b → ∃ i : Nat, al[i]? = some a ∧ bs[i]? = some b
 | [], [], _, _ => ⟨rfl, fun j a b h => by simp at h⟩
 | a :: al, b :: bs, hl, h => by
  obtain ⟨h1, h2⟩ := QjI (p := p) (q := q) (al := al) (bs := bs) (by simpa using hl) fun j x y hx hy => h (j + 1) x y (by simpa using hx) (by simpa using hy)
  have h0 := h 0 a b rfl rfl
  simp only [List.filter_cons, h0]
  cases hq : q b with
  | true =>
   simp only [if_true, List.length_cons, h1, true_and]
   intro j x y hx hy
   cases j with
   | zero => simp at hx hy; exact ⟨0, by simp [hx], by simp [hy]⟩
   | succ j =>
    obtain ⟨i, q1, q2⟩ := h2 j x y (by simpa using hx) (by simpa using hy)
    exact ⟨i + 1, by simpa using q1, by simpa using q2⟩
  | false =>
   simp only [Bool.false_eq_true, if_false, h1, true_and]
   intro j x y hx hy
   obtain ⟨i, q1, q2⟩ := h2 j x y hx hy
   exact ⟨i + 1, by simpa using q1, by simpa using q2⟩
theorem delOg {B : Heap} {es : List En} {s : Sl} {ys : List Qa} {K : Sl → Heap → Prop} (h : OgE H B es s ys) (hn : es.length ≤ 1000000) (k : ∀ r zs D, OgE H D (keepE es) r zs → K r D) :
 Qs C s (.func (.func 49) (List.toArray []) (List.toArray []) : Value) K B := by
 obtain ⟨hle, ⟨q1, q2, q3, q4⟩, hf⟩ := h.own
 have hsl := h.slen
 have hlen := h.len
 have e2 : ∀ x : Qa, (!(decide (x.N < 0))) = !(decide (x.N < 0)) := fun _ => rfl
 rcases q4 with ⟨p0, c0⟩ | ⟨g, sp, hp, hb, hcl⟩
 ·have h0 : es = [] := List.length_eq_zero_iff.1 (by omega)
  subst h0
  have hy0 : ys = [] := List.length_eq_zero_iff.1 (by rw [hlen]; rfl)
  subst hy0
  apply Q2
  unfold QC
  refine Qli (xs := []) (φ := fun _ => false) ⟨[], .inl rfl, hsl, rfl, by simp, fun i v x hv => by simp at hv⟩ (fun x hx => by simp at hx) (fun _ => QA rfl (k s [] B h)) (fun i hi => by simp at hi)
 have hB0 : (B.off s) g = none := Heap.off_fresh s B _ hp
 have heq : B = (B.off s).put g (.row (ys.flatMap Qa.c ++ sp)) := by
  funext x
  by_cases hx : x = g
  ·subst hx; rw [Heap.put_same]; exact hb
  ·rw [Heap.put_ne _ _ _ hx]
   unfold Heap.off
   rw [if_neg (by rw [hp]; simpa using fun e : g = x => hx e.symm)]
 rw [heq]
 have hHo : H.le (B.off s) := Heap.le_off hle hf
 refine QmR (φ := fun x => decide (x.N < 0)) hp q2 (by rw [hsl, hlen]) q3 (by omega) hB0 (fun E x _ _ Φ hΦ => cu QgU (Spec.mono (Qlg (C := C) (x := x) (H := E) (K := fun r H2 => Φ (.bool r) H2) hΦ) fun v H2 ⟨r, hv, hr⟩ => by rw [hv]; exact hr)) (fun E sp2 hE hl2 => ?_)
 obtain ⟨f1, f2⟩ := QjI (p := fun e : En => !(decide (e.2 < 0))) (q := fun x : Qa => !(decide (x.N < 0))) (al := es) (bs := ys) hlen.symm fun j a b ha hb => by rw [(h.done j a b ha hb).2]
 refine k _ (ys.filter fun x => !(decide (x.N < 0))) _ ⟨⟨Qn (hHo.trans hE) (hf _ hp), ⟨?_, rfl, ?_, .inr ⟨g, sp2, rfl, Heap.put_same .., ?_⟩⟩, fun p hp' => by injection hp' with hp'; subst hp'; exact hf _ hp⟩, f1.symm, fun j e y he hy => ?_⟩
 ·rw [QO]
 ·show (ys.filter _).length ≤ s.cap
  have := List.length_filter_le (fun x : Qa => !(decide (x.N < 0))) ys
  omega
 ·rw [hl2]; exact hcl
 ·rw [QkC (x := 0) rfl]
  obtain ⟨i, i1, i2⟩ := f2 j e y he hy
  obtain ⟨m1, m2⟩ := h.done i e y i1 i2
  refine ⟨m1.up fun x e hx => ?_, m2⟩
  have hxg : x ≠ g := fun e' => by subst e'; rw [hB0] at hx; cases hx
  unfold Heap.off
  rw [if_neg (by simpa using fun e : g = x => hxg e.symm)]
  exact hE _ _ hx
end
end
section
open Go Go.Proofs
theorem QjP : ∀ {o : List En}, o.Pairwise (fun a b => cmpR a.1 b.1 < 0) → (∀ e ∈ o, mayR e.1 = true) → ∀ {r : List V}, mayR r = true → (∃ A n B, o = A ++ (r, n) :: B) ∨ ∃ A B, o = A ++ B ∧ (∀ a ∈ A, cmpR a.1 r < 0) ∧ ∀ b ∈ B, cmpR r b.1 < 0
 | [], _, _, r, _ => .inr ⟨[], [], rfl, fun a h => by simp at h, fun a h => by simp at h⟩
 | e :: o, hp, hm, r, hr => by
  have hp' := List.pairwise_cons.1 hp
  have he := hm e (List.mem_cons_self ..)
  rcases Int.lt_trichotomy (cmpR e.1 r) 0 with h | h | h
  ·rcases QjP hp'.2 (fun x hx => hm x (List.mem_cons_of_mem _ hx)) hr with ⟨A, n, B, q⟩ | ⟨A, B, q, q1, q2⟩
   ·exact .inl ⟨e :: A, n, B, by rw [q]; rfl⟩
   ·refine .inr ⟨e :: A, B, by rw [q]; rfl, fun a ha => ?_, q2⟩
    rcases List.mem_cons.1 ha with rfl | ha
    ·exact h
    ·exact q1 a ha
  ·have e1 := (Qgy he hr).1 h
   subst e1
   exact .inl ⟨[], e.2, o, rfl⟩
  ·have h2 : cmpR r e.1 < 0 := by have := Lin.row.anti e.1 r trivial trivial; omega
   refine .inr ⟨[], e :: o, rfl, fun a h => by simp at h, fun b hb => ?_⟩
   rcases List.mem_cons.1 hb with rfl | hb
   ·exact h2
   ·have h3 := hp'.1 b hb
    exact (Lin.row.tr r e.1 b.1 trivial trivial trivial (by omega) (by omega)).2 (.inl h2)
theorem Qn9 : ∀ (n : Nat) (es : List En), es.length = n → (∀ e ∈ es, mayR e.1 = true) → ∃ o, IsSum es o
 | 0, es, hn, _ => by
  have : es = [] := List.length_eq_zero_iff.1 hn
  subst this; exact ⟨[], IsSum.nil⟩
 | n + 1, es, hn, hm => by
  have hne : es ≠ [] := fun e => by subst e; simp at hn
  obtain ⟨fs, e, rfl⟩ : ∃ fs e, es = fs ++ [e] := ⟨es.dropLast, es.getLast hne, (List.dropLast_concat_getLast hne).symm⟩
  obtain ⟨o, ho⟩ := Qn9 n fs (by simpa using hn) fun x hx => hm x (List.mem_append_left _ hx)
  obtain ⟨r, m⟩ := e
  have hr : mayR r = true := hm (r, m) (List.mem_append_right _ (List.mem_cons_self ..))
  have ho' : ∀ x ∈ o, mayR x.1 = true := fun x hx => by
   obtain ⟨⟨y, hy, e⟩, _⟩ := (ho.mem x.1 x.2).1 hx
   rw [← e]; exact hm y (List.mem_append_left _ hy)
  rcases QjP ho.rise ho' hr with ⟨A, k, B, q⟩ | ⟨A, B, q, q1, q2⟩
  ·subst q; exact ⟨_, ho.add⟩
  ·subst q; exact ⟨_, ho.ins q1 q2⟩
theorem QlO {l : List En} (h : chkE l = 0) : (∀ e ∈ l, mayR e.1 = true) ∧ ∀ e ∈ l, outE e.2 = false := by
 unfold chkE at h
 split at h
 ·cases h
 ·rename_i h1
  split at h
  ·cases h
  ·rename_i h2
   refine ⟨fun e he => ?_, fun e he => ?_⟩
   ·cases hb : mayR e.1 with
    | true => rfl
    | false => exact absurd (List.any_eq_true.2 ⟨e, he, by rw [hb]; rfl⟩) h1
   ·cases hb : outE e.2 with
    | false => rfl
    | true => exact absurd (List.any_eq_true.2 ⟨e, he, hb⟩) h2
theorem QmA {l : List En} {e : Int} {out : List En} (h : ResP l e out) : out.length ≤ l.length := by
 by_cases c : chkE l = 0
 ·obtain ⟨o, ho⟩ := Qn9 _ l rfl (QlO c).1
  cases hb : o.any fun e => outE e.2 with
  | true => rw [(h.over c o ho hb).2]; exact Nat.zero_le _
  | false => rw [(h.ok c o ho hb).2]; exact Qo4 ho
 ·rw [(h.err c).2]; exact Nat.zero_le _
section
variable {C : Ctx} {H A : Heap}
def oneE (l : List En) : List En := l.map fun e => (e.1, 1)
theorem QpK {B : Heap} {es : List En} {s : Sl} {ys : List Qa} {K : Heap → Prop} (h : OgE H B es s ys) (hn : es.length ≤ 1000000) (k : ∀ zs D, OgE H D (oneE es) s zs → K D) :
 lp (α := Int) 0 B (fun x6 J7 H8 =>
  ift (decide ((x6 : Int) < (Sl.len s : Int)))
   (ixa s x6 fun p10 => st ((p10.1, p10.2 + (x6 : Int).toNat * 2).1, (p10.1, p10.2 + (x6 : Int).toNat * 2).2 + 1) (.int .i64 1) (fun H15 => J7 (w .i64 (x6 + 1)) H15) H8)
   (K H8)) := by
 have hlen := h.len
 refine ⟨fun x D => ∃ (i : Nat) (fs : List En) (zs : List Qa), x = (i : Int) ∧ i ≤ es.length ∧ fs.length = es.length ∧ OgE H D fs s zs ∧ (∀ j, (hj : j < es.length) → fs[j]? = some (if j < i then (es[j].1, 1) else es[j])), fun x _ => es.length - x.toNat,
  ⟨0, es, ys, rfl, Nat.zero_le _, rfl, h, fun j hj => by rw [List.getElem?_eq_getElem hj, if_neg (by omega)]⟩, ?_⟩
 rintro _ D ⟨i, fs, zs, rfl, hi, hfl, hg, hq⟩
 have hsl := hg.slen
 rw [hsl, hfl]
 refine ift.of (fun hc => ?_) (fun hc => ?_)
 ·have hlt : i < es.length := by have := of_decide_eq_true hc; omega
  have hif : i < fs.length := by omega
  obtain ⟨hle, ⟨q1, q2, q3, q4⟩, hf⟩ := hg.own
  rcases q4 with ⟨p0, c0⟩ | ⟨g, sp, hp, hb, hcl⟩
  ·omega
  have hzl := hg.len
  refine ⟨(g, 0), hp, q2, by omega, by omega, ?_⟩
  have e0 : ((g, 0).1, (g, 0).2 + ((i : Int)).toNat * 2).2 + 1 = i * 2 + 1 := by show 0 + (i : Int).toNat * 2 + 1 = _; omega
  refine ⟨_, hb, ?_, ?_⟩
  ·show ((g, 0).1, (g, 0).2 + ((i : Int)).toNat * 2).2 + 1 < _
   rw [e0, List.length_append, QO]; omega
  show (∃ i' fs' zs', _) ∧ _
  have e1 : (((g, 0).1, (g, 0).2 + ((i : Int)).toNat * 2).1, ((g, 0).1, (g, 0).2 + ((i : Int)).toNat * 2).2 + 1).2 = i * 2 + 1 := e0
  rw [Qq (by omega) (by omega)]
  refine ⟨⟨i + 1, fs.set i (fs[i].1, 1), zs.set i (⟨(zs[i]'(by omega)).Row, 1⟩ : Qa), by omega, by omega, by rw [List.length_set, hfl], ?_, fun j hj => ?_⟩, by first | omega | (dsimp only; omega)⟩
  ·have := hg.setN (n := 1) hif hp hb
   rw [e1]
   exact this
  ·have h0 := hq i hlt
   rw [if_neg (Nat.lt_irrefl _), List.getElem?_eq_getElem hif] at h0
   injection h0 with h0
   by_cases hji : j = i
   ·subst hji
    rw [List.getElem?_set_self hif, if_pos (by omega), h0]
   ·rw [List.getElem?_set_ne fun e => hji e.symm, hq j hj]
    by_cases hlt2 : j < i
    ·rw [if_pos hlt2, if_pos (by omega)]
    ·rw [if_neg hlt2, if_neg (by omega)]
 ·have hie : i = es.length := by have := of_decide_eq_false hc; omega
  have e : fs = oneE es := by
   unfold oneE
   refine List.ext_getElem? fun j => ?_
   by_cases hj : j < es.length
   ·rw [hq j hj, if_pos (by omega), List.getElem?_map, List.getElem?_eq_getElem hj]; rfl
   ·rw [List.getElem?_eq_none (by omega), List.getElem?_map, List.getElem?_eq_none (by omega)]; rfl
  rw [e] at hg
  exact k zs D hg
theorem Qov (l : List En) : (keepE l).length ≤ l.length := List.length_filter_le ..
/-- behind Clean -/
theorem Qnm {H0 : Heap} {out : List En} {cs : Sl} {ys : List Qa} {e : Int} {K : Sl → Int → Heap → Prop} (h : OgE H H0 out cs ys) (hn : out.length ≤ 1000000) (k : ∀ r zs D, OgE H D (posE out) r zs → K r e D) :
 Qs C cs (.func (.func 49) (List.toArray []) (List.toArray []) : Value) (fun r4 H5 =>
  lp (α := Int) 0 H5 (fun x6 J7 H8 =>
   ift (decide ((x6 : Int) < (Sl.len r4 : Int)))
    (ixa r4 x6 fun p10 => st ((p10.1, p10.2 + (x6 : Int).toNat * 2).1, (p10.1, p10.2 + (x6 : Int).toNat * 2).2 + 1) (.int .i64 1) (fun H15 => J7 (w .i64 (x6 + 1)) H15) H8)
    (K r4 e H8))) H0 :=
 delOg h hn fun r zs D hd => QpK hd (by have := Qov out; omega) fun zs2 D2 h2 => k r zs2 D2 h2
theorem Qoy {a : Sl} {la : List En} {K : Sl → Int → Heap → Prop} (ha : EnL H a la) (hn : la.length ≤ 1000000) (hsz : ∀ x ∈ la, vsizes x.1 ≤ 1000000)
 (k : ∀ e out cs ys H0, ResP la e out → out.length ≤ la.length → OgE H H0 (posE out) cs ys → K cs e H0) : QaL C a K H := by
 apply Qh7
 unfold QeQ
 refine Qlq ha hn hsz ?_
 have hrg : ∀ x ∈ seqS [(la, false)], -9223372036854775808 ≤ x.1.2 ∧ x.1.2 < 9223372036854775808 := fun x hx => by
  simp [seqS] at hx
  obtain ⟨r, n, h, rfl⟩ := hx
  exact (ha.oks _ h).2.2
 refine Qig hrg fun e out cs ys H0 h1 h2 => ?_
 rw [esC] at h1
 exact Qnm h2 (by have := QmA h1; omega) fun r zs D hd => k e out r zs D h1 (QmA h1) hd
/-- sums of closed lists -/
def riseB : List En → Bool
 | [] => true
 | e :: l => l.all (fun x => decide (cmpR e.1 x.1 < 0)) && riseB l
theorem QmE : ∀ {l : List En}, riseB l = true → l.Pairwise fun a b => cmpR a.1 b.1 < 0
 | [], _ => List.Pairwise.nil
 | e :: l, h => by
  simp only [riseB, Bool.and_eq_true] at h
  exact List.pairwise_cons.2 ⟨fun x hx => of_decide_eq_true (List.all_eq_true.1 h.1 x hx), QmE h.2⟩
def calcB (es l : List En) : Bool := riseB l && l.all (fun e => decide (e.2 = totE es e.1) && decide (e.2 ≠ 0)) && es.all fun e => decide (totE es e.1 = 0) || l.any fun x => sameVs x.1 e.1 && decide (x.2 = totE es e.1)
theorem QpH {es o l : List En} (h : IsSum es o) (hc : calcB es l = true) : nzE o = l := by
 unfold calcB at hc
 simp only [Bool.and_eq_true] at hc
 obtain ⟨⟨h1, h2⟩, h3⟩ := hc
 refine QgX (QhA h) (QmE h1) fun x => ?_
 obtain ⟨r, n⟩ := x
 rw [QhK h]
 constructor
 ·rintro ⟨rfl, h0⟩
  have : ∃ e ∈ es, e.1 = r := Classical.byContradiction fun hn => h0 (Qab fun e he e' => hn ⟨e, he, e'⟩)
  obtain ⟨e, he, rfl⟩ := this
  have := List.all_eq_true.1 h3 e he
  rw [Bool.or_eq_true] at this
  rcases this with this | this
  ·exact absurd (of_decide_eq_true this) h0
  ·obtain ⟨x, hx, hb⟩ := List.any_eq_true.1 this
   rw [Bool.and_eq_true] at hb
   obtain ⟨x1, x2⟩ := x
   have e1 := Qby.1 hb.1
   have e2 := of_decide_eq_true hb.2
   simp only at e1 e2
   rw [← e1, ← e2] at *
   exact hx
 ·intro hx
  have := List.all_eq_true.1 h2 _ hx
  rw [Bool.and_eq_true] at this
  exact ⟨of_decide_eq_true this.1, of_decide_eq_true this.2⟩
def okB (es : List En) : Bool := es.all fun e => mayR e.1 && !(outE e.2) && !(outE (totE es e.1))
theorem Qo6 {es : List En} (h : okB es = true) : OkS es := by
 unfold okB at h
 have h1 : ∀ e ∈ es, (mayR e.1 = true ∧ outE e.2 = false) ∧ outE (totE es e.1) = false := fun e he => by
  have := List.all_eq_true.1 h e he
  simpa [Bool.and_eq_true] using this
 refine ⟨fun e he => (h1 e he).1.1, fun e he => (h1 e he).1.2, fun r => ?_⟩
 by_cases hr : ∃ e ∈ es, e.1 = r
 ·obtain ⟨e, he, rfl⟩ := hr; exact (h1 e he).2
 ·rw [Qab fun e he e' => hr ⟨e, he, e'⟩]; rfl
theorem Qny {b n cap : Nat} {m : Bool} {es : List En} {xs : List Qa} {cs : List Value} (h : H b = some (m, .row cs)) (hc : cs = xs.flatMap Qa.c ++ []) (hn : n = xs.length) (hl : es.length = xs.length) (hb : es.length ≤ 140737488355328)
 (hr : ∀ (i : Nat) (v : En) (x : Qa), es[i]? = some v → xs[i]? = some x → EnIs H v x) : EnL H (Sl.of (some (b, 0)) n cap) es := by
 subst hc
 exact ⟨xs, .inr ⟨rfl, _, rfl, Qaf h fun j v hj => by simpa using hj⟩, hn, hl, hb, hr⟩
end
end
section
open Go Go.Proofs
def pick (row : List V) (p : Int) : Option V := if p < 0 then none else row[p.toNat]?
def picks (row : List V) : List Int → Option (List V)
 | [] => some []
 | p :: ps => match pick row p, picks row ps with
  | some v, some vs => some (v :: vs)
  | _, _ => none
def showK (vs : List V) : Str := vs.flatMap fun v => showV v ++ [59]
def keyE (ps : List Int) (row : List V) : Option Str := (picks row ps).map showK
def fitB (on : List (Int × Int)) (a b : List V) : Bool :=
 match picks a (on.map fun p => p.1), picks b (on.map fun p => p.2) with
 | some vs, some ws => sameVs vs ws
 | _, _ => false
theorem QoE {row : List V} {p : Int} {v : V} (h : pick row p = some v) : v ∈ row := by
 unfold pick at h
 split at h
 ·cases h
 ·exact List.mem_of_getElem? h
theorem QiQ {row : List V} : ∀ {ps : List Int} {vs : List V}, picks row ps = some vs → ∀ v ∈ vs, v ∈ row
 | [], vs, h, v, hv => by simp [picks] at h; subst h; simp at hv
 | p :: ps, vs, h, v, hv => by
  simp only [picks] at h
  split at h
  ·rename_i w ws h1 h2
   injection h with h; subst h
   rcases List.mem_cons.1 hv with rfl | hv
   ·exact QoE h1
   ·exact QiQ h2 v hv
  ·cases h
theorem QhD {row : List V} {p : Int} : ∀ {ps : List Int}, picks row (ps ++ [p]) = (match picks row ps, pick row p with
 | some vs, some v => some (vs ++ [v])
 | _, _ => none)
 | [] => by simp only [List.nil_append, picks]; cases pick row p <;> rfl
 | q :: ps => by
  simp only [List.cons_append, picks, QhD (ps := ps)]
  cases pick row q <;> cases picks row ps <;> cases pick row p <;> rfl
theorem QjS (vs : List V) (v : V) : showK (vs ++ [v]) = showK vs ++ (showV v ++ [59]) := by simp [showK]
theorem QmK {v : V} {vs : List V} : showK (v :: vs) ≠ [] := fun e => by
 have := congrArg List.length e
 simp [showK] at this
theorem QiZ : ∀ {vs ws : List V}, (∀ v ∈ vs, mayV v = true) → (∀ v ∈ ws, mayV v = true) → showK vs = showK ws → vs = ws
 | [], [], _, _, _ => rfl
 | [], w :: ws, _, _, h => absurd h.symm QmK
 | v :: vs, [], _, _, h => absurd h QmK
 | v :: vs, w :: ws, h1, h2, h => by
  have e : ∀ (v : V) (vs : List V), showK (v :: vs) = showV v ++ (59 :: showK vs) := fun v vs => by simp [showK]
  rw [e, e] at h
  have m1 := h1 v (List.mem_cons_self ..)
  have m2 := h2 w (List.mem_cons_self ..)
  obtain ⟨e1, e2⟩ := QoP v w _ _ (QcA m1) (QcA m2) (.inr ⟨59, _, rfl, by simp⟩) (.inr ⟨59, _, rfl, by simp⟩) h
  injection e2 with _ e2
  rw [e1, QiZ (fun x hx => h1 x (List.mem_cons_of_mem _ hx)) (fun x hx => h2 x (List.mem_cons_of_mem _ hx)) e2]
theorem Qhx {r : List V} (h : mayR r = true) : ∀ v ∈ r, mayV v = true := fun v hv => List.all_eq_true.1 h v hv
theorem Qml {on : List (Int × Int)} {a b : List V} (h : keyE (on.map fun p => p.1) a = none) : fitB on a b = false := by
 unfold keyE at h
 unfold fitB
 rw [Option.map_eq_none_iff] at h
 rw [h]
theorem Qnp {on : List (Int × Int)} {a b : List V} {k : Str} (ha : mayR a = true) (hb : mayR b = true) (h : keyE (on.map fun p => p.1) a = some k) : fitB on a b = (keyE (on.map fun p => p.2) b == some k) := by
 unfold keyE at h
 obtain ⟨vs, h1, h2⟩ := Option.map_eq_some_iff.1 h
 unfold fitB keyE
 rw [h1]
 cases hq : picks b (on.map fun p => p.2) with
 | none => rfl
 | some ws =>
  show sameVs vs ws = (some (showK ws) == some k)
  rw [Bool.eq_iff_iff, Qby]
  constructor
  ·rintro rfl; rw [h2]; simp
  ·intro he
   have he : showK ws = k := by simpa using he
   exact QiZ (fun v hv => Qhx ha v (QiQ h1 v hv)) (fun v hv => Qhx hb v (QiQ hq v hv)) (by rw [h2, he])
def pairE (on : List (Int × Int)) (a b : List En) : List En := a.flatMap fun x => (b.filter fun y => fitB on x.1 y.1).map fun y => (x.1 ++ y.1, x.2 * y.2)
def noneE (on : List (Int × Int)) (a b : List En) : List En := a.filter fun x => !(b.any fun y => fitB on x.1 y.1)
theorem Qmx {on : List (Int × Int)} {a b : List En} {e : En} (h : e ∈ pairE on a b) : ∃ x ∈ a, ∃ y ∈ b, e = (x.1 ++ y.1, x.2 * y.2) := by
 obtain ⟨x, hx, h⟩ := List.mem_flatMap.1 h
 obtain ⟨y, hy, rfl⟩ := List.mem_map.1 h
 exact ⟨x, hx, y, (List.mem_filter.1 hy).1, rfl⟩
def lin (g : List V → Int) : List En → Int
 | [] => 0
 | e :: l => e.2 * g e.1 + lin g l
def negL (l : List En) : List En := l.map fun e => (e.1, -e.2)
theorem QlE (r : List V) : ∀ (a : List En), totE (negL a) r = - totE a r
 | [] => rfl
 | e :: a => by
  have ih := QlE r a
  simp only [negL, List.map_cons, totE] at ih ⊢
  rw [ih]; split <;> omega
def mass : List En → Int
 | [] => 0
 | e :: l => (if e.2 < 0 then -e.2 else e.2) + mass l
theorem QnB : ∀ l : List En, 0 ≤ mass l
 | [] => Int.le_refl _
 | e :: l => by have := QnB l; simp only [mass]; split <;> omega
theorem QiC : ∀ (a b : List En), mass (a ++ b) = mass a + mass b
 | [], b => by simp [mass]
 | e :: a, b => by simp only [List.cons_append, mass, QiC a b]; omega
theorem Qmu (r : List V) : ∀ l : List En, -(mass l) ≤ totE l r ∧ totE l r ≤ mass l
 | [] => by simp [mass, totE]
 | e :: l => by
  have := Qmu r l
  simp only [mass, totE]
  split <;> split <;> omega
theorem Qmt {e : En} : ∀ {l : List En}, e ∈ l → -(mass l) ≤ e.2 ∧ e.2 ≤ mass l
 | x :: l, h => by
  have h0 := QnB l
  simp only [mass]
  rcases List.mem_cons.1 h with rfl | h
  ·split <;> omega
  ·have := Qmt h; split <;> omega
end
section
open Go Go.Proofs
def cI (x : Int) : List Value := [.int .i64 x]
def IL (A : Heap) := SlIs (fun v x : Int => x = v) cI A
abbrev Pr := Int × Int
def PrIs (v : Pr) (x : Qg) : Prop := x.Left = v.1 ∧ x.Right = v.2
def PrL (A : Heap) := SlIs PrIs Qg.c A
theorem IL.le {A B : Heap} {s : Sl} {l : List Int} (h : IL A s l) (hle : A.le B) : IL B s l := SlIs.le hle h fun _ _ _ h => h
theorem PrL.le {A B : Heap} {s : Sl} {l : List Pr} (h : PrL A s l) (hle : A.le B) : PrL B s l := SlIs.le hle h fun _ _ _ h => h
theorem IL.nil {A : Heap} : IL A Sl.nil [] := ⟨[], .inl rfl, rfl, rfl, by simp, fun i v x hv => by simp at hv⟩
theorem IL.rd {A H : Heap} {s : Sl} {l : List Int} (h : IL A s l) (hle : A.le H) {i : Nat} {x : Int} {K : Int → Prop} (hx : x = i) (hi : i < l.length) (k : K l[i]) : ixa s x fun p => ldI H .i64 (p.1, p.2 + x.toNat * 1) K :=
 SlIs.at_ h hle (z := 1) (fun _ => rfl) (by omega) hx hi fun p y hy hr => ⟨y, hr 0 _ rfl, by rw [hy]; exact k⟩
theorem Qko (l : List Int) : (l.flatMap cI).length = l.length := by
 induction l with
 | nil => rfl
 | cons a l ih =>
  rw [List.flatMap_cons, List.length_append, ih]
  show 1 + l.length = l.length + 1
  omega
theorem IL.eq {A : Heap} {s : Sl} {l : List Int} (h : IL A s l) : rdsl A s (l.flatMap cI) ∧ s.len = l.length := by
 obtain ⟨xs, x1, x2, x3, x4, x5⟩ := h
 have : xs = l := List.ext_getElem? fun i => by
  by_cases hi : i < l.length
  ·rw [List.getElem?_eq_getElem hi, List.getElem?_eq_getElem (by omega), x5 i _ _ (List.getElem?_eq_getElem hi) (List.getElem?_eq_getElem (by omega))]
  ·rw [List.getElem?_eq_none (by omega), List.getElem?_eq_none (by omega)]
 subst this; exact ⟨x1, x2⟩
theorem IL.of {A : Heap} {s : Sl} {l : List Int} (h : rdsl A s (l.flatMap cI)) (hl : s.len = l.length) (hb : l.length ≤ 140737488355328) : IL A s l := ⟨l, h, hl, rfl, hb, fun i v x hv hx => by rw [hv] at hx; injection hx with hx; exact hx.symm⟩
theorem Qmy {row : List V} {p : Int} : ∀ {ps : List Int}, p ∈ ps → pick row p = none → picks row ps = none
 | q :: ps, h, hp => by
  simp only [picks]
  rcases List.mem_cons.1 h with rfl | h
  ·rw [hp]
  ·rw [Qmy h hp]; cases pick row q <;> rfl
theorem QmL {row : List V} (hB : VBs row) (hm : mayR row = true) {v : V} (hv : v ∈ row) (hs : vsizes row ≤ 1000) : (showV v).length ≤ 17000000 := by
 have m := Qhx hm v hv
 have hsz := QcG hv
 obtain ⟨_, q2, q3⟩ := (Qmv v).1 m
 have := Qn5 v (hB.mem hv) q2 q3
 have h2 : 17000 * vsize v ≤ 17000 * 1000 := Nat.mul_le_mul_left _ (by omega)
 omega
section
variable {C : Ctx} {H A : Heap}
theorem Qmo (hF : FmtC C) {ps : List Int} {x : Qc} {row : List V} {s : Sl} {K : Str → Bool → Heap → Prop} (hp : IL A x.places_ ps) (hr : VRow A s row) (hA : A.le H) (hB : VBs row) (hm : mayR row = true) (hs : vsizes row ≤ 1000) (hn : ps.length ≤ 100000)
 (k1 : ∀ key, keyE ps row = some key → ∀ H2, H.le H2 → K key true H2) (k0 : keyE ps row = none → ∀ H2, H.le H2 → K [] false H2) : Qax C x s K H := by
 apply Qhr
 unfold Qd6
 intro b1 n1
 have l1 := Heap.le_put n1 (g := .row (Qc.c x)) (m := true)
 have c1 : (H.put b1 (.row (Qc.c x))) b1 = some (true, .row (Qc.c x)) := Heap.put_same ..
 generalize H.put b1 (.row (Qc.c x)) = H1 at *
 have hrl := hr.len
 have hrv := Qaq row
 refine fL c1 (t := x.places_) rfl ?_
 refine ⟨fun y D => H.le D ∧ ∃ (i : Nat) (vs : List V), y.2 = (i : Int) ∧ i ≤ ps.length ∧ picks row (ps.take i) = some vs ∧ y.1 = showK vs ∧ (showK vs).length ≤ i * 17000001, fun y _ => ps.length - y.2.toNat, ⟨l1, 0, [], rfl, Nat.zero_le _, rfl, rfl, by simp [showK]⟩, ?_⟩
 rintro ⟨_, _⟩ D ⟨hD, i, vs, rfl, hi, hv, rfl, hvl⟩
 have hAD := hA.trans hD
 rw [hp.len]
 refine ift.of (fun h => ?_) (fun h => ?_)
 ·have hlt : i < ps.length := by have := of_decide_eq_true h; dsimp only at this; omega
  refine hp.rd hAD rfl hlt ?_
  have hmem := List.getElem_mem hlt
  rw [hrl]
  refine ift.of (fun h2 => ?_) (fun h2 => ?_)
  ·have hnone : pick row ps[i] = none := by
    unfold pick
    rw [Bool.or_eq_true] at h2
    rcases h2 with h2 | h2
    ·rw [if_pos (of_decide_eq_true h2)]
    ·have := of_decide_eq_true h2
     rw [if_neg (by omega)]
     exact List.getElem?_eq_none (by omega)
   exact k0 (by unfold keyE; rw [Qmy hmem hnone]; rfl) D hD
  ·rw [Bool.or_eq_false_iff] at h2
   have q1 := of_decide_eq_false h2.1
   have q2 := of_decide_eq_false h2.2
   have hpl : ps[i].toNat < row.length := by omega
   have hpk : pick row ps[i] = some row[ps[i].toNat] := by unfold pick; rw [if_neg (by omega), List.getElem?_eq_getElem hpl]
   have hmv := List.getElem_mem hpl
   refine hr.ld hAD (i := ps[i].toNat) (by omega) hpl fun z hz => ?_
   have hm1 := Qhx hm _ hmv
   refine Qpm hF (hz.le hAD) (hB.mem hmv) (fun _ => by have := QmL hB hm hmv hs; omega) fun H2 l2 => ?_
   rw [if_pos hm1]
   have hb := QmL hB hm hmv hs
   have hi2 : i * 17000001 ≤ 100000 * 17000001 := Nat.mul_le_mul_right _ (by omega)
   refine ⟨by unfold catOk; simp; omega, by unfold catOk; rw [List.length_append]; simp; omega, ?_⟩
   rw [Qq (by dsimp only; omega) (by dsimp only; omega)]
   refine ⟨⟨hD.trans l2, i + 1, vs ++ [row[ps[i].toNat]], by dsimp only; omega, by omega, by rw [List.take_add_one, List.getElem?_eq_getElem hlt, Option.toList_some, QhD, hv, hpk], by rw [QjS], ?_⟩, by first | omega | (dsimp only; omega)⟩
   rw [QjS, List.length_append, List.length_append]
   simp only [List.length_singleton]
   omega
 ·have hie : i = ps.length := by have := of_decide_eq_false h; dsimp only at this; omega
  rw [hie, List.take_length] at hv
  exact k1 _ (by unfold keyE; rw [hv]; rfl) D hD
theorem Qlt : ∀ (row : List V) (n : Nat), n ≤ row.length → picks row ((List.range n).map fun i : Nat => (i : Int)) = some (row.take n)
 | row, 0, _ => rfl
 | row, n + 1, h => by
  rw [List.range_succ, List.map_append, List.map_singleton, QhD, Qlt row n (by omega)]
  have : pick row (n : Int) = some row[n] := by unfold pick; rw [if_neg (by omega)]; exact List.getElem?_eq_getElem (by omega)
  rw [this, List.take_add_one, List.getElem?_eq_getElem (by omega)]; rfl
theorem Qmn (row : List V) : keyE ((List.range row.length).map fun i : Nat => (i : Int)) row = some (showK row) := by
 unfold keyE; rw [Qlt row _ (Nat.le_refl _), List.take_length]; rfl
theorem QkX (hF : FmtC C) {x : Qc} {row : List V} {s : Sl} {K : Str → Bool → Heap → Prop} (hx : x.places_ = Sl.nil) (hr : VRow A s row) (hA : A.le H) (hB : VBs row) (hm : mayR row = true) (hs : vsizes row ≤ 1000)
 (k1 : ∀ H2, H.le H2 → K (showK row) true H2) : Qay C x s K H := by
 apply Qga
 unfold Qdl
 intro b1 n1
 have l1 := Heap.le_put n1 (g := .row (Qc.c x)) (m := true)
 have hrl := hr.len
 have hrv := Qaq row
 refine ⟨fun y D => H.le D ∧ ∃ (i : Nat) (t : Sl) (E : Heap), y = (i : Int) ∧ i ≤ row.length ∧ D b1 = some (true, .row [slv t]) ∧ t.len ≤ t.cap ∧ H.le E ∧ E.le D ∧ E b1 = none ∧ IL E t ((List.range i).map fun i : Nat => (i : Int)), fun y _ => row.length - y.toNat, ⟨l1, 0, Sl.nil, H, rfl, Nat.zero_le _, by rw [Heap.put_same]; rw [show Qc.c x = [slv x.places_] from rfl, hx], Nat.le_refl _, Heap.le.refl _, l1, n1, IL.nil⟩, ?_⟩
 rintro _ D ⟨hD, i, t, E, rfl, hi, hb, htc, hE, hED, hE1, hI⟩
 rw [hrl]
 refine ift.of (fun h => ?_) (fun h => ?_)
 ·have hlt : i < row.length := by have := of_decide_eq_true h; omega
  refine fL hb (t := t) rfl (fL hb (t := t) rfl (fL hb (t := t) rfl ?_))
  obtain ⟨x1, x2⟩ := hI.eq
  have htl : t.len = i := by simpa using x2
  refine ⟨Int.le_refl _, by omega, Int.le_refl _, by omega, _, rfl, ?_⟩
  have hr13 : rdsl D (⟨if (t.len : Int) = 0 then t.p else t.p.map fun p => (p.1, p.2 + (0 : Int).toNat * 1), ((t.len : Int) - 0).toNat, ((t.len : Int) - 0).toNat, if (t.len : Int) = 0 ∨ (0 : Int).toNat * 1 = 0 then t.x else none⟩ : Sl) (((List.range i).map fun i : Nat => (i : Int)).flatMap cI) := by
   have hp : (if (t.len : Int) = 0 then t.p else t.p.map fun p => (p.1, p.2 + (0 : Int).toNat * 1)) = t.p := by
    split
    ·rfl
    ·cases t.p <;> rfl
   rw [hp, if_pos (.inr rfl)]
   exact (QbR hED x1).imp id fun h => h
  have hl13 : ((t.len : Int) - 0).toNat = i := by omega
  rw [hl13] at hr13 ⊢
  generalize (if (t.len : Int) = 0 then t.p else t.p.map fun p => (p.1, p.2 + (0 : Int).toNat * 1)) = q13 at *
  generalize (if (t.len : Int) = 0 ∨ (0 : Int).toNat * 1 = 0 then t.x else none) = z13 at *
  have hxl : (((List.range i).map fun i : Nat => (i : Int)).flatMap cI).length = i := by rw [Qko]; simp
  refine ⟨_, hr13, by rw [hxl]; show i = i * 1; omega, rfl, by dsimp only; omega, by dsimp only; omega, fun h => absurd h (by dsimp only; omega), fun _ b cap nb hc => ?_⟩
  have hbb : b ≠ b1 := fun e => by subst e; rw [hb] at nb; cases nb
  have hEb := hED.none nb
  refine ⟨[slv t], by rw [Heap.put_ne _ _ _ hbb.symm]; exact hb, by show 0 + 0 < 1; omega, ?_⟩
  rw [Qq (by omega) (by omega)]
  have hHb : H b1 = none := n1
  have lE := Heap.le_put hEb (g := .row (((List.range i).map fun i : Nat => (i : Int)).flatMap cI ++ [Value.int .i64 (i : Int)] ++ zeros [Value.int .i64 0] (cap - (i + 1)))) (m := true)
  have lDb : (E.put b (.row (((List.range i).map fun i : Nat => (i : Int)).flatMap cI ++ [Value.int .i64 (i : Int)] ++ zeros [Value.int .i64 0] (cap - (i + 1))))).le (D.put b (.row (((List.range i).map fun i : Nat => (i : Int)).flatMap cI ++ [Value.int .i64 (i : Int)] ++ zeros [Value.int .i64 0] (cap - (i + 1))))) := fun x e hx => by
   by_cases hxb : x = b
   ·subst hxb; rw [Heap.put_same] at hx ⊢; exact hx
   ·rw [Heap.put_ne _ _ _ hxb] at hx ⊢; exact hED _ _ hx
  refine ⟨⟨Qn (hD.trans (Heap.le_put nb)) hHb, i + 1, Sl.of (some (b, 0)) (i + 1) cap, E.put b (.row (((List.range i).map fun i : Nat => (i : Int)).flatMap cI ++ [Value.int .i64 (i : Int)] ++ zeros [Value.int .i64 0] (cap - (i + 1)))), by omega, by omega, by rw [Heap.put_same]; rfl, hc, hE.trans lE, Qn lDb (by rw [Heap.put_ne _ _ _ hbb.symm]; exact hE1), by rw [Heap.put_ne _ _ _ hbb.symm]; exact hE1, ?_⟩, by first | omega | (dsimp only; omega)⟩
  refine IL.of (.inr ⟨rfl, _, rfl, Qaf (Heap.put_same ..) fun j v hj => ?_⟩) (by simp) (by simp; omega)
  rw [Nat.zero_add]
  rw [List.range_succ, List.map_append, List.flatMap_append] at hj
  have hlt2 := (List.getElem?_eq_some_iff.1 hj).1
  exact (List.getElem?_append_left hlt2).trans hj
 ·have hie : i = row.length := by have := of_decide_eq_false h; omega
  subst hie
  refine bxT (c := Qc.c) (x := (⟨t⟩ : Qc)) hb ?_
  refine Qmo hF (A := E) hI (hr.le (hA.trans hE)) hED hB hm hs (by simp; omega) (fun key hk H2 h2 => ?_) (fun hk => ?_)
  ·rw [Qmn] at hk; injection hk with hk; subst hk; exact k1 H2 (hD.trans h2)
  ·rw [Qmn] at hk; cases hk
theorem Qif {b : Nat} {cs : List Value} {K : Heap → Prop} (h : H b = some (true, .row cs)) (k : K H) : stT (b, 0) cs K H := by
 refine ⟨cs, h, by simp, ?_⟩
 have e : splice cs (b, 0).2 cs = cs := by unfold splice; simp
 rw [e, Heap.QmB h]; exact k
theorem QkJ {D : Heap} {z : Nat} {s t : Sl} {cs : List Value} (h : Own D z t cs) (hd : ∀ p q, s.p = some p → t.p = some q → p.1 ≠ q.1) : Own (D.off s) z t cs := by
 obtain ⟨h1, h2, h3, h4⟩ := h
 refine ⟨h1, h2, h3, ?_⟩
 rcases h4 with h4 | ⟨b, sp, q1, q2, q3⟩
 ·exact .inl h4
 ·exact .inr ⟨b, sp, q1, Heap.off_some q2 fun p hp => hd p _ hp q1, q3⟩
theorem Qo9 {D : Heap} {z : Nat} {s : Sl} {cs : List Value} {b : Nat} {m : Bool} {o : Obj} (h : Own D z s cs) (hb : D b = some (m, .obj o)) : ∀ p, s.p = some p → p.1 ≠ b := fun p hp e => by
 rcases h.2.2.2 with ⟨h4, _⟩ | ⟨b', sp, q1, q2, q3⟩
 ·rw [h4] at hp; cases hp
 ·rw [hp] at q1; injection q1 with q1; subst q1; subst e; rw [hb] at q2; cases q2
/-- a fresh slice's block is none that is known -/
theorem Qdz {D : Heap} {s : Sl} {b : Nat} {e : Bool × GO} (h : Fresh D s) (hb : D b = some e) : ∀ p, s.p = some p → p.1 ≠ b := fun p hp e' => by
 have := h p hp; rw [e', hb] at this; cases this
theorem grow {D : Heap} {t : Sl} {ls : List Int} {v : Int} {K : Sl → Heap → Prop} (o : Own D 1 t (ls.flatMap cI)) (hn : ls.length ≤ 1000000) (k : ∀ r D2, Own D2 1 r ((ls ++ [v]).flatMap cI) → (D.off t).le D2 → Fresh (D.off t) r → K r D2) : apd [.int .i64 0] 8 t [.int .i64 v] 1 K D := by
 have h1 := o.1
 rw [Qko] at h1
 refine Qb5 (zc := [.int .i64 0]) o.off rfl (by omega) (by omega) fun r D2 q1 q2 => k r D2 ?_ q1.le q1.fresh
 have := q1.own
 rw [List.flatMap_append]
 exact this
def SidI (H D : Heap) (b1 b3 : Nat) (ls rs : List Int) : Prop := ∃ t1 t2 : Sl, H.le D ∧ D b1 = some (true, .row [slv t1]) ∧ D b3 = some (true, .row [slv t2]) ∧ Own D 1 t1 (ls.flatMap cI) ∧ Own D 1 t2 (rs.flatMap cI) ∧ Fresh H t1 ∧ Fresh H t2 ∧
 (∀ p, t1.p = some p → p.1 ≠ b1 ∧ p.1 ≠ b3) ∧ (∀ p, t2.p = some p → p.1 ≠ b1 ∧ p.1 ≠ b3) ∧ ∀ p q, t1.p = some p → t2.p = some q → p.1 ≠ q.1
theorem QmN {on : List Pr} {s : Sl} {K : Qc → Qc → Heap → Prop} (h : PrL A s on) (hA : A.le H) (hn : on.length ≤ 1000)
 (k : ∀ x y D, H.le D → IL D x.places_ (on.map fun p => p.1) → IL D y.places_ (on.map fun p => p.2) → K x y D) : QcU C s K H := by
 apply Qi6
 unfold QfM
 intro b1 n1 b3 n3
 have ne : b3 ≠ b1 := fun e => by rw [e, Heap.put_same] at n3; cases n3
 have n3' : H b3 = none := by rw [Heap.put_ne _ _ _ ne] at n3; exact n3
 have l1 := Heap.le_put n1 (g := .row (Qc.c Qc.zero)) (m := true)
 have l3 := Heap.le_put n3 (g := .row (Qc.c Qc.zero)) (m := true)
 refine ⟨fun x D => ∃ i : Nat, x = (i : Int) ∧ i ≤ on.length ∧ SidI H D b1 b3 ((on.take i).map fun p => p.1) ((on.take i).map fun p => p.2), fun x _ => on.length - x.toNat, ⟨0, rfl, Nat.zero_le _, Sl.nil, Sl.nil, l1.trans l3, by rw [Heap.put_ne _ _ _ ne.symm, Heap.put_same]; rfl, by rw [Heap.put_same]; rfl, Own.nil _ 1, Own.nil _ 1, Fresh.nil _, Fresh.nil _, (fun p hp => by cases hp), (fun p hp => by cases hp), (fun p q hp => by cases hp)⟩, ?_⟩
 rintro _ D ⟨i, rfl, hi, t1, t2, hD, c1, c3, o1, o2, f1, f2, d1, d2, d12⟩
 rw [h.len]
 have hAD := hA.trans hD
 refine ift.of (fun hc => ?_) (fun hc => ?_)
 ·have hlt : i < on.length := by have := of_decide_eq_true hc; omega
  refine SlIs.ld h hAD (z := 2) (fun _ => rfl) (by omega) rfl hlt fun y hy => ?_
  intro b nb
  refine nwT rfl ?_
  have lb := Heap.le_put nb (g := .row (Qg.c y)) (m := true)
  have bb1 := Qa5 nb c1
  have bb3 := Qa5 nb c3
  have bt1 : ∀ p, t1.p = some p → p.1 ≠ b := fun p hp => by obtain ⟨g, hg⟩ := o1.mine hp; exact Qa5 nb hg
  have bt2 : ∀ p, t2.p = some p → p.1 ≠ b := fun p hp => by obtain ⟨g, hg⟩ := o2.mine hp; exact Qa5 nb hg
  have cb : (D.put b (.row (Qg.c y))) b = some (true, .row (Qg.c y)) := Heap.put_same ..
  have c1 := lb _ _ c1
  have c3 := lb _ _ c3
  have o1 := o1.le lb
  have o2 := o2.le lb
  have hD := hD.trans lb
  generalize D.put b (.row (Qg.c y)) = D1 at *
  refine fL c1 (t := t1) rfl (fI cb (t := y.Left) rfl ?_)
  have ll : ((on.take i).map fun p => p.1).length ≤ 1000000 := by simp; omega
  have lr : ((on.take i).map fun p => p.2).length ≤ 1000000 := by simp; omega
  refine grow o1 ll fun r H2 q1 q2 q3 => ?_
  have e1 := Heap.off_some c1 fun p hp => (d1 p hp).1
  have e3 := Heap.off_some c3 fun p hp => (d1 p hp).2
  have eb := Heap.off_some cb fun p hp => bt1 p hp
  have w2 := QkJ o2 d12
  have hr1 := Qdz q3 e1
  have hr3 := Qdz q3 e3
  have hr2 : ∀ p q, r.p = some p → t2.p = some q → p.1 ≠ q.1 := fun p q hp hq => by obtain ⟨g, hg⟩ := w2.mine hq; exact Qdz q3 hg p hp
  have hH2 := (Heap.le_off hD f1).trans q2
  have hrf : Fresh H r := q3.le (Heap.le_off hD f1)
  refine stI (q2 _ _ e1) ?_
  have g1 : (H2.put b1 (.row [slv r])) b1 = some (true, .row [slv r]) := Heap.put_same ..
  have g3 : (H2.put b1 (.row [slv r])) b3 = some (true, .row [slv t2]) := by rw [Heap.put_ne _ _ _ ne]; exact q2 _ _ e3
  have gb : (H2.put b1 (.row [slv r])) b = some (true, .row (Qg.c y)) := by rw [Heap.put_ne _ _ _ bb1.symm]; exact q2 _ _ eb
  have or_ : Own (H2.put b1 (.row [slv r])) 1 r _ := q1.put_off hr1
  have o2 : Own (H2.put b1 (.row [slv r])) 1 t2 _ := (w2.le q2).put_off fun p hp => (d2 p hp).1
  have hD := Qn (g := .row [slv r]) hH2 n1
  generalize H2.put b1 (.row [slv r]) = H3 at *
  refine fL g3 (t := t2) rfl (fI gb (t := y.Right) rfl ?_)
  refine grow o2 lr fun r2 H4 q4 q5 q6 => ?_
  have e1 := Heap.off_some g1 fun p hp => (d2 p hp).1
  have e3 := Heap.off_some g3 fun p hp => (d2 p hp).2
  have w1 := QkJ or_ fun p q hp hq => (hr2 q p hq hp).symm
  have hs1 := Qdz q6 e1
  have hs3 := Qdz q6 e3
  have hsr : ∀ p q, r.p = some p → r2.p = some q → p.1 ≠ q.1 := fun p q hp hq => by obtain ⟨g, hg⟩ := w1.mine hp; exact (Qdz q6 hg q hq).symm
  have hH4 := (Heap.le_off hD f2).trans q5
  have hsf : Fresh H r2 := q6.le (Heap.le_off hD f2)
  refine stI (q5 _ _ e3) ?_
  rw [Qq (by omega) (by omega)]
  refine ⟨⟨i + 1, by omega, by omega, r, r2, Qn hH4 n3', by rw [Heap.put_ne _ _ _ ne.symm]; exact q5 _ _ e1, Heap.put_same .., ?_, ?_, hrf, hsf, fun p hp => ⟨hr1 p hp, hr3 p hp⟩, fun p hp => ⟨hs1 p hp, hs3 p hp⟩, hsr⟩, by first | omega | (dsimp only; omega)⟩
  ·rw [List.take_add_one, List.getElem?_eq_getElem hlt, List.map_append]
   have := (w1.le q5).put_off (g := .row [slv r2]) hr3
   rw [hy.1] at this
   exact this
  ·rw [List.take_add_one, List.getElem?_eq_getElem hlt, List.map_append]
   have := q4.put_off (g := .row [slv r2]) hs3
   rw [hy.2] at this
   exact this
 ·have hie : i = on.length := by have := of_decide_eq_false hc; omega
  subst hie
  rw [List.take_length] at o1 o2
  have i1 : IL D t1 (on.map fun p => p.1) := IL.of o1.rdsl (by have := o1.1; rw [Qko] at this; omega) (by simp; omega)
  have i2 : IL D t2 (on.map fun p => p.2) := IL.of o2.rdsl (by have := o2.1; rw [Qko] at this; omega) (by simp; omega)
  have hk := k (⟨t1⟩ : Qc) (⟨t2⟩ : Qc) D hD i1 i2
  have v1 : ∀ {K : Qc → Prop}, K (⟨t1⟩ : Qc) → ldT D Qc.c (b1, 0) K := fun h => bxT c1 h
  have v3 : ∀ {K : Qc → Prop}, K (⟨t2⟩ : Qc) → ldT D Qc.c (b3, 0) K := fun h => bxT c3 h
  have s1 : ∀ {K : Heap → Prop}, K D → stT (b1, 0) (Qc.c (⟨t1⟩ : Qc)) K D := fun h => Qif c1 h
  have s3 : ∀ {K : Heap → Prop}, K D → stT (b3, 0) (Qc.c (⟨t2⟩ : Qc)) K D := fun h => Qif c3 h
  have lr := Heap.le.refl D
  refine ⟨D, lr, v1 ⟨lr, v3 ⟨lr, s1 ⟨lr, s3 (v1 (v3 hk))⟩⟩, s1 ⟨lr, v3 ⟨lr, s3 (v1 (v3 hk))⟩⟩⟩, v3 ⟨lr, v1 ⟨lr, s1 ⟨lr, s3 (v1 (v3 hk))⟩⟩⟩⟩
end
end
section
open Go Go.Proofs
def encS (x : Sl) : Value := slv x
def byK (ps : List Int) (k : Str) (es : List En) : List En := es.filter fun e => keyE ps e.1 == some k
theorem Qh9 (ps : List Int) (k : Str) (es : List En) (e : En) : byK ps k (es ++ [e]) = byK ps k es ++ if keyE ps e.1 == some k then [e] else [] := by
 unfold byK; rw [List.filter_append]; simp [List.filter_cons]
/-- entries by their keys, as they come to be -/
structure ByW (A H D : Heap) (mb : Nat) (ps : List Int) (es : List En) : Prop where
 le : H.le D
 nb : H mb = none
 ex : ∃ l : List (Str × Sl), MapIs encS D mb l ∧
  (∀ k s, lkL k l = some s → ∃ ys : List Qa, Own D 2 s (ys.flatMap Qa.c) ∧ Fresh H s ∧ ys.length = (byK ps k es).length ∧ ∀ (j : Nat) (e : En) (y : Qa), (byK ps k es)[j]? = some e → ys[j]? = some y → EnIs A e y) ∧
  (∀ k, lkL k l = none → byK ps k es = []) ∧
  ∀ k s k' s', lkL k l = some s → lkL k' l = some s' → k ≠ k' → ∀ p q, s.p = some p → s'.p = some q → p.1 ≠ q.1
theorem ByW.step {A H D : Heap} {mb : Nat} {ps : List Int} {es : List En} {e : En} {y : Qa} {key : Str} {K : Heap → Prop} (h : ByW A H D mb ps es) (hy : EnIs A e y) (hk : keyE ps e.1 = some key) (hn : es.length ≤ 1000000)
 (k : ∀ D2, ByW A H D2 mb ps (es ++ [e]) → K D2) :
 lkM encS Sl.nil (some mb) key (fun x31 is32 => apd (Qa.c Qa.zero) 32 x31 (Qa.c y ++ []) 1 (fun r36 H37 => upM encS (some mb) key r36 K H37) D) D := by
 obtain ⟨l, hM, h1, h2, h3⟩ := h.ex
 have hfl : ∀ k, (byK ps k es).length ≤ es.length := fun k => List.length_filter_le ..
 have hne : (keyE ps e.1 == some key) = true := by rw [hk]; simp
 have hne2 : ∀ k2, k2 ≠ key → (keyE ps e.1 == some k2) = false := fun k2 hk2 => by
  rw [hk]
  cases hb : (some key == some k2) with
  | false => rfl
  | true => exact absurd (by simpa using hb : key = k2).symm hk2
 obtain ⟨⟨me, ck, hmb, hme⟩, hnd⟩ := hM
 have hM : MapIs encS D mb l := ⟨⟨me, ck, hmb, hme⟩, hnd⟩
 -- what is common to both ways
 have main : ∀ (s : Sl) (ys : List Qa), Own D 2 s (ys.flatMap Qa.c) → Fresh H s → ys.length = (byK ps key es).length → (∀ (j : Nat) (e : En) (y : Qa), (byK ps key es)[j]? = some e → ys[j]? = some y → EnIs A e y) →
  (∀ k2 s2, lkL k2 l = some s2 → k2 ≠ key → ∀ p q, s.p = some p → s2.p = some q → p.1 ≠ q.1) →
  apd (Qa.c Qa.zero) 32 s (Qa.c y ++ []) 1 (fun r36 H37 => upM encS (some mb) key r36 K H37) D := fun s ys o f hl hr hd => by
  have hsl : s.len = ys.length := by have := o.1; rw [QO] at this; omega
  have hb := hfl key
  refine Qb5 (zc := Qa.c Qa.zero) (cs := ys.flatMap Qa.c) o.off rfl (by omega) (by omega) fun r D2 q1 q2 => ?_
  have eM := Heap.off_some hmb fun p hp => Qo9 o hmb p hp
  have gM := q1.le _ _ eM
  have hM2 : MapIs encS D2 mb l := ⟨⟨me, ck, gM, hme⟩, hnd⟩
  have hrm := Qdz q1.fresh eM
  have hHo := Heap.le_off h.le f
  have hH2 := hHo.trans q1.le
  refine ⟨mb, l, rfl, hM2, fun g l2 m2 m3 _ => k _ ⟨Qn hH2 h.nb, h.nb, l2, m2, fun k2 s2 hk2 => ?_, fun k2 hk2 => ?_, fun k2 s2 k3 s3 hk2 hk3 hne' p q hp hq => ?_⟩⟩
  ·rw [m3] at hk2
   by_cases hkk : k2 = key
   ·rw [if_pos hkk] at hk2
    injection hk2 with hk2; subst hk2; subst hkk
    rw [Qh9, hne, if_pos rfl]
    refine ⟨ys ++ [y], ?_, q1.fresh.le hHo, by simp [hl], fun j e' y' he hy' => ?_⟩
    ·rw [List.flatMap_append]
     exact q1.own.put_off hrm
    ·by_cases hj : j < ys.length
     ·rw [List.getElem?_append_left hj] at hy'
      rw [List.getElem?_append_left (by omega)] at he
      exact hr j e' y' he hy'
     ·have hjl := (List.getElem?_eq_some_iff.1 hy').1
      rw [List.length_append, List.length_singleton] at hjl
      have hje : j = ys.length := by omega
      subst hje
      rw [List.getElem?_append_right (Nat.le_refl _), Nat.sub_self] at hy'
      rw [List.getElem?_append_right (by omega), hl, Nat.sub_self] at he
      simp only [List.getElem?_cons_zero, Option.some.injEq] at hy' he
      subst hy'; subst he; exact hy
   ·rw [if_neg hkk] at hk2
    obtain ⟨zs, z1, z2, z3, z4⟩ := h1 k2 s2 hk2
    rw [Qh9, hne2 k2 hkk]
    simp only [Bool.false_eq_true, if_false, List.append_nil]
    exact ⟨zs, ((QkJ z1 (hd k2 s2 hk2 hkk)).le q1.le).put_off fun p hp => Qo9 z1 hmb p hp, z2, z3, z4⟩
  ·rw [m3] at hk2
   by_cases hkk : k2 = key
   ·rw [if_pos hkk] at hk2; cases hk2
   ·rw [if_neg hkk] at hk2
    rw [Qh9, hne2 k2 hkk, h2 k2 hk2]; rfl
  ·rw [m3] at hk2 hk3
   have dr : ∀ k4 s4, lkL k4 l = some s4 → k4 ≠ key → ∀ p q, r.p = some p → s4.p = some q → p.1 ≠ q.1 := fun k4 s4 hk4 hkk p q hp hq => by
    obtain ⟨zs, z1, _⟩ := h1 k4 s4 hk4
    obtain ⟨g, hg⟩ := (QkJ z1 (hd k4 s4 hk4 hkk)).mine hq
    exact Qdz q1.fresh hg p hp
   by_cases e2 : k2 = key
   ·rw [if_pos e2] at hk2
    injection hk2 with hk2; subst hk2
    rw [if_neg fun e3 => hne' (e2.trans e3.symm)] at hk3
    exact dr k3 s3 hk3 (fun e3 => hne' (e2.trans e3.symm)) p q hp hq
   ·rw [if_neg e2] at hk2
    by_cases e3 : k3 = key
    ·rw [if_pos e3] at hk3
     injection hk3 with hk3; subst hk3
     exact (dr k2 s2 hk2 e2 q p hq hp).symm
    ·rw [if_neg e3] at hk3
     exact h3 k2 s2 k3 s3 hk2 hk3 hne' p q hp hq
 refine hM.lk (fun x hx => ?_) (fun hx => ?_)
 ·obtain ⟨ys, o, f, hl, hr⟩ := h1 key x hx
  exact main x ys o f hl hr fun k2 s2 hk2 hkk p q hp hq => (h3 k2 s2 key x hk2 hx hkk q p hq hp).symm
 ·have h0 := h2 key hx
  exact main Sl.nil [] (Own.nil _ 2) (Fresh.nil _) (by rw [h0]; rfl) (fun j e y he hy => by simp at hy) fun k2 s2 _ _ p q hp => by cases hp
/-- entries by their keys -/
def ByI (D : Heap) (q : Option Nat) (ps : List Int) (es : List En) : Prop := ∃ mb l, q = some mb ∧ MapIs encS D mb l ∧ (∀ k s, lkL k l = some s → EnL D s (byK ps k es)) ∧ ∀ k, lkL k l = none → byK ps k es = []
theorem ByI.lk {D E : Heap} {q : Option Nat} {ps : List Int} {es : List En} {key : Str} {K : Sl → Bool → Prop} (h : ByI E q ps es) (hle : E.le D) (k : ∀ s b, EnL E s (byK ps key es) → K s b) : lkM encS Sl.nil q key K D := by
 obtain ⟨mb, l, rfl, h2, h3, h4⟩ := h
 refine (h2.le hle).lk (fun x hx => k x true (h3 key x hx)) (fun hx => k Sl.nil false ?_)
 rw [h4 key hx]; exact EnL.nil
section
variable {C : Ctx} {H A : Heap}
theorem Qp4 (hF : FmtC C) {ps : List Int} {x : Qc} {es : List En} {s : Sl} {K : Option Nat → Heap → Prop} (hp : IL A x.places_ ps) (hs : EnL A s es) (hA : A.le H) (hn : es.length ≤ 1000000) (hm : ∀ e ∈ es, mayR e.1 = true ∧ vsizes e.1 ≤ 1000) (hpn : ps.length ≤ 1000)
 (k : ∀ q D, H.le D → ByI D q ps es → K q D) : Qb8 C x s K H := by
 apply Qh1
 unfold QeK
 intro b1 n1 b3 n3
 have ne : b3 ≠ b1 := fun e => by rw [e, Heap.put_same] at n3; cases n3
 have n3' : H b3 = none := by rw [Heap.put_ne _ _ _ ne] at n3; exact n3
 have l1 := Heap.le_put n1 (g := .row (Qc.c x)) (m := true)
 have l3 := Heap.le_put n3 (g := .obj (.map #[] 0)) (m := true)
 have c1 : ((H.put b1 (.row (Qc.c x))).put b3 (.obj (.map #[] 0))) b1 = some (true, .row (Qc.c x)) := by rw [Heap.put_ne _ _ _ ne.symm, Heap.put_same]
 refine ⟨fun y D => ∃ i : Nat, y = (i : Int) ∧ i ≤ es.length ∧ ByW A H D b3 ps (es.take i) ∧ ∃ E, H.le E ∧ E b3 = none ∧ E b1 = some (true, .row (Qc.c x)) ∧ ByW A E D b3 ps (es.take i), fun y _ => es.length - y.toNat, ?_, ?_⟩
 ·have h0 : ∀ {H0 : Heap}, H0 b3 = none → H0.le ((H.put b1 (.row (Qc.c x))).put b3 (.obj (.map #[] 0))) → ByW A H0 ((H.put b1 (.row (Qc.c x))).put b3 (.obj (.map #[] 0))) b3 ps (es.take 0) := fun h1 h2 =>
   ⟨h2, h1, [], MapIs.new, fun k s hk => by simp [lkL] at hk, fun k _ => rfl, fun k s k' s' hk => by simp [lkL] at hk⟩
  exact ⟨0, rfl, Nat.zero_le _, h0 n3' (l1.trans l3), H.put b1 (.row (Qc.c x)), l1, n3, Heap.put_same .., h0 n3 l3⟩
 rintro _ D ⟨i, rfl, hi, _, E, hE, hE3, hE1, hW⟩
 have hED := hW.le
 have hAD := hA.trans (hE.trans hED)
 rw [hs.len]
 refine ift.of (fun hc => ?_) (fun hc => ?_)
 ·have hlt : i < es.length := by have := of_decide_eq_true hc; omega
  have hmem := List.getElem_mem hlt
  have htk : es.take (i + 1) = es.take i ++ [es[i]] := by rw [List.take_add_one, List.getElem?_eq_getElem hlt]; rfl
  refine ⟨fun _ D2 => ByW A E D2 b3 ps (es.take (i + 1)), ?_, ?_⟩
  ·refine SlIs.ld hs hAD (z := 2) (fun _ => rfl) (by omega) rfl hlt fun y hy => ?_
   intro b nb
   refine nwT rfl ?_
   have lb := Heap.le_put nb (g := .row (Qa.c y)) (m := true)
   have cb : (D.put b (.row (Qa.c y))) b = some (true, .row (Qa.c y)) := Heap.put_same ..
   have c1 := lb _ _ (hED _ _ hE1)
   have hW2 : ByW A E (D.put b (.row (Qa.c y))) b3 ps (es.take i) := by
    obtain ⟨l, m1, m2, m3, m4⟩ := hW.ex
    exact ⟨hED.trans lb, hW.nb, l, m1.le lb, fun k s hk => by obtain ⟨ys, z1, z2, z3, z4⟩ := m2 k s hk; exact ⟨ys, z1.le lb, z2, z3, z4⟩, m3, m4⟩
   have hAD := hAD.trans lb
   generalize D.put b (.row (Qa.c y)) = D1 at *
   refine bxT (c := Qc.c) c1 (fL cb (t := y.Row) rfl ?_)
   have hup : ∀ {H2 : Heap}, D1.le H2 → ByW A E H2 b3 ps (es.take i) := fun l2 => by
    obtain ⟨l, m1, m2, m3, m4⟩ := hW2.ex
    exact ⟨hW2.le.trans l2, hW2.nb, l, m1.le l2, fun k s hk => by obtain ⟨ys, z1, z2, z3, z4⟩ := m2 k s hk; exact ⟨ys, z1.le l2, z2, z3, z4⟩, m3, m4⟩
   refine Qmo hF hp hy.1 hAD hy.2.1 (hm _ hmem).1 (hm _ hmem).2 (by omega) (fun key hk H2 l2 => ?_) (fun hk H2 l2 => ?_)
   ·refine QA rfl ?_
    have hk2 := (hup l2).step hy hk (by simp; omega) (K := fun D2 => ByW A E D2 b3 ps (es.take (i + 1))) fun D2 h2 => by rw [htk]; exact h2
    obtain ⟨x0, b0, q1, q2⟩ := hk2
    refine ⟨x0, b0, q1, ?_⟩
    exact bxT (c := Qa.c) (l2 _ _ cb) q2
   ·refine Qt rfl ?_
    have hW3 := hup l2
    rw [htk]
    obtain ⟨l, m1, m2, m3, m4⟩ := hW3.ex
    have hsn : ∀ k, byK ps k (es.take i ++ [es[i]]) = byK ps k (es.take i) := fun k => by rw [Qh9, hk]; simp
    exact ⟨hW3.le, hW3.nb, l, m1, fun k s hk => by rw [hsn]; exact m2 k s hk, fun k hk => by rw [hsn]; exact m3 k hk, m4⟩
  ·rintro _ D2 hW2
   rw [Qq (by omega) (by omega)]
   refine ⟨⟨i + 1, by omega, by omega, ?_, E, hE, hE3, hE1, hW2⟩, by first | omega | (dsimp only; omega)⟩
   obtain ⟨l, m1, m2, m3, m4⟩ := hW2.ex
   exact ⟨hE.trans hW2.le, n3', l, m1, fun k s hk => by obtain ⟨ys, z1, z2, z3, z4⟩ := m2 k s hk; exact ⟨ys, z1, z2.le hE, z3, z4⟩, m3, m4⟩
 ·have hie : i = es.length := by have := of_decide_eq_false hc; omega
  subst hie
  rw [List.take_length] at hW
  obtain ⟨l, m1, m2, m3, m4⟩ := hW.ex
  refine k (some b3) D (hE.trans hED) ⟨b3, l, rfl, m1, fun key s hk => ?_, m3⟩
  obtain ⟨ys, z1, z2, z3, z4⟩ := m2 key s hk
  have hlen : (byK ps key es).length ≤ es.length := List.length_filter_le ..
  exact ⟨ys, z1.rdsl, by have := z1.1; rw [QO] at this; omega, z3.symm, by omega, fun j e y he hy => (z4 j e y he hy).le hAD⟩
end
end
section
open Go Go.Proofs
/-- a list of entries that grows; rows may lie anywhere but in it -/
structure EnW (H B : Heap) (es : List En) (s : Sl) (ys : List Qa) : Prop where
 own : OwnF H B 2 s (ys.flatMap Qa.c)
 len : ys.length = es.length
 done : ∀ (j : Nat) (e : En) (y : Qa), es[j]? = some e → ys[j]? = some y → EnIs (B.off s) e y
theorem EnW.nil {H : Heap} : EnW H H [] Sl.nil [] := ⟨OwnF.nil H 2, rfl, fun j e y he => by simp at he⟩
theorem EnW.slen {H B : Heap} {es : List En} {s : Sl} {ys : List Qa} (h : EnW H B es s ys) : s.len = es.length := by have := h.own.own.1; rw [QO] at this; have := h.len; omega
theorem QhL {B B' : Heap} {s : Sl} (h : B.le B') : (B.off s).le (B'.off s) := Heap.le_off ((Heap.off_le s B).trans h) (Heap.off_fresh s B)
theorem EnW.up {H B B' : Heap} {es : List En} {s : Sl} {ys : List Qa} (h : EnW H B es s ys) (hle : B.le B') : EnW H B' es s ys := ⟨h.own.up hle, h.len, fun j e y he hy => (h.done j e y he hy).le (QhL hle)⟩
theorem EnW.base {H B : Heap} {es : List En} {s : Sl} {ys : List Qa} (h : EnW H B es s ys) : EnW (B.off s) B es s ys := ⟨h.own.own.off, h.len, h.done⟩
theorem EnW.down {H0 H B : Heap} {es : List En} {s : Sl} {ys : List Qa} (h : EnW H B es s ys) (hle : H0.le H) : EnW H0 B es s ys := ⟨h.own.down hle, h.len, h.done⟩
theorem EnW.en {H B : Heap} {es : List En} {s : Sl} {ys : List Qa} (h : EnW H B es s ys) (hn : es.length ≤ 140737488355328) : EnL B s es :=
 ⟨ys, h.own.own.rdsl, by rw [h.slen, h.len], h.len.symm, hn, fun j e y he hy => (h.done j e y he hy).le (Heap.off_le s B)⟩
theorem EnW.step {H B B' : Heap} {es : List En} {s : Sl} {ys : List Qa} {e : En} {y : Qa} {K : Sl → Heap → Prop} (h : EnW H B es s ys) (hle : B.le B') (hy : EnIs (B'.off s) e y) (hn : es.length ≤ 1000000)
 (k : ∀ r B2, EnW H B2 (es ++ [e]) r (ys ++ [y]) → K r B2) : apd (Qa.c Qa.zero) 32 s (Qa.c y ++ []) 1 K B' := by
 have h := h.up hle
 have hsl := h.slen
 refine Qb5 (zc := Qa.c Qa.zero) (cs := ys.flatMap Qa.c) h.own.own.off rfl (by omega) (by omega) fun r B2 q1 q2 => k r B2 ?_
 have hup : (B'.off s).le (B2.off r) := Heap.le_off q1.le q1.fresh
 have hHo := Heap.le_off h.own.le h.own.fresh
 refine ⟨?_, by simp [h.len], fun j e' y' he hy' => ?_⟩
 ·rw [List.flatMap_append]
  exact q1.down hHo
 ·by_cases hj : j < ys.length
  ·rw [List.getElem?_append_left hj] at hy'
   rw [List.getElem?_append_left (by rw [← h.len]; exact hj)] at he
   exact (h.done j e' y' he hy').le hup
  ·have hjl := (List.getElem?_eq_some_iff.1 hy').1
   rw [List.length_append, List.length_singleton] at hjl
   have hje : j = ys.length := by omega
   subst hje
   rw [List.getElem?_append_right (Nat.le_refl _), Nat.sub_self] at hy'
   rw [List.getElem?_append_right (by rw [h.len]; exact Nat.le_refl _), h.len, Nat.sub_self] at he
   simp only [List.getElem?_cons_zero, Option.some.injEq] at hy' he
   subst hy'; subst he; exact hy.le hup
/-- a list of entries that grows; rows are read in R -/
structure EnX (R H B : Heap) (es : List En) (s : Sl) (ys : List Qa) : Prop where
 own : OwnF H B 2 s (ys.flatMap Qa.c)
 len : ys.length = es.length
 done : ∀ (j : Nat) (e : En) (y : Qa), es[j]? = some e → ys[j]? = some y → EnIs R e y
theorem EnX.nil {R H : Heap} : EnX R H H [] Sl.nil [] := ⟨OwnF.nil H 2, rfl, fun j e y he => by simp at he⟩
theorem EnX.slen {R H B : Heap} {es : List En} {s : Sl} {ys : List Qa} (h : EnX R H B es s ys) : s.len = es.length := by have := h.own.own.1; rw [QO] at this; have := h.len; omega
theorem EnX.up {R H B B' : Heap} {es : List En} {s : Sl} {ys : List Qa} (h : EnX R H B es s ys) (hle : B.le B') : EnX R H B' es s ys := ⟨h.own.up hle, h.len, h.done⟩
theorem EnX.down {R H0 H B : Heap} {es : List En} {s : Sl} {ys : List Qa} (h : EnX R H B es s ys) (hle : H0.le H) : EnX R H0 B es s ys := ⟨h.own.down hle, h.len, h.done⟩
theorem EnX.sl {R H B : Heap} {es : List En} {s : Sl} {ys : List Qa} (h : EnX R H B es s ys) (hn : es.length ≤ 140737488355328) : SlIs (EnIs R) Qa.c B s es :=
 ⟨ys, h.own.own.rdsl, by rw [h.slen, h.len], h.len.symm, hn, h.done⟩
theorem EnX.step {R H B B' : Heap} {es : List En} {s : Sl} {ys : List Qa} {e : En} {y : Qa} {K : Sl → Heap → Prop} (h : EnX R H B es s ys) (hle : B.le B') (hy : EnIs R e y) (hn : es.length ≤ 1000000)
 (k : ∀ r B2, EnX R H B2 (es ++ [e]) r (ys ++ [y]) → (B'.off s).le B2 → K r B2) : apd (Qa.c Qa.zero) 32 s (Qa.c y ++ []) 1 K B' := by
 have h := h.up hle
 have hsl := h.slen
 refine Qb5 (zc := Qa.c Qa.zero) (cs := ys.flatMap Qa.c) h.own.own.off rfl (by omega) (by omega) fun r B2 q1 q2 => k r B2 ?_ q1.le
 have hHo := Heap.le_off h.own.le h.own.fresh
 refine ⟨?_, by simp [h.len], fun j e' y' he hy' => ?_⟩
 ·rw [List.flatMap_append]
  exact q1.down hHo
 ·by_cases hj : j < ys.length
  ·rw [List.getElem?_append_left hj] at hy'
   rw [List.getElem?_append_left (by rw [← h.len]; exact hj)] at he
   exact h.done j e' y' he hy'
  ·have hjl := (List.getElem?_eq_some_iff.1 hy').1
   rw [List.length_append, List.length_singleton] at hjl
   have hje : j = ys.length := by omega
   subst hje
   rw [List.getElem?_append_right (Nat.le_refl _), Nat.sub_self] at hy'
   rw [List.getElem?_append_right (by rw [h.len]; exact Nat.le_refl _), h.len, Nat.sub_self] at he
   simp only [List.getElem?_cons_zero, Option.some.injEq] at hy' he
   subst hy'; subst he; exact hy
theorem QmT {D : Heap} {s : Sl} {b : Nat} {g : GO} (h : ∀ p, s.p = some p → p.1 ≠ b) : (D.put b g).off s = (D.off s).put b g := by
 funext x
 unfold Heap.off
 by_cases hx : x = b
 ·subst hx
  rw [if_neg fun e => by obtain ⟨p, hp, e2⟩ := Option.map_eq_some_iff.1 e; exact h p hp e2, Heap.put_same, Heap.put_same]
 ·rw [Heap.put_ne _ _ _ hx, Heap.put_ne _ _ _ hx]
theorem Qfo {A : Heap} : ∀ {l m : List V} {xs ys : List TV}, VsAre A l xs → VsAre A m ys → VsAre A (l ++ m) (xs ++ ys)
 | [], m, [], ys, _, h2 => h2
 | v :: l, m, x :: xs, ys, h1, h2 => ⟨h1.1, Qfo h1.2 h2⟩
 | [], m, x :: xs, ys, h1, _ => h1.elim
 | v :: l, m, [], ys, h1, _ => h1.elim
theorem Qod (xs : List TV) : ∀ u ∈ xs.flatMap Qb.c, u.oneCell' = true := by
 intro u hu
 obtain ⟨x, _, hx⟩ := List.mem_flatMap.1 hu
 simp only [Qb.c, List.mem_cons, List.not_mem_nil, or_false] at hx
 rcases hx with rfl | rfl | rfl | rfl <;> rfl
/-- a row and another one behind it, in memory of their own (or the first one, if nothing comes) -/
theorem Qp5 {G D : Heap} {s t : Sl} {l m : List V} {K : Sl → Heap → Prop} (hs : VRow G s l) (ht : VRow G t m) (hc : s.len ≤ s.cap) (hG : G.le D) (hn : l.length + m.length ≤ 1000000)
 (k0 : m = [] → ∀ r, VRow G r l → K r D)
 (k1 : ∀ b g r, D b = none → VRow (G.put b g) r (l ++ m) → K r (D.put b g)) :
 slL s 0 (Sl.len s : Int) (Sl.len s : Int) 4 fun t65 => apS (Qb.c Qb.zero) 56 t65 t K D := by
 obtain ⟨xs, x1, x2, x3⟩ := hs
 obtain ⟨ys, y1, y2, y3⟩ := ht
 have xl := x3.len
 have yl := y3.len
 have hx4 := flat4 xs
 have hy4 := flat4 ys
 refine ⟨Int.le_refl _, by omega, Int.le_refl _, by omega, _, rfl, ?_⟩
 have hp : (if (s.len : Int) = 0 then s.p else s.p.map fun p => (p.1, p.2 + (0 : Int).toNat * 4)) = s.p := by
  split
  ·rfl
  ·cases s.p <;> rfl
 rw [hp, if_pos (.inr rfl)]
 have hl13 : ((s.len : Int) - 0).toNat = xs.length := by omega
 rw [hl13]
 have r1 : ∀ {E : Heap}, G.le E → rdsl E (⟨s.p, xs.length, xs.length, s.x⟩ : Sl) (xs.flatMap Qb.c) := fun hE => (QbR hE x1).imp id fun h => h
 refine ⟨ys.flatMap Qb.c, QbR hG y1, Qod ys, xs.flatMap Qb.c, r1 hG, by rw [hx4]; rfl, by rw [hy4, y2]; rfl, by dsimp only; omega, by dsimp only; omega, fun h => .inl ⟨?_, ?_⟩, fun h b cap nb hcap => ?_⟩
 ·have : ys.length = 0 := by dsimp only at h; omega
  rw [List.length_eq_zero_iff.1 this]; rfl
 ·have h0 : t.len = 0 := by dsimp only at h; omega
  have hm : m = [] := List.length_eq_zero_iff.1 (by omega)
  refine k0 hm _ ⟨xs, ?_, by dsimp only; omega, x3⟩
  have := r1 (Heap.le.refl G)
  dsimp only
  rw [h0]
  exact this
 ·have nG := hG.none nb
  have lG := Heap.le_put nG (g := .row (xs.flatMap Qb.c ++ ys.flatMap Qb.c ++ zeros (Qb.c Qb.zero) (cap - (xs.length + t.len)))) (m := true)
  refine k1 b _ _ nb ⟨xs ++ ys, .inr ⟨rfl, _, rfl, Qaf (Heap.put_same ..) fun j v hj => ?_⟩, by show xs.length + t.len = _; rw [List.length_append]; omega, Qfo (x3.le lG) (y3.le lG)⟩
  rw [Nat.zero_add, ← List.flatMap_append]
  exact (List.getElem?_append_left (List.getElem?_eq_some_iff.1 hj).1).trans hj
/-- entries whose rows have room as they tell -/
def EnIsC (A : Heap) (v : En) (x : Qa) : Prop := EnIs A v x ∧ x.Row.len ≤ x.Row.cap
abbrev EnC (A : Heap) := SlIs (EnIsC A) Qa.c A
theorem EnC.le {A B : Heap} {s : Sl} {l : List En} (h : EnC A s l) (hle : A.le B) : EnC B s l := SlIs.le hle h fun _ _ _ h => ⟨h.1.le hle, h.2⟩
theorem EnC.en {A : Heap} {s : Sl} {l : List En} (h : EnC A s l) : EnL A s l := SlIs.le (Heap.le.refl A) h fun _ _ _ h => h.1
theorem EnC.nil {H : Heap} : EnC H Sl.nil [] := ⟨[], .inl rfl, rfl, rfl, by simp, fun i v x hv => by simp at hv⟩
theorem OgE.enC {H B : Heap} {es : List En} {s : Sl} {ys : List Qa} (h : OgE H B es s ys) (hb : ∀ e ∈ es, okE e) (hn : es.length ≤ 140737488355328) : EnC B s es := by
 have hl := h.len
 have h1 := h.own.own.1
 rw [QO] at h1
 refine ⟨ys, h.own.own.rdsl, by omega, hl.symm, hn, fun j e y he hy => ?_⟩
 obtain ⟨m1, m2⟩ := h.done j e y he hy
 have hok := hb e (List.mem_of_getElem? he)
 exact ⟨⟨m1.row2.le (Heap.off_le s B), hok.1, hok.2.1, m2, hok.2.2⟩, m1.cp⟩
section
variable {C : Ctx} {H A : Heap}
theorem takeS {α : Type} {l : List α} {i : Nat} (h : i < l.length) : l.take (i + 1) = l.take i ++ [l[i]] := by rw [List.take_add_one, List.getElem?_eq_getElem h]; rfl
theorem QhH {a b : List V} (ha : VBs a) (hb : VBs b) : VBs (a ++ b) := by
 induction a with
 | nil => exact hb
 | cons v a ih => exact ⟨ha.1, ih ha.2⟩
theorem Qow {R : Heap} {s : Sl} {es : List En} {K : Sl → Heap → Prop} (hs : SlIs (EnIs R) Qa.c A s es) (hA : A.le H) (hn : es.length ≤ 1000000) (hN : ∀ e ∈ es, -2147483647 ≤ e.2 ∧ e.2 ≤ 2147483647)
 (k : ∀ r ys D, EnX R H D (negL es) r ys → K r D) : QeY C s K H := by
 apply Qj0
 unfold Qg1
 refine ⟨fun x D => ∃ (i : Nat) (ys : List Qa), x.2 = (i : Int) ∧ i ≤ es.length ∧ EnX R H D (negL (es.take i)) x.1 ys, fun x _ => es.length - x.2.toNat, ⟨0, [], rfl, Nat.zero_le _, EnX.nil⟩, ?_⟩
 rintro ⟨r, _⟩ D ⟨i, ys, rfl, hi, hg⟩
 have hAD := hA.trans hg.own.le
 rw [hs.len]
 refine ift.of (fun hc => ?_) (fun hc => ?_)
 ·have hlt : i < es.length := by have := of_decide_eq_true hc; dsimp only at this; omega
  refine SlIs.ld hs hAD (z := 2) (fun _ => rfl) (by omega) rfl hlt fun y hy => ?_
  intro b nb
  refine nwT rfl ?_
  have lb := Heap.le_put nb (g := .row (Qa.c y)) (m := true)
  have cb : (D.put b (.row (Qa.c y))) b = some (true, .row (Qa.c y)) := Heap.put_same ..
  refine fL cb (t := y.Row) rfl (fI cb (t := y.N) rfl ?_)
  have hb := hN _ (List.getElem_mem hlt)
  have hyN := hy.2.2.2.1
  refine hg.step (e := (es[i].1, -es[i].2)) (y := (⟨y.Row, w .i64 (0 - y.N)⟩ : Qa)) lb ⟨hy.1, hy.2.1, hy.2.2.1, ?_, by dsimp only; omega, by dsimp only; omega⟩ (by simp [negL]; omega) fun r2 B2 hg2 _ => ?_
  ·show w .i64 (0 - y.N) = -es[i].2
   rw [hyN, Qq (by omega) (by omega)]; omega
  ·rw [Qq (by dsimp only; omega) (by dsimp only; omega)]
   refine ⟨⟨i + 1, ys ++ [(⟨y.Row, w .i64 (0 - y.N)⟩ : Qa)], by dsimp only; omega, by omega, ?_⟩, by first | omega | (dsimp only; omega)⟩
   rw [takeS hlt]
   unfold negL at hg2 ⊢
   rw [List.map_append]
   exact hg2
 ·have hie : i = es.length := by have := of_decide_eq_false hc; dsimp only at this; omega
  subst hie
  rw [List.take_length] at hg
  exact k r ys D hg
theorem QkB (hF : FmtC C) {R : Heap} {on : List Pr} {sa sb sn : Sl} {a b : List En} {K : Sl → Heap → Prop} (ha : SlIs (EnIs R) Qa.c A sa a) (hR : R.le H) (hb : EnL A sb b) (hp : PrL A sn on) (hA : A.le H) (hn : a.length ≤ 1000000) (hnb : b.length ≤ 1000000) (hon : on.length ≤ 1000)
 (hma : ∀ e ∈ a, mayR e.1 = true ∧ vsizes e.1 ≤ 1000) (hmb : ∀ e ∈ b, mayR e.1 = true ∧ vsizes e.1 ≤ 1000)
 (k : ∀ r ys D, EnX R H D (noneE on a b) r ys → K r D) : QbS C sa sb sn K H := by
 apply Qj1
 unfold Qg2
 refine QmN hp hA hon fun x y D hD hx hy => ?_
 intro b4 n4 b6 n6
 have ne : b6 ≠ b4 := fun e => by rw [e, Heap.put_same] at n6; cases n6
 have l4 := Heap.le_put n4 (g := .row (Qc.c Qc.zero)) (m := true)
 have l6 := Heap.le_put n6 (g := .row (Qc.c Qc.zero)) (m := true)
 have n6' : D b6 = none := by rw [Heap.put_ne _ _ _ ne] at n6; exact n6
 have st4 : ∀ {K : Heap → Prop}, K (((D.put b4 (.row (Qc.c x))).put b6 (.row (Qc.c Qc.zero)))) → stT (b4, 0) (Qc.c x) K ((D.put b4 (.row (Qc.c Qc.zero))).put b6 (.row (Qc.c Qc.zero))) := fun h => by
  refine ⟨Qc.c Qc.zero, by rw [Heap.put_ne _ _ _ ne.symm, Heap.put_same], by simp [Qc.c], ?_⟩
  have e : splice (Qc.c Qc.zero) (b4, 0).2 (Qc.c x) = Qc.c x := rfl
  rw [e, Heap.put_comm _ _ _ _ _ ne, Heap.put_put]
  exact h
 refine st4 (nwT rfl ?_)
 have lD : D.le ((D.put b4 (.row (Qc.c x))).put b6 (.row (Qc.c y))) := (Heap.le_put n4).trans (Heap.le_put (by rw [Heap.put_ne _ _ _ ne]; exact n6'))
 have c4 : ((D.put b4 (.row (Qc.c x))).put b6 (.row (Qc.c y))) b4 = some (true, .row (Qc.c x)) := by rw [Heap.put_ne _ _ _ ne.symm, Heap.put_same]
 have c6 : ((D.put b4 (.row (Qc.c x))).put b6 (.row (Qc.c y))) b6 = some (true, .row (Qc.c y)) := Heap.put_same ..
 generalize (D.put b4 (.row (Qc.c x))).put b6 (.row (Qc.c y)) = D2 at *
 have hAD := (hA.trans hD).trans lD
 refine bxT (c := Qc.c) c6 ?_
 refine Qp4 hF (hy.le lD) (hb.le hAD) (Heap.le.refl _) hnb hmb (by simp; omega) fun q E hE hI => ?_
 have hAE := hAD.trans hE
 have c4 := hE _ _ c4
 have hHE := (hD.trans lD).trans hE
 have hx := hx.le (lD.trans hE)
 refine ⟨fun z F => ∃ (i : Nat) (ys : List Qa), z.2 = (i : Int) ∧ i ≤ a.length ∧ EnX R E F (noneE on (a.take i) b) z.1 ys, fun z _ => a.length - z.2.toNat, ⟨0, [], rfl, Nat.zero_le _, EnX.nil⟩, ?_⟩
 rintro ⟨r, _⟩ F ⟨i, ys, rfl, hi, hg⟩
 have hEF := hg.own.le
 have hlen : (noneE on (a.take i) b).length ≤ 1000000 := Nat.le_trans (List.length_filter_le ..) (by simp; omega)
 rw [ha.len]
 refine ift.of (fun hc => ?_) (fun hc => ?_)
 ·have hlt : i < a.length := by have := of_decide_eq_true hc; dsimp only at this; omega
  have hmem := List.getElem_mem hlt
  have hsn : noneE on (a.take (i + 1)) b = noneE on (a.take i) b ++ (if b.any (fun y => fitB on a[i].1 y.1) then [] else [a[i]]) := by
   unfold noneE
   rw [takeS hlt, List.filter_append]
   cases hb2 : b.any fun y => fitB on a[i].1 y.1 <;> simp [List.filter_cons, hb2]
  refine ⟨fun z F2 => ∃ ys2 : List Qa, EnX R E F2 (noneE on (a.take (i + 1)) b) z ys2, ?_, ?_⟩
  ·refine SlIs.ld ha (hAE.trans hEF) (z := 2) (fun _ => rfl) (by omega) rfl hlt fun y2 hy2 => ?_
   intro b29 n29
   refine nwT rfl ?_
   have lb := Heap.le_put n29 (g := .row (Qa.c y2)) (m := true)
   have cb : (F.put b29 (.row (Qa.c y2))) b29 = some (true, .row (Qa.c y2)) := Heap.put_same ..
   have c4 := lb _ _ (hEF _ _ c4)
   have hgb := hg.up lb
   have hEF := hEF.trans lb
   generalize F.put b29 (.row (Qa.c y2)) = F1 at *
   refine bxT (c := Qc.c) c4 (fL cb (t := y2.Row) rfl ?_)
   have keep : ∀ {F2 : Heap}, F1.le F2 → (b.any fun y => fitB on a[i].1 y.1) = false → ldT F2 Qa.c (b29, 0) fun x48 => apd (Qa.c Qa.zero) 32 r ((Qa.c x48) ++ []) 1 (fun r50 H51 => ∃ ys2 : List Qa, EnX R E H51 (noneE on (a.take (i + 1)) b) r50 ys2) F2 := fun {F2} l2 hf => by
    refine bxT (l2 _ _ cb) ?_
    refine hgb.step (e := a[i]) (y := y2) l2 hy2 hlen fun r2 B2 h2 _ => ?_
    refine ⟨ys ++ [y2], ?_⟩
    rw [hsn, hf]
    exact h2
   have drop : ∀ {F2 : Heap}, F1.le F2 → (b.any fun y => fitB on a[i].1 y.1) = true → ∃ ys2 : List Qa, EnX R E F2 (noneE on (a.take (i + 1)) b) r ys2 := fun {F2} l2 hf => by
    refine ⟨ys, ?_⟩
    rw [hsn, hf]
    simp only [if_true, List.append_nil]
    exact hgb.up l2
   refine Qmo hF (hx.le hEF) (hy2.1.le (hR.trans (hHE.trans hEF))) (Heap.le.refl _) hy2.2.1 (hma _ hmem).1 (hma _ hmem).2 (by simp; omega) (fun key hk H2 l2 => ?_) (fun hk H2 l2 => ?_)
   ·have hfit : ∀ y ∈ b, fitB on a[i].1 y.1 = (keyE (on.map fun p => p.2) y.1 == some key) := fun y hy => Qnp (hma _ hmem).1 (hmb y hy).1 hk
    refine ⟨fun bb F3 => F3 = H2 ∧ bb = !(b.any fun y => fitB on a[i].1 y.1), Qt rfl ?_, ?_⟩
    ·refine hI.lk (hEF.trans l2) fun s3 b3 h3 => ⟨rfl, ?_⟩
     rw [h3.len]
     have hany : (b.any fun y => fitB on a[i].1 y.1) = (b.any fun y => keyE (on.map fun p => p.2) y.1 == some key) := by
      rw [Bool.eq_iff_iff, List.any_eq_true, List.any_eq_true]
      exact ⟨fun ⟨y, hy, h⟩ => ⟨y, hy, by rw [← hfit y hy]; exact h⟩, fun ⟨y, hy, h⟩ => ⟨y, hy, by rw [hfit y hy]; exact h⟩⟩
     rw [hany]
     unfold byK
     cases hz : b.any fun y => keyE (on.map fun p => p.2) y.1 == some key with
     | true =>
      obtain ⟨y, hy, h⟩ := List.any_eq_true.1 hz
      have : y ∈ b.filter (fun e : En => keyE (on.map fun p => p.2) e.1 == some key) := by rw [List.mem_filter]; exact ⟨hy, h⟩
      have := List.length_pos_of_mem this
      show ((List.length (b.filter fun e => keyE (on.map fun p => p.2) e.1 == some key) : Int) == 0) = false
      exact beq_eq_false_iff_ne.2 fun e => by omega
     | false =>
      have : (b.filter fun e => keyE (on.map fun p => p.2) e.1 == some key) = [] := List.filter_eq_nil_iff.2 fun y hy h => by
       have hz2 := hz
       rw [List.any_eq_false] at hz2
       exact hz2 y hy h
      rw [this]; rfl
    ·rintro bb F3 ⟨rfl, rfl⟩
     cases hz : b.any fun y => fitB on a[i].1 y.1 with
     | true => exact Qt rfl (drop l2 hz)
     | false => exact QA rfl (keep l2 hz)
   ·have hz : (b.any fun y => fitB on a[i].1 y.1) = false := by
     rw [List.any_eq_false]; intro y _; rw [Qml hk]; simp
    refine ⟨fun bb F3 => F3 = H2 ∧ bb = true, QA rfl ⟨rfl, rfl⟩, ?_⟩
    rintro bb F3 ⟨rfl, rfl⟩
    exact QA rfl (keep l2 hz)
  ·rintro z F2 ⟨ys2, h2⟩
   rw [Qq (by dsimp only; omega) (by dsimp only; omega)]
   exact ⟨⟨i + 1, ys2, by dsimp only; omega, by omega, h2⟩, by first | omega | (dsimp only; omega)⟩
 ·have hie : i = a.length := by have := of_decide_eq_false hc; dsimp only at this; omega
  subst hie
  rw [List.take_length] at hg hlen
  exact k r ys F (hg.down hHE)
theorem QpF (hF : FmtC C) {on : List Pr} {sa sb sn : Sl} {a b : List En} {K : Sl → Heap → Prop} (ha : EnL A sa a) (hb : EnL A sb b) (hp : PrL A sn on) (hA : A.le H) (hn : a.length ≤ 1000000) (hnb : b.length ≤ 1000000) (hon : on.length ≤ 1000)
 (hma : ∀ e ∈ a, mayR e.1 = true ∧ vsizes e.1 ≤ 1000) (hmb : ∀ e ∈ b, mayR e.1 = true ∧ vsizes e.1 ≤ 1000)
 (k : ∀ r D, H.le D → EnL D r (noneE on a b) → K r D) : QbS C sa sb sn K H :=
 QkB hF ha hA hb hp hA hn hnb hon hma hmb fun r ys D h => k r D h.own.le (SlIs.le (Heap.le.refl D) (h.sl (Nat.le_trans (List.length_filter_le ..) (by omega))) fun _ _ _ h2 => h2.le (hA.trans h.own.le))
theorem QkK {on : List Pr} {a b : List En} : (pairE on a b).length ≤ a.length * b.length := by
 induction a with
 | nil => simp [pairE]
 | cons x a ih =>
  unfold pairE at ih ⊢
  rw [List.flatMap_cons, List.length_append, List.length_map, List.length_cons, Nat.add_mul]
  have := List.length_filter_le (fun y : En => fitB on x.1 y.1) b
  omega
theorem Qlr {on : List Pr} {a b : List En} {x : En} : pairE on (a ++ [x]) b = pairE on a b ++ (b.filter fun y => fitB on x.1 y.1).map fun y => (x.1 ++ y.1, x.2 * y.2) := by
 unfold pairE; rw [List.flatMap_append]; simp
theorem QnE {a b : Int} (ha : -2147483647 ≤ a ∧ a ≤ 2147483647) (hb : -2147483647 ≤ b ∧ b ≤ 2147483647) : -4611686018427387904 ≤ a * b ∧ a * b ≤ 4611686018427387904 := by
 have key : ∀ x y : Int, 0 ≤ x → x ≤ 2147483647 → 0 ≤ y → y ≤ 2147483647 → 0 ≤ x * y ∧ x * y ≤ 4611686018427387904 := fun x y h1 h2 h3 h4 => by
  have := Int.mul_le_mul h2 h4 h3 (by omega)
  exact ⟨Int.mul_nonneg h1 h3, by omega⟩
 rcases Int.lt_or_le a 0 with h1 | h1 <;> rcases Int.lt_or_le b 0 with h2 | h2
 ·have := key (-a) (-b) (by omega) (by omega) (by omega) (by omega); rw [Int.neg_mul_neg] at this; omega
 ·have := key (-a) b (by omega) (by omega) (by omega) (by omega); rw [Int.neg_mul] at this; omega
 ·have := key a (-b) (by omega) (by omega) (by omega) (by omega); rw [Int.mul_neg] at this; omega
 ·have := key a b (by omega) (by omega) (by omega) (by omega); omega
theorem QlU (hF : FmtC C) {on : List Pr} {sa sb sn : Sl} {a b : List En} {K : Sl → Heap → Prop} (ha : EnC A sa a) (hb : EnL A sb b) (hp : PrL A sn on) (hA : A.le H) (hn : a.length ≤ 1000) (hnb : b.length ≤ 1000) (hon : on.length ≤ 1000)
 (hma : ∀ e ∈ a, mayR e.1 = true ∧ vsizes e.1 ≤ 1000) (hmb : ∀ e ∈ b, mayR e.1 = true ∧ vsizes e.1 ≤ 1000) (hNa : ∀ e ∈ a, -2147483647 ≤ e.2 ∧ e.2 ≤ 2147483647) (hNb : ∀ e ∈ b, -2147483647 ≤ e.2 ∧ e.2 ≤ 2147483647)
 (k : ∀ r D, H.le D → EnL D r (pairE on a b) → K r D) : Qcv C sa sb sn K H := by
 apply Qj2
 unfold Qg3
 refine QmN hp hA hon fun x y D hD hx hy => ?_
 intro b4 n4 b6 n6
 have ne : b6 ≠ b4 := fun e => by rw [e, Heap.put_same] at n6; cases n6
 have n6' : D b6 = none := by rw [Heap.put_ne _ _ _ ne] at n6; exact n6
 have st4 : ∀ {K : Heap → Prop}, K (((D.put b4 (.row (Qc.c x))).put b6 (.row (Qc.c Qc.zero)))) → stT (b4, 0) (Qc.c x) K ((D.put b4 (.row (Qc.c Qc.zero))).put b6 (.row (Qc.c Qc.zero))) := fun h => by
  refine ⟨Qc.c Qc.zero, by rw [Heap.put_ne _ _ _ ne.symm, Heap.put_same], by simp [Qc.c], ?_⟩
  have e : splice (Qc.c Qc.zero) (b4, 0).2 (Qc.c x) = Qc.c x := rfl
  rw [e, Heap.put_comm _ _ _ _ _ ne, Heap.put_put]
  exact h
 refine st4 (nwT rfl ?_)
 have lD : D.le ((D.put b4 (.row (Qc.c x))).put b6 (.row (Qc.c y))) := (Heap.le_put n4).trans (Heap.le_put (by rw [Heap.put_ne _ _ _ ne]; exact n6'))
 have c4 : ((D.put b4 (.row (Qc.c x))).put b6 (.row (Qc.c y))) b4 = some (true, .row (Qc.c x)) := by rw [Heap.put_ne _ _ _ ne.symm, Heap.put_same]
 have c6 : ((D.put b4 (.row (Qc.c x))).put b6 (.row (Qc.c y))) b6 = some (true, .row (Qc.c y)) := Heap.put_same ..
 generalize (D.put b4 (.row (Qc.c x))).put b6 (.row (Qc.c y)) = D2 at *
 have hAD := (hA.trans hD).trans lD
 refine bxT (c := Qc.c) c6 ?_
 refine Qp4 hF (hy.le lD) (hb.le hAD) (Heap.le.refl _) (by omega) hmb (by simp; omega) fun q E hE hI => ?_
 have hAE := hAD.trans hE
 have c4 := hE _ _ c4
 have hHE := (hD.trans lD).trans hE
 have hx := hx.le (lD.trans hE)
 refine ⟨fun z F => ∃ (i : Nat) (ys : List Qa), z.2 = (i : Int) ∧ i ≤ a.length ∧ EnW E F (pairE on (a.take i) b) z.1 ys, fun z _ => a.length - z.2.toNat, ⟨0, [], rfl, Nat.zero_le _, EnW.nil⟩, ?_⟩
 rintro ⟨r, _⟩ F ⟨i, ys, rfl, hi, hg⟩
 have hEF := hg.own.le
 have hEo := Heap.le_off hg.own.le hg.own.fresh
 have hmul : ∀ n, n ≤ 1000 → n * b.length ≤ 1000000 := fun n hn2 => by
  have := Nat.mul_le_mul hn2 hnb; omega
 have hlen : (pairE on (a.take i) b).length ≤ i * b.length := by have := QkK (on := on) (a := a.take i) (b := b); rw [List.length_take, Nat.min_eq_left hi] at this; exact this
 have hmi := hmul (i + 1)
 rw [ha.len]
 refine ift.of (fun hc => ?_) (fun hc => ?_)
 ·have hlt : i < a.length := by have := of_decide_eq_true hc; dsimp only at this; omega
  have hmem := List.getElem_mem hlt
  have hmi := hmi (by omega)
  rw [Nat.add_mul] at hmi
  have hsn : pairE on (a.take (i + 1)) b = pairE on (a.take i) b ++ (b.filter fun y => fitB on a[i].1 y.1).map fun y => (a[i].1 ++ y.1, a[i].2 * y.2) := by
   rw [takeS hlt, Qlr]
  refine ⟨fun z F2 => ∃ ys2 : List Qa, EnW E F2 (pairE on (a.take (i + 1)) b) z ys2, ?_, ?_⟩
  ·refine SlIs.ld ha (hAE.trans hEF) (z := 2) (fun _ => rfl) (by omega) rfl hlt fun y2 hy2 => ?_
   intro b29 n29
   refine nwT rfl ?_
   have lb := Heap.le_put n29 (g := .row (Qa.c y2)) (m := true)
   have cb : (F.put b29 (.row (Qa.c y2))) b29 = some (true, .row (Qa.c y2)) := Heap.put_same ..
   have c4 := lb _ _ (hEF _ _ c4)
   have rb : ∀ p, r.p = some p → p.1 ≠ b29 := fun p hp => by obtain ⟨g, hg2⟩ := hg.own.own.mine hp; exact Qa5 n29 hg2
   have hgb := hg.up lb
   have hEF := hEF.trans lb
   have hEo2 := hEo.trans (QhL lb)
   generalize F.put b29 (.row (Qa.c y2)) = F1 at *
   refine bxT (c := Qc.c) c4 (fL cb (t := y2.Row) rfl ?_)
   refine Qmo hF (hx.le hEF) (hy2.1.1.le (hAE.trans hEF)) (Heap.le.refl _) hy2.1.2.1 (hma _ hmem).1 (hma _ hmem).2 (by simp; omega) (fun key hk H2 l2 => ?_) (fun hk H2 l2 => ?_)
   rotate_left
   ·refine QA rfl ⟨ys, ?_⟩
    have : (b.filter fun y => fitB on a[i].1 y.1) = [] := List.filter_eq_nil_iff.2 fun y _ h => by rw [Qml hk] at h; cases h
    rw [hsn, this]
    simp only [List.map_nil, List.append_nil]
    exact hgb.up l2
   have hfit : (b.filter fun y => fitB on a[i].1 y.1) = byK (on.map fun p => p.2) key b := by
    unfold byK
    exact List.filter_congr fun y hy => Qnp (hma _ hmem).1 (hmb y hy).1 hk
   refine Qt rfl ?_
   refine hI.lk (hEF.trans l2) fun s3 b3 h3 => ?_
   -- the inner loop
   have hg2 := (hgb.up l2).base
   have hG : E.le (H2.off r) := hEo2.trans (QhL l2)
   have hHE2 := (hgb.up l2).own.le
   have hGown := (hgb.up l2).down (Heap.le.refl E)
   have cG : (H2.off r) b29 = some (true, .row (Qa.c y2)) := Heap.off_some (l2 _ _ cb) rb
   rw [hfit] at hsn
   have hbl : (byK (on.map fun p => p.2) key b).length ≤ b.length := List.length_filter_le ..
   refine ⟨fun z D3 => ∃ (j : Nat) (zs : List Qa), z.2 = (j : Int) ∧ j ≤ (byK (on.map fun p => p.2) key b).length ∧ EnW (H2.off r) D3 (pairE on (a.take i) b ++ ((byK (on.map fun p => p.2) key b).take j).map fun y => (a[i].1 ++ y.1, a[i].2 * y.2)) z.1 zs, fun z _ => (byK (on.map fun p => p.2) key b).length - z.2.toNat, ⟨0, ys, rfl, Nat.zero_le _, by simpa using hg2⟩, ?_⟩
   rintro ⟨r3, _⟩ D3 ⟨j, zs, rfl, hj, hg3⟩
   rw [h3.len]
   have hlenP : ((pairE on (a.take i) b) ++ ((byK (on.map fun p => p.2) key b).take j).map fun y => (a[i].1 ++ y.1, a[i].2 * y.2)).length ≤ 1000000 := by
    rw [List.length_append, List.length_map, List.length_take]; omega
   refine ift.of (fun hc => ?_) (fun hc => ?_)
   ·have hjl : j < (byK (on.map fun p => p.2) key b).length := by have := of_decide_eq_true hc; dsimp only at this; omega
    have hmj : (byK (on.map fun p => p.2) key b)[j] ∈ b := (List.mem_filter.1 (List.getElem_mem hjl)).1
    refine SlIs.ld (h3.le hG) hg3.own.le (z := 2) (fun _ => rfl) (by omega) rfl hjl fun z hz => ?_
    intro b54 n54
    refine nwT rfl ?_
    have lb4 := Heap.le_put n54 (g := .row (Qa.c z)) (m := true)
    have c54 : (D3.put b54 (.row (Qa.c z))) b54 = some (true, .row (Qa.c z)) := Heap.put_same ..
    have c29 := lb4 _ _ (hg3.own.le _ _ cG)
    have hg4 := hg3.up lb4
    have hGo : (H2.off r).le ((D3.put b54 (.row (Qa.c z))).off r3) := (Heap.le_off hg3.own.le hg3.own.fresh).trans (QhL lb4)
    generalize D3.put b54 (.row (Qa.c z)) = D4 at *
    have hAG := hAE.trans (hG.trans hGo)
    have v1 := hy2.1.1.le hAG
    have v2 := hz.1.le hGo
    have sl1 := Qaq a[i].1
    have sl2 := Qaq (byK (on.map fun p => p.2) key b)[j].1
    have ma := (hma _ hmem).2
    have mb := (hmb _ hmj).2
    have mr := QnE (hNa _ hmem) (hNb _ hmj)
    have yN := hy2.1.2.2.2.1
    have zN := hz.2.2.2.1
    refine ⟨D4, Heap.le.refl _, fL c29 (t := y2.Row) rfl (fL c29 (t := y2.Row) rfl (fL c29 (t := y2.Row) rfl ?_))⟩
    have fin : ∀ {D5 : Heap} {rr : Sl}, D4.le D5 → VRow (D5.off r3) rr (a[i].1 ++ (byK (on.map fun p => p.2) key b)[j].1) → D4.le D5 ∧ ldI D5 .i64 ((b29, 0).1, (b29, 0).2 + 1) fun x76 => ldI D5 .i64 ((b54, 0).1, (b54, 0).2 + 1) fun x78 =>
     apd (Qa.c Qa.zero) 32 r3 ((Qa.c (⟨rr, (w .i64 (x76 * x78))⟩ : Qa)) ++ []) 1 (fun r80 H81 => (∃ (j' : Nat) (zs : List Qa), ((r80, (w .i64 ((j : Int) + 1))) : Sl × Int).2 = (j' : Int) ∧ j' ≤ (byK (on.map fun p => p.2) key b).length ∧ EnW (H2.off r) H81 (pairE on (a.take i) b ++ ((byK (on.map fun p => p.2) key b).take j').map fun y => (a[i].1 ++ y.1, a[i].2 * y.2)) ((r80, (w .i64 ((j : Int) + 1))) : Sl × Int).1 zs) ∧ (byK (on.map fun p => p.2) key b).length - ((r80, (w .i64 ((j : Int) + 1))) : Sl × Int).2.toNat < (byK (on.map fun p => p.2) key b).length - (((r3, (j : Int)) : Sl × Int).2).toNat) D5 := fun {D5 rr} l5 hv => by
     refine ⟨l5, fI (l5 _ _ c29) (t := y2.N) rfl (fI (l5 _ _ c54) (t := z.N) rfl ?_)⟩
     refine hg4.step (e := (a[i].1 ++ (byK (on.map fun p => p.2) key b)[j].1, a[i].2 * (byK (on.map fun p => p.2) key b)[j].2)) l5 ⟨hv, QhH hy2.1.2.1 hz.2.1, by rw [List.length_append]; omega, ?_, by dsimp only; omega, by dsimp only; omega⟩ hlenP fun r5 B5 h5 => ?_
     ·show w .i64 (y2.N * z.N) = _
      rw [yN, zN, Qq (by omega) (by omega)]
     ·rw [Qq (by omega) (by omega)]
      refine ⟨⟨j + 1, zs ++ [(⟨rr, w .i64 (y2.N * z.N)⟩ : Qa)], by dsimp only; omega, by omega, ?_⟩, by first | omega | (dsimp only; omega)⟩
      rw [takeS hjl, List.map_append, ← List.append_assoc]
      exact h5
    have hcat := Qp5 (G := D4.off r3) (D := D4) (s := y2.Row) (t := z.Row) (K := fun r74 H75 => D4.le H75 ∧ ldI H75 .i64 ((b29, 0).1, (b29, 0).2 + 1) fun x76 => ldI H75 .i64 ((b54, 0).1, (b54, 0).2 + 1) fun x78 =>
     apd (Qa.c Qa.zero) 32 r3 ((Qa.c (⟨r74, (w .i64 (x76 * x78))⟩ : Qa)) ++ []) 1 (fun r80 H81 => (∃ (j' : Nat) (zs : List Qa), ((r80, (w .i64 ((j : Int) + 1))) : Sl × Int).2 = (j' : Int) ∧ j' ≤ (byK (on.map fun p => p.2) key b).length ∧ EnW (H2.off r) H81 (pairE on (a.take i) b ++ ((byK (on.map fun p => p.2) key b).take j').map fun y => (a[i].1 ++ y.1, a[i].2 * y.2)) ((r80, (w .i64 ((j : Int) + 1))) : Sl × Int).1 zs) ∧ (byK (on.map fun p => p.2) key b).length - ((r80, (w .i64 ((j : Int) + 1))) : Sl × Int).2.toNat < (byK (on.map fun p => p.2) key b).length - (((r3, (j : Int)) : Sl × Int).2).toNat) H75)
     v1 v2 hy2.2 (Heap.off_le _ _) (by omega) (fun hm rr hv => fin (Heap.le.refl _) (by rw [hm, List.append_nil]; exact hv)) fun b5 g5 rr nb5 hv => fin (Heap.le_put nb5) (by
      rw [QmT fun p hp => by obtain ⟨g, hgp⟩ := hg4.own.own.mine hp; exact Qa5 nb5 hgp]
      exact hv)
    obtain ⟨q1, q2, q3, q4, t65, q5, q6⟩ := hcat
    exact ⟨q1, q2, q3, q4, t65, q5, fL c54 (t := z.Row) rfl q6⟩
   ·have hje : j = (byK (on.map fun p => p.2) key b).length := by have := of_decide_eq_false hc; dsimp only at this; omega
    subst hje
    rw [List.take_length] at hg3
    exact ⟨zs, by rw [hsn]; exact hg3.down hG⟩
  ·rintro z F2 ⟨ys2, h2⟩
   rw [Qq (by dsimp only; omega) (by dsimp only; omega)]
   exact ⟨⟨i + 1, ys2, by dsimp only; omega, by omega, h2⟩, by first | omega | (dsimp only; omega)⟩
 ·have hie : i = a.length := by have := of_decide_eq_false hc; dsimp only at this; omega
  subst hie
  rw [List.take_length] at hg hlen
  have := hmul _ hn
  exact k r F (hHE.trans hEF) (hg.en (by omega))
end
end
section
open Go Go.Proofs
open Classical in
noncomputable def sumOf (l : List En) : List En := if h : ∃ o, IsSum l o then choose h else []
/-- the error of entries -/
noncomputable def errE (l : List En) : Int := if chkE l ≠ 0 then chkE l else if (sumOf l).any (fun o => outE o.2) then 80 else 0
/-- the entries, clean -/
noncomputable def clnE (l : List En) : List En := if errE l = 0 then nzE (sumOf l) else []
theorem Qfw {l : List En} (h : chkE l = 0) : IsSum l (sumOf l) := by
 have hx := Qn9 _ l rfl (QlO h).1
 unfold sumOf
 rw [dif_pos hx]
 exact Classical.choose_spec hx
theorem Qmb {l : List En} (h : chkE l ≠ 0) : errE l = chkE l ∧ clnE l = [] := by
 have e : errE l = chkE l := by unfold errE; rw [if_pos h]
 exact ⟨e, by unfold clnE; rw [if_neg (by rw [e]; exact h)]⟩
theorem ResP.fn {l : List En} {e : Int} {out : List En} (h : ResP l e out) : e = errE l ∧ out = clnE l := by
 by_cases c : chkE l = 0
 ·have hs := Qfw c
  cases hb : (sumOf l).any fun o => outE o.2 with
  | true =>
   have e1 : errE l = 80 := by unfold errE; rw [if_neg (by simpa using c), hb]; rfl
   obtain ⟨q1, q2⟩ := h.over c _ hs hb
   exact ⟨by rw [q1, e1], by rw [q2]; unfold clnE; rw [if_neg (by rw [e1]; decide)]⟩
  | false =>
   have e1 : errE l = 0 := by unfold errE; rw [if_neg (by simpa using c), hb]; rfl
   obtain ⟨q1, q2⟩ := h.ok c _ hs hb
   exact ⟨by rw [q1, e1], by rw [q2]; unfold clnE; rw [if_pos e1]⟩
 ·obtain ⟨q1, q2⟩ := h.err c
  obtain ⟨e1, e2⟩ := Qmb c
  exact ⟨by rw [q1, e1], by rw [q2, e2]⟩
theorem ResD.fn {l : List En} {e : Int} {out : List En} (h : ResD l e out) : e = errE l ∧ out = clnE l := by
 rcases h with ⟨c, q1, q2⟩ | ⟨c, o, ho, ⟨hb, q1, q2⟩ | ⟨hb, q1, q2⟩⟩
 ·obtain ⟨e1, e2⟩ := Qmb c
  exact ⟨by rw [q1, e1], by rw [q2, e2]⟩
 ·have hs := Qfw c
  rw [ho.uniq hs] at hb
  have e1 : errE l = 80 := by unfold errE; rw [if_neg (by simpa using c), hb]; rfl
  exact ⟨by rw [q1, e1], by rw [q2]; unfold clnE; rw [if_neg (by rw [e1]; decide)]⟩
 ·have hs := Qfw c
  rw [ho.uniq hs] at hb q2
  have e1 : errE l = 0 := by unfold errE; rw [if_neg (by simpa using c), hb]; rfl
  exact ⟨by rw [q1, e1], by rw [q2]; unfold clnE; rw [if_pos e1]⟩
theorem Qe3 {l : List En} : errE l = 0 ↔ OkS l := by
 constructor
 ·intro h
  have c : chkE l = 0 := Classical.byContradiction fun c => by rw [(Qmb c).1] at h; exact c h
  obtain ⟨m1, m2⟩ := QlO c
  have hs := Qfw c
  refine ⟨m1, m2, fun r => ?_⟩
  by_cases hr : ∃ e ∈ l, e.1 = r
  ·have hm := (hs.mem r (totE l r)).2 ⟨hr, rfl⟩
   cases hb : (sumOf l).any fun o => outE o.2 with
   | true => unfold errE at h; rw [if_neg (by simpa using c), hb] at h; cases h
   | false =>
    rw [List.any_eq_false] at hb
    simpa using hb _ hm
  ·rw [Qab fun e he e' => hr ⟨e, he, e'⟩]; rfl
 ·intro h
  have c := Qpq h
  have hs := Qfw c
  unfold errE
  rw [if_neg (by simpa using c), if_neg]
  rw [List.any_eq_true]
  rintro ⟨x, hx, hb⟩
  obtain ⟨_, h2⟩ := (hs.mem x.1 x.2).1 hx
  rw [h2, h.tot] at hb; cases hb
theorem Qek {l : List En} (h : errE l = 0) : IsSum l (sumOf l) ∧ clnE l = nzE (sumOf l) := by
 refine ⟨Qfw (Classical.byContradiction fun c => by rw [(Qmb c).1] at h; exact c h), ?_⟩
 unfold clnE; rw [if_pos h]
theorem Qe1 (l : List En) : (clnE l).length ≤ l.length := by
 by_cases h : errE l = 0
 ·obtain ⟨h1, h2⟩ := Qek h; rw [h2]; exact Qo4 h1
 ·unfold clnE; rw [if_neg h]; exact Nat.zero_le _
theorem Qps {l : List En} (h : errE l = 0) (r : List V) : totE (clnE l) r = totE l r := by
 obtain ⟨h1, h2⟩ := Qek h; rw [h2]; exact Qqm h1 r
theorem Qgx (l : List En) : (clnE l).Pairwise fun a b => cmpR a.1 b.1 < 0 := by
 by_cases h : errE l = 0
 ·obtain ⟨h1, h2⟩ := Qek h; rw [h2]; exact QhA h1
 ·unfold clnE; rw [if_neg h]; exact List.Pairwise.nil
theorem Qco {l : List En} {e : En} (h : e ∈ clnE l) : errE l = 0 ∧ (∃ x ∈ l, x.1 = e.1) ∧ e.2 = totE l e.1 ∧ e.2 ≠ 0 := by
 by_cases h0 : errE l = 0
 ·obtain ⟨h1, h2⟩ := Qek h0
  rw [h2] at h
  obtain ⟨q1, q2⟩ := Qql h1 h
  exact ⟨h0, q1, q2, ((QhK h1 e.1 e.2).1 h).2⟩
 ·unfold clnE at h; rw [if_neg h0] at h; simp at h
theorem QcM {l : List En} : ∀ e ∈ clnE l, mayR e.1 = true ∧ outE e.2 = false := fun e he => by
 obtain ⟨h0, ⟨x, hx, hr⟩, hn, _⟩ := Qco he
 have ho := Qe3.1 h0
 exact ⟨by rw [← hr]; exact ho.may x hx, by rw [hn]; exact ho.tot _⟩
theorem Qc8 {l : List En} (hb : ∀ e ∈ l, okE e) : ∀ e ∈ clnE l, okE e := fun e he => by
 obtain ⟨h0, ⟨x, hx, hr⟩, hn, _⟩ := Qco he
 have h1 := QhB (QcM e he).2
 have h2 := hb x hx
 unfold okE at h2 ⊢
 rw [hr] at h2
 exact ⟨h2.1, h2.2.1, by omega, by omega⟩
theorem Qon {l : List En} {m : Nat} (hb : ∀ e ∈ l, vsizes e.1 ≤ m) : ∀ e ∈ clnE l, vsizes e.1 ≤ m := fun e he => by
 obtain ⟨h0, ⟨x, hx, hr⟩, hn, _⟩ := Qco he
 rw [← hr]; exact hb x hx
theorem Qp7 {l m : List En} (hl : errE l = 0) (hm : errE m = 0) (h : ∀ r, totE l r = totE m r) : clnE l = clnE m := by
 obtain ⟨h1, h2⟩ := Qek hl
 obtain ⟨h3, h4⟩ := Qek hm
 rw [h2, h4]; exact QpI h1 h3 h
/-- clean lists, rising, without 0: they stay -/
theorem Qmc {l : List En} (hp : l.Pairwise fun a b => cmpR a.1 b.1 < 0) (hm : ∀ e ∈ l, mayR e.1 = true ∧ outE e.2 = false) (h0 : ∀ e ∈ l, e.2 ≠ 0) : errE l = 0 ∧ clnE l = l := by
 have ht : ∀ e ∈ l, totE l e.1 = e.2 := fun e he => Qi0 hp he
 have ho : OkS l := ⟨fun e he => (hm e he).1, fun e he => (hm e he).2, fun r => by
  by_cases hr : ∃ e ∈ l, e.1 = r
  ·obtain ⟨e, he, rfl⟩ := hr; rw [ht e he]; exact (hm e he).2
  ·rw [Qab fun e he e' => hr ⟨e, he, e'⟩]; rfl⟩
 have he := Qe3.2 ho
 refine ⟨he, ?_⟩
 obtain ⟨h1, h2⟩ := Qek he
 rw [h2]
 refine QgX (QhA h1) hp fun x => ?_
 obtain ⟨r, n⟩ := x
 rw [QhK h1]
 constructor
 ·rintro ⟨rfl, hn⟩
  have : ∃ e ∈ l, e.1 = r := Classical.byContradiction fun hc => hn (Qab fun e he e' => hc ⟨e, he, e'⟩)
  obtain ⟨e, he, rfl⟩ := this
  rw [ht e he]; exact he
 ·intro hx
  exact ⟨(ht _ hx).symm, h0 _ hx⟩
theorem QbD (l : List En) : errE (clnE l) = 0 ∧ clnE (clnE l) = clnE l := Qmc (Qgx l) QcM fun e he => (Qco he).2.2.2
theorem Qpr {l m : List En} (h : m.Sublist (clnE l)) : errE m = 0 ∧ clnE m = m := Qmc ((Qgx l).sublist h) (fun e he => QcM e (h.subset he)) fun e he => (Qco (h.subset he)).2.2.2
/-- what is there, once -/
theorem QpO {l : List En} (h : errE l = 0) (r : List V) : totE (posE (clnE l)) r = if 0 < totE l r then 1 else 0 := by
 have hk : (keepE (clnE l)).Sublist (clnE l) := List.filter_sublist ..
 have hp : (posE (clnE l)).Pairwise fun a b => cmpR a.1 b.1 < 0 := by
  unfold posE; rw [List.pairwise_map]; exact (Qgx l).sublist hk
 by_cases h0 : 0 < totE l r
 ·rw [if_pos h0]
  refine Qi0 hp ?_
  obtain ⟨h1, h2⟩ := Qek h
  have hm : (r, totE l r) ∈ clnE l := by rw [h2]; exact (QhK h1 r _).2 ⟨rfl, by omega⟩
  have hm2 : (r, totE l r) ∈ keepE (clnE l) := List.mem_filter.2 ⟨hm, by simp; omega⟩
  exact List.mem_map.2 ⟨_, hm2, rfl⟩
 ·rw [if_neg h0]
  refine Qab fun e he e' => ?_
  obtain ⟨x, hx, rfl⟩ := List.mem_map.1 he
  have hx2 := List.mem_filter.1 hx
  obtain ⟨_, _, hn, hz⟩ := Qco hx2.1
  have : ¬ x.2 < 0 := by simpa using hx2.2
  simp only at e'
  subst e'
  omega
section
variable {C : Ctx} {H A : Heap}
theorem pCleanF {a : Sl} {la : List En} {K : Sl → Int → Heap → Prop} (ha : EnL H a la) (hn : la.length ≤ 1000000) (hsz : ∀ x ∈ la, vsizes x.1 ≤ 1000000)
 (k : ∀ cs ys H0, OgE H H0 (clnE la) cs ys → K cs (errE la) H0) : QI C a K H := by
 refine Qlq ha hn hsz (Qig (fun x hx => ?_) fun e out cs ys H0 h1 h2 => ?_)
 ·simp [seqS] at hx
  obtain ⟨r, n, h, rfl⟩ := hx
  exact (ha.oks _ h).2.2
 ·rw [esC] at h1
  obtain ⟨rfl, rfl⟩ := h1.fn
  exact k cs ys H0 h2
theorem pAddF {a b : Sl} {la lb : List En} {K : Sl → Int → Heap → Prop} (ha : EnL H a la) (hb : EnL H b lb) (hn : la.length + lb.length ≤ 1000000) (hsz : ∀ x ∈ la ++ lb, vsizes x.1 ≤ 1000000)
 (k : ∀ cs ys H0, OgE H H0 (clnE (la ++ lb)) cs ys → K cs (errE (la ++ lb)) H0) : QcZ C a b K H := by
 refine QpL ha hb hn hsz (Qig (fun x hx => ?_) fun e out cs ys H0 h1 h2 => ?_)
 ·simp [seqS] at hx
  rcases hx with ⟨r, n, h, rfl⟩ | ⟨r, n, h, rfl⟩
  ·exact (ha.oks _ h).2.2
  ·exact (hb.oks _ h).2.2
 ·rw [esA] at h1
  obtain ⟨rfl, rfl⟩ := h1.fn
  exact k cs ys H0 h2
theorem QnG {l : List En} (h : ∀ e ∈ l, -2147483647 ≤ e.2 ∧ e.2 ≤ 2147483647) : negE l = negL l := by
 unfold negE negL
 refine List.map_congr_left fun e he => ?_
 have := h e he
 show (e.1, w .i64 (0 - e.2)) = _
 rw [Qq (by omega) (by omega)]
 congr 1
 omega
theorem pLessF {a b : Sl} {la lb : List En} {K : Sl → Int → Heap → Prop} (ha : EnL H a la) (hb : EnL H b lb) (hn : la.length + lb.length ≤ 1000000) (hsz : ∀ x ∈ la ++ lb, vsizes x.1 ≤ 1000000) (hN : ∀ e ∈ lb, -2147483647 ≤ e.2 ∧ e.2 ≤ 2147483647)
 (k : ∀ cs ys H0, OgE H H0 (clnE (la ++ negL lb)) cs ys → K cs (errE (la ++ negL lb)) H0) : Qej C a b K H := by
 refine Qoz ha hb hn hsz (Qig (fun x hx => ?_) fun e out cs ys H0 h1 h2 => ?_)
 ·simp [seqS] at hx
  rcases hx with ⟨r, n, h, rfl⟩ | ⟨r, n, h, rfl⟩
  ·exact (ha.oks _ h).2.2
  ·exact (hb.oks _ h).2.2
 ·rw [esL, QnG hN] at h1
  obtain ⟨rfl, rfl⟩ := h1.fn
  exact k cs ys H0 h2
theorem pDistF {a : Sl} {la : List En} {K : Sl → Int → Heap → Prop} (ha : EnL H a la) (hn : la.length ≤ 1000000) (hsz : ∀ x ∈ la, vsizes x.1 ≤ 1000000)
 (k : ∀ cs ys H0, OgE H H0 (posE (clnE la)) cs ys → K cs (errE la) H0) : QaL C a K H := by
 refine Qoy ha hn hsz fun e out cs ys H0 h1 _ h2 => ?_
 obtain ⟨rfl, rfl⟩ := h1.fn
 exact k cs ys H0 h2
theorem OgE.enN {H B : Heap} {es : List En} {s : Sl} {ys : List Qa} (h : OgE H B es s ys) (hb : ∀ e ∈ es, okE e) (hn : es.length ≤ 140737488355328) : EnC (Heap.new H B) s es := by
 have hl := h.len
 obtain ⟨o1, o2, o3, o4⟩ := h.own.own
 have h1 := o1
 rw [QO] at h1
 refine ⟨ys, ?_, by omega, hl.symm, hn, fun j e y he hy => ?_⟩
 ·rcases o4 with ⟨p0, c0⟩ | ⟨b, sp, hp, hbk, hc⟩
  ·left
   have : ys.length = 0 := by omega
   rw [List.length_eq_zero_iff.1 this]; rfl
  ·refine .inr ⟨o2, _, hp, Qaf (Heap.new_some hbk (h.own.fresh _ hp)) fun j v hj => ?_⟩
   rw [Nat.zero_add]
   exact (List.getElem?_append_left (List.getElem?_eq_some_iff.1 hj).1).trans hj
 ·obtain ⟨m1, m2⟩ := h.done j e y he hy
  have hok := hb e (List.mem_of_getElem? he)
  refine ⟨⟨m1.row.le fun x v hx => ?_, hok.1, hok.2.1, m2, hok.2.2⟩, m1.cp⟩
  obtain ⟨q1, q2⟩ := Heap.new_inv hx
  exact Heap.new_some (Heap.off_le _ _ _ _ q2) q1
end
end
section
open Go Go.Proofs
/-- entries within bounds -/
def Sz (m n : Nat) (l : List En) : Prop := l.length ≤ m ∧ ∀ e ∈ l, vsizes e.1 ≤ n
theorem Sz.cln {m n : Nat} {l : List En} (h : Sz m n l) : Sz m n (clnE l) := ⟨Nat.le_trans (Qe1 l) h.1, Qon h.2⟩
theorem Sz.app {m m2 n : Nat} {a b : List En} (h : Sz m n a) (h2 : Sz m2 n b) : Sz (m + m2) n (a ++ b) := ⟨by rw [List.length_append]; have := h.1; have := h2.1; omega, fun e he => by
 rcases List.mem_append.1 he with he | he
 ·exact h.2 e he
 ·exact h2.2 e he⟩
theorem Sz.up {m n m2 n2 : Nat} {l : List En} (h : Sz m n l) (hm : m ≤ m2) (hn : n ≤ n2) : Sz m2 n2 l := ⟨Nat.le_trans h.1 hm, fun e he => Nat.le_trans (h.2 e he) hn⟩
theorem Sz.sub {m n : Nat} {l l2 : List En} (h : Sz m n l) (hs : l2.Sublist l) : Sz m n l2 := ⟨Nat.le_trans hs.length_le h.1, fun e he => h.2 e (hs.subset he)⟩
theorem Sz.pos {m n : Nat} {l : List En} (h : Sz m n l) : Sz m n (posE l) := by
 have hk := h.sub (l2 := keepE l) (List.filter_sublist ..)
 refine ⟨by unfold posE; rw [List.length_map]; exact hk.1, fun e he => ?_⟩
 obtain ⟨x, hx, rfl⟩ := List.mem_map.1 he
 exact hk.2 x hx
theorem Sz.neg {m n : Nat} {l : List En} (h : Sz m n l) : Sz m n (negL l) := by
 refine ⟨by unfold negL; rw [List.length_map]; exact h.1, fun e he => ?_⟩
 obtain ⟨x, hx, rfl⟩ := List.mem_map.1 he
 exact h.2 x hx
theorem Sz.none {m n : Nat} {on : List Pr} {a b : List En} (h : Sz m n a) : Sz m n (noneE on a b) := h.sub (List.filter_sublist ..)
theorem Qhq : ∀ a b : List V, vsizes (a ++ b) = vsizes a + vsizes b
 | [], b => by simp [vsizes]
 | v :: a, b => by simp only [List.cons_append, vsizes, Qhq a b]; omega
theorem Sz.pair {m m2 n n2 : Nat} {on : List Pr} {a b : List En} (h : Sz m n a) (h2 : Sz m2 n2 b) : Sz (m * m2) (n + n2) (pairE on a b) := by
 refine ⟨Nat.le_trans QkK (Nat.mul_le_mul h.1 h2.1), fun e he => ?_⟩
 obtain ⟨x, hx, y, hy, rfl⟩ := Qmx he
 show vsizes (x.1 ++ y.1) ≤ _
 rw [Qhq]
 have := h.2 x hx; have := h2.2 y hy; omega
theorem Qcp {l : List En} : ∀ e ∈ clnE l, -2147483647 ≤ e.2 ∧ e.2 ≤ 2147483647 := fun e he => QhB (QcM e he).2
/-- the first error -/
noncomputable def partsE (a da b db : List En) : Int :=
 if errE a ≠ 0 then errE a else if errE da ≠ 0 then errE da else if errE b ≠ 0 then errE b else if errE db ≠ 0 then errE db else if errE (a ++ da) ≠ 0 then errE (a ++ da) else errE (b ++ db)
theorem QgV {a da b db : List En} (h : partsE a da b db = 0) : errE a = 0 ∧ errE da = 0 ∧ errE b = 0 ∧ errE db = 0 ∧ errE (a ++ da) = 0 ∧ errE (b ++ db) = 0 := by
 unfold partsE at h
 by_cases h1 : errE a = 0 <;> by_cases h2 : errE da = 0 <;> by_cases h3 : errE b = 0 <;> by_cases h4 : errE db = 0 <;> by_cases h5 : errE (a ++ da) = 0 <;> simp_all
/-- two records of three lists each, and what is known beside them -/
structure PI (E D : Heap) (b1 b3 : Nat) (w1 a1 i1 w2 a2 i2 : Sl) : Prop where
 le : E.le D
 n1 : E b1 = none
 n3 : E b3 = none
 c1 : D b1 = some (true, .row [slv w1, slv a1, slv i1])
 c3 : D b3 = some (true, .row [slv w2, slv a2, slv i2])
def del2 (b1 b3 : Nat) (H : Heap) : Heap := fun x => if x = b1 ∨ x = b3 then none else H x
theorem PI.more {E D H30 : Heap} {b1 b3 : Nat} {w1 a1 i1 w2 a2 i2 : Sl} (h : PI E D b1 b3 w1 a1 i1 w2 a2 i2) (hle : D.le H30) : PI (del2 b1 b3 H30) H30 b1 b3 w1 a1 i1 w2 a2 i2 ∧ E.le (del2 b1 b3 H30) ∧ (Heap.new D H30).le (del2 b1 b3 H30) := by
 refine ⟨⟨fun x e hx => ?_, by unfold del2; rw [if_pos (.inl rfl)], by unfold del2; rw [if_pos (.inr rfl)], hle _ _ h.c1, hle _ _ h.c3⟩, fun x e hx => ?_, fun x e hx => ?_⟩
 ·unfold del2 at hx; split at hx
  ·cases hx
  ·exact hx
 ·unfold del2; rw [if_neg]
  ·exact hle _ _ (h.le _ _ hx)
  ·rintro (rfl | rfl)
   ·rw [h.n1] at hx; cases hx
   ·rw [h.n3] at hx; cases hx
 ·obtain ⟨q1, q2⟩ := Heap.new_inv hx
  unfold del2; rw [if_neg]
  ·exact q2
  ·rintro (rfl | rfl)
   ·rw [h.c1] at q1; cases q1
   ·rw [h.c3] at q1; cases q1
section
variable {C : Ctx} {H A : Heap}
theorem Qia {E D : Heap} {b1 b3 : Nat} {w1 a1 i1 w2 a2 i2 : Sl} {s : Sl} {l : List En} {K : Sl → Int → Heap → Prop} (h : PI E D b1 b3 w1 a1 i1 w2 a2 i2) (hs : EnL E s l) (hz : Sz 1000 1000 l)
 (k : ∀ r E2 H30, E.le E2 → D.le H30 → PI E2 H30 b1 b3 w1 a1 i1 w2 a2 i2 → EnC E2 r (clnE l) → K r (errE l) H30) : QI C s K D := by
 have hl := hz.1
 refine pCleanF (hs.le h.le) (by omega) (fun x hx => by have := hz.2 x hx; omega) fun cs ys H30 g => ?_
 obtain ⟨q1, q2, q3⟩ := h.more g.own.le
 have := Qe1 l
 exact k cs _ H30 q2 g.own.le q1 ((g.enN (Qc8 hs.oks) (by omega)).le q3)
theorem QoX {E D : Heap} {b1 b3 : Nat} {w1 a1 i1 w2 a2 i2 : Sl} {s t : Sl} {l m : List En} {K : Sl → Int → Heap → Prop} (h : PI E D b1 b3 w1 a1 i1 w2 a2 i2) (hs : EnL E s l) (ht : EnL E t m) (hz : Sz 1000 1000 l) (hz2 : Sz 1000 1000 m)
 (k : ∀ r E2 H30, E.le E2 → D.le H30 → PI E2 H30 b1 b3 w1 a1 i1 w2 a2 i2 → EnC E2 r (clnE (l ++ m)) → K r (errE (l ++ m)) H30) : QcZ C s t K D := by
 have hl := hz.1
 have hl2 := hz2.1
 have hz3 := hz.app hz2
 refine pAddF (hs.le h.le) (ht.le h.le) (by omega) (fun x hx => by have := hz3.2 x hx; omega) fun cs ys H30 g => ?_
 obtain ⟨q1, q2, q3⟩ := h.more g.own.le
 have := Qe1 (l ++ m)
 rw [List.length_append] at this
 exact k cs _ H30 q2 g.own.le q1 ((g.enN (Qc8 fun e he => by
  rcases List.mem_append.1 he with he | he
  ·exact hs.oks e he
  ·exact ht.oks e he) (by omega)).le q3)
theorem fP {b j : Nat} {m : Bool} {cs : List Value} {t : Option (Nat × Nat)} {K : Option (Nat × Nat) → Prop} (h : H b = some (m, .row cs)) (hj : cs[j]? = some (pv t)) (k : K t) : ldP H ((b, 0).1, (b, 0).2 + j) K := ⟨t, by rw [QeG h, Nat.zero_add]; exact hj, k⟩
/-- what is told at the end -/
theorem tell3 {E D : Heap} {b1 b3 : Nat} {w1 a1 i1 w2 a2 i2 : Sl} {e : Int} {K : Qe → Qe → Int → Heap → Prop} (h : PI E D b1 b3 w1 a1 i1 w2 a2 i2) (k : K (⟨w1, a1, i1⟩ : Qe) (⟨w2, a2, i2⟩ : Qe) e D) :
 ldT D Qe.c (b1, 0) fun x36 => ldT D Qe.c (b3, 0) fun x38 => stT (b1, 0) (Qe.c x36) (fun H40 => stT (b3, 0) (Qe.c x38) (fun H41 => ldT H41 Qe.c (b1, 0) fun x42 => ldT H41 Qe.c (b3, 0) fun x44 => K x42 x44 e H41) H40) D :=
 bxT (c := Qe.c) (x := (⟨w1, a1, i1⟩ : Qe)) h.c1 (bxT (c := Qe.c) (x := (⟨w2, a2, i2⟩ : Qe)) h.c3 (Qif h.c1 (Qif h.c3 (bxT (c := Qe.c) (x := (⟨w1, a1, i1⟩ : Qe)) h.c1 (bxT (c := Qe.c) (x := (⟨w2, a2, i2⟩ : Qe)) h.c3 k)))))
theorem PI.set1 {E D : Heap} {b1 b3 : Nat} {w1 a1 i1 w2 a2 i2 : Sl} {w a i : Sl} (h : PI E D b1 b3 w1 a1 i1 w2 a2 i2) (hne : b3 ≠ b1) : PI E (D.put b1 (.row [slv w, slv a, slv i])) b1 b3 w a i w2 a2 i2 :=
 ⟨Qn h.le h.n1, h.n1, h.n3, Heap.put_same .., by rw [Heap.put_ne _ _ _ hne]; exact h.c3⟩
theorem PI.set3 {E D : Heap} {b1 b3 : Nat} {w1 a1 i1 w2 a2 i2 : Sl} {w a i : Sl} (h : PI E D b1 b3 w1 a1 i1 w2 a2 i2) (hne : b3 ≠ b1) : PI E (D.put b3 (.row [slv w, slv a, slv i])) b1 b3 w1 a1 i1 w a i :=
 ⟨Qn h.le h.n3, h.n1, h.n3, by rw [Heap.put_ne _ _ _ hne.symm]; exact h.c1, Heap.put_same ..⟩
abbrev TF := Qd
def tfs (sa sda sb sdb : Sl) (b1 b3 : Nat) : List TF := [⟨sa, some (b1, 0)⟩, ⟨sda, some (b1, 1)⟩, ⟨sb, some (b3, 0)⟩, ⟨sdb, some (b3, 1)⟩]
/-- how far the parts have come -/
structure PJ (H E : Heap) (b5 : Nat) (sa sda sb sdb : Sl) (b1 b3 : Nat) (a da b db : List En) (i : Nat) (w1 a1 w2 a2 : Sl) : Prop where
 le : H.le E
 arr : SlIs (fun v x => x = v) Qd.c E (Sl.of (some (b5, 0)) 4 4) (tfs sa sda sb sdb b1 b3)
 e0 : 0 < i → errE a = 0 ∧ EnC E w1 (clnE a)
 e1 : 1 < i → errE da = 0 ∧ EnC E a1 (clnE da)
 e2 : 2 < i → errE b = 0 ∧ EnC E w2 (clnE b)
 e3 : 3 < i → errE db = 0 ∧ EnC E a2 (clnE db)
theorem PJ.up {H E E2 : Heap} {b5 : Nat} {sa sda sb sdb : Sl} {b1 b3 : Nat} {a da b db : List En} {i : Nat} {w1 a1 w2 a2 : Sl} (h : PJ H E b5 sa sda sb sdb b1 b3 a da b db i w1 a1 w2 a2) (hle : E.le E2) : PJ H E2 b5 sa sda sb sdb b1 b3 a da b db i w1 a1 w2 a2 :=
 ⟨h.le.trans hle, SlIs.le hle h.arr fun _ _ _ h => h, fun hi => ⟨(h.e0 hi).1, (h.e0 hi).2.le hle⟩, fun hi => ⟨(h.e1 hi).1, (h.e1 hi).2.le hle⟩, fun hi => ⟨(h.e2 hi).1, (h.e2 hi).2.le hle⟩, fun hi => ⟨(h.e3 hi).1, (h.e3 hi).2.le hle⟩⟩
theorem ne0 {e : Int} (h : (e != 0) = true) : e ≠ 0 := by simpa using h
theorem eq0 {e : Int} (h : (e != 0) = false) : e = 0 := by simpa using h
theorem QkL {sa sda sb sdb : Sl} {a da b db : List En} {K : Qe → Qe → Int → Heap → Prop} (ha : EnL A sa a) (hda : EnL A sda da) (hb : EnL A sb b) (hdb : EnL A sdb db) (hA : A.le H)
 (za : Sz 1000 1000 a) (zda : Sz 1000 1000 da) (zb : Sz 1000 1000 b) (zdb : Sz 1000 1000 db)
 (k : ∀ (x y : Qe) D, H.le D → (partsE a da b db = 0 → EnC D x.was_ (clnE a) ∧ EnC D x.add_ (clnE da) ∧ EnC D x.is_ (clnE (a ++ da)) ∧ EnC D y.was_ (clnE b) ∧ EnC D y.add_ (clnE db) ∧ EnC D y.is_ (clnE (b ++ db))) → K x y (partsE a da b db) D) :
 Qb7 C sa sda sb sdb K H := by
 apply Qi5
 unfold QfL
 intro b1 n1 b3 n3
 have ne : b3 ≠ b1 := fun e => by rw [e, Heap.put_same] at n3; cases n3
 have n3' : H b3 = none := by rw [Heap.put_ne _ _ _ ne] at n3; exact n3
 have l1 := Heap.le_put n1 (g := .row (Qe.c Qe.zero)) (m := true)
 have l3 := Heap.le_put n3 (g := .row (Qe.c Qe.zero)) (m := true)
 have c1 : ((H.put b1 (.row (Qe.c Qe.zero))).put b3 (.row (Qe.c Qe.zero))) b1 = some (true, .row [slv Sl.nil, slv Sl.nil, slv Sl.nil]) := by rw [Heap.put_ne _ _ _ ne.symm, Heap.put_same]; rfl
 have c3 : ((H.put b1 (.row (Qe.c Qe.zero))).put b3 (.row (Qe.c Qe.zero))) b3 = some (true, .row [slv Sl.nil, slv Sl.nil, slv Sl.nil]) := by rw [Heap.put_same]; rfl
 have hP0 : PI H ((H.put b1 (.row (Qe.c Qe.zero))).put b3 (.row (Qe.c Qe.zero))) b1 b3 Sl.nil Sl.nil Sl.nil Sl.nil Sl.nil Sl.nil := ⟨l1.trans l3, n1, n3', c1, c3⟩
 generalize (H.put b1 (.row (Qe.c Qe.zero))).put b3 (.row (Qe.c Qe.zero)) = H4 at *
 intro b5 n5
 have hH5 := hP0.le.none n5
 have q1 := Qa5 n5 c1
 have q3 := Qa5 n5 c3
 have key : ∀ cs : List Value, cs = (tfs sa sda sb sdb b1 b3).flatMap Qd.c → PI (H.put b5 (.row cs)) (H4.put b5 (.row cs)) b1 b3 Sl.nil Sl.nil Sl.nil Sl.nil Sl.nil Sl.nil ∧ PJ H (H.put b5 (.row cs)) b5 sa sda sb sdb b1 b3 a da b db 0 Sl.nil Sl.nil Sl.nil Sl.nil := fun cs hcs => by
  subst hcs
  refine ⟨⟨fun x e hx => ?_, by rw [Heap.put_ne _ _ _ q1]; exact n1, by rw [Heap.put_ne _ _ _ q3]; exact n3', by rw [Heap.put_ne _ _ _ q1]; exact c1, by rw [Heap.put_ne _ _ _ q3]; exact c3⟩, ⟨Heap.le_put hH5, ?_, fun h => by omega, fun h => by omega, fun h => by omega, fun h => by omega⟩⟩
  ·by_cases hx5 : x = b5
   ·subst hx5; rw [Heap.put_same] at hx ⊢; exact hx
   ·rw [Heap.put_ne _ _ _ hx5] at hx ⊢; exact hP0.le _ _ hx
  ·exact ⟨tfs sa sda sb sdb b1 b3, .inr ⟨rfl, _, rfl, Qaf (Heap.put_same ..) fun j v hj => by rw [Nat.zero_add]; exact hj⟩, rfl, rfl, by show 4 ≤ _; omega, fun i v x hv hx => by rw [hv] at hx; injection hx with hx; exact hx.symm⟩
 obtain ⟨hP, hJ⟩ := key _ (by rfl)
 refine ⟨fun x D => ∃ (i : Nat) (E : Heap) (w1 a1 w2 a2 : Sl), x = (i : Int) ∧ i ≤ 4 ∧ PI E D b1 b3 w1 a1 Sl.nil w2 a2 Sl.nil ∧ PJ H E b5 sa sda sb sdb b1 b3 a da b db i w1 a1 w2 a2, fun x _ => 4 - x.toNat, ⟨0, _, _, _, _, _, rfl, by omega, hP, hJ⟩, ?_⟩
 clear hP hJ key hP0
 rintro _ D ⟨i, E, w1, a1, w2, a2, rfl, hi, hP, hJ⟩
 have hAE := hA.trans hJ.le
 refine ift.of (fun hc => ?_) (fun hc => ?_)
 ·have hlt : i < 4 := by have : (i : Int) < 4 := of_decide_eq_true hc; omega
  refine SlIs.ld hJ.arr hP.le (z := 2) (fun _ => rfl) (by omega) rfl hlt fun x hx => ?_
  subst hx
  intro b18 n18
  refine nwT rfl ?_
  have lb := Heap.le_put n18 (g := .row (Qd.c (tfs sa sda sb sdb b1 b3)[i])) (m := true)
  have p1 := Qa5 n18 hP.c1
  have p3 := Qa5 n18 hP.c3
  have nE := hP.le.none n18
  have lE := Heap.le_put nE (g := .row (Qd.c (tfs sa sda sb sdb b1 b3)[i])) (m := true)
  have hP8 : PI (E.put b18 (.row (Qd.c (tfs sa sda sb sdb b1 b3)[i]))) (D.put b18 (.row (Qd.c (tfs sa sda sb sdb b1 b3)[i]))) b1 b3 w1 a1 Sl.nil w2 a2 Sl.nil := ⟨fun x e hx => by
   by_cases hx5 : x = b18
   ·subst hx5; rw [Heap.put_same] at hx ⊢; exact hx
   ·rw [Heap.put_ne _ _ _ hx5] at hx ⊢; exact hP.le _ _ hx, by rw [Heap.put_ne _ _ _ p1]; exact hP.n1, by rw [Heap.put_ne _ _ _ p3]; exact hP.n3, lb _ _ hP.c1, lb _ _ hP.c3⟩
  have c18 : (E.put b18 (.row (Qd.c (tfs sa sda sb sdb b1 b3)[i]))) b18 = some (true, .row (Qd.c (tfs sa sda sb sdb b1 b3)[i])) := Heap.put_same ..
  have hJ8 := hJ.up lE
  have hAE8 := hAE.trans lE
  show dr (D.put b18 (.row (Qd.c (tfs sa sda sb sdb b1 b3)[i]))) _
  generalize E.put b18 (.row (Qd.c (tfs sa sda sb sdb b1 b3)[i])) = E8 at *
  generalize D.put b18 (.row (Qd.c (tfs sa sda sb sdb b1 b3)[i])) = D8 at *
  have w : w .i64 ((i : Int) + 1) = ((i + 1 : Nat) : Int) := by rw [Qq (by omega) (by omega)]; omega
  rw [w]
  refine ⟨E8, hP8.le, ?_⟩
  rcases (by omega : i = 0 ∨ i = 1 ∨ i = 2 ∨ i = 3) with rfl | rfl | rfl | rfl
  ·refine fP c18 (t := some (b1, 0)) rfl (fL c18 (t := sa) rfl (Qia hP8 (ha.le hAE8) za fun r E2 H30 l2 l30 hP2 hr => ⟨hP8.le.trans l30, _, rfl, _, hP2.c1, by show 0 < 3; omega, Qn (hP8.le.trans l30) hP8.n1, ?_⟩))
   have hP3 := hP2.set1 (w := r) (a := a1) (i := Sl.nil) ne
   refine ift.of (fun he => ?_) (fun he => ⟨⟨1, E2, r, a1, w2, a2, rfl, by omega, hP3, { (hJ8.up l2) with e0 := fun _ => ⟨eq0 he, hr⟩, e1 := fun h => by omega, e2 := fun h => by omega, e3 := fun h => by omega }⟩, by dsimp only; omega⟩)
   have hp : partsE a da b db = errE a := by unfold partsE; rw [if_pos (ne0 he)]
   have := k (⟨r, a1, Sl.nil⟩ : Qe) (⟨w2, a2, Sl.nil⟩ : Qe) _ ((hJ8.up l2).le.trans hP3.le) fun h0 => absurd (hp.symm.trans h0) (ne0 he)
   rw [hp] at this
   exact tell3 hP3 this
  ·refine fP c18 (t := some (b1, 1)) rfl (fL c18 (t := sda) rfl (Qia hP8 (hda.le hAE8) zda fun r E2 H30 l2 l30 hP2 hr => ⟨hP8.le.trans l30, _, rfl, _, hP2.c1, by show 1 < 3; omega, Qn (hP8.le.trans l30) hP8.n1, ?_⟩))
   have hP3 := hP2.set1 (w := w1) (a := r) (i := Sl.nil) ne
   have hJ2 := hJ8.up l2
   refine ift.of (fun he => ?_) (fun he => ⟨⟨2, E2, w1, r, w2, a2, rfl, by omega, hP3, { hJ2 with e0 := fun _ => hJ2.e0 (by omega), e1 := fun _ => ⟨eq0 he, hr⟩, e2 := fun h => by omega, e3 := fun h => by omega }⟩, by dsimp only; omega⟩)
   have f0 := (hJ2.e0 (by omega)).1
   have hp : partsE a da b db = errE da := by unfold partsE; rw [if_neg (by simpa using f0), if_pos (ne0 he)]
   have := k (⟨w1, r, Sl.nil⟩ : Qe) (⟨w2, a2, Sl.nil⟩ : Qe) _ (hJ2.le.trans hP3.le) fun h0 => absurd (hp.symm.trans h0) (ne0 he)
   rw [hp] at this
   exact tell3 hP3 this
  ·refine fP c18 (t := some (b3, 0)) rfl (fL c18 (t := sb) rfl (Qia hP8 (hb.le hAE8) zb fun r E2 H30 l2 l30 hP2 hr => ⟨hP8.le.trans l30, _, rfl, _, hP2.c3, by show 0 < 3; omega, Qn (hP8.le.trans l30) hP8.n3, ?_⟩))
   have hP3 := hP2.set3 (w := r) (a := a2) (i := Sl.nil) ne
   have hJ2 := hJ8.up l2
   refine ift.of (fun he => ?_) (fun he => ⟨⟨3, E2, w1, a1, r, a2, rfl, by omega, hP3, { hJ2 with e0 := fun _ => hJ2.e0 (by omega), e1 := fun _ => hJ2.e1 (by omega), e2 := fun _ => ⟨eq0 he, hr⟩, e3 := fun h => by omega }⟩, by dsimp only; omega⟩)
   have f0 := (hJ2.e0 (by omega)).1
   have f1 := (hJ2.e1 (by omega)).1
   have hp : partsE a da b db = errE b := by unfold partsE; rw [if_neg (by simpa using f0), if_neg (by simpa using f1), if_pos (ne0 he)]
   have := k (⟨w1, a1, Sl.nil⟩ : Qe) (⟨r, a2, Sl.nil⟩ : Qe) _ (hJ2.le.trans hP3.le) fun h0 => absurd (hp.symm.trans h0) (ne0 he)
   rw [hp] at this
   exact tell3 hP3 this
  ·refine fP c18 (t := some (b3, 1)) rfl (fL c18 (t := sdb) rfl (Qia hP8 (hdb.le hAE8) zdb fun r E2 H30 l2 l30 hP2 hr => ⟨hP8.le.trans l30, _, rfl, _, hP2.c3, by show 1 < 3; omega, Qn (hP8.le.trans l30) hP8.n3, ?_⟩))
   have hP3 := hP2.set3 (w := w2) (a := r) (i := Sl.nil) ne
   have hJ2 := hJ8.up l2
   refine ift.of (fun he => ?_) (fun he => ⟨⟨4, E2, w1, a1, w2, r, rfl, by omega, hP3, { hJ2 with e0 := fun _ => hJ2.e0 (by omega), e1 := fun _ => hJ2.e1 (by omega), e2 := fun _ => hJ2.e2 (by omega), e3 := fun _ => ⟨eq0 he, hr⟩ }⟩, by dsimp only; omega⟩)
   have f0 := (hJ2.e0 (by omega)).1
   have f1 := (hJ2.e1 (by omega)).1
   have f2 := (hJ2.e2 (by omega)).1
   have hp : partsE a da b db = errE db := by unfold partsE; rw [if_neg (by simpa using f0), if_neg (by simpa using f1), if_neg (by simpa using f2), if_pos (ne0 he)]
   have := k (⟨w1, a1, Sl.nil⟩ : Qe) (⟨w2, r, Sl.nil⟩ : Qe) _ (hJ2.le.trans hP3.le) fun h0 => absurd (hp.symm.trans h0) (ne0 he)
   rw [hp] at this
   exact tell3 hP3 this
 ·have hie : i = 4 := by have : ¬ (i : Int) < 4 := of_decide_eq_false hc; omega
  subst hie
  obtain ⟨f0, h0⟩ := hJ.e0 (by omega)
  obtain ⟨f1, h1⟩ := hJ.e1 (by omega)
  obtain ⟨f2, h2⟩ := hJ.e2 (by omega)
  obtain ⟨f3, h3⟩ := hJ.e3 (by omega)
  refine QoX hP (ha.le hAE) (hda.le hAE) za zda fun r E2 H48 l2 l48 hP2 hr => ?_
  have hJ2 := hJ.up l2
  have hP3 := hP2.set1 (w := w1) (a := a1) (i := r) ne
  refine ⟨_, hP2.c1, by show 0 + 2 < 3; omega, ?_⟩
  have hp0 : ∀ X : Int, partsE a da b db = if errE (a ++ da) ≠ 0 then errE (a ++ da) else errE (b ++ db) := fun _ => by
   unfold partsE; rw [if_neg (by simpa using f0), if_neg (by simpa using f1), if_neg (by simpa using f2), if_neg (by simpa using f3)]
  refine ift.of (fun he => ?_) (fun he => ?_)
  ·have hp : partsE a da b db = errE (a ++ da) := by rw [hp0 0, if_pos (ne0 he)]
   have := k (⟨w1, a1, r⟩ : Qe) (⟨w2, a2, Sl.nil⟩ : Qe) _ (hJ2.le.trans hP3.le) fun h0 => absurd (hp.symm.trans h0) (ne0 he)
   rw [hp] at this
   exact tell3 hP3 this
  refine QoX hP3 (hb.le (hAE.trans l2)) (hdb.le (hAE.trans l2)) zb zdb fun r2 E3 H63 l3 l63 hP4 hr2 => ?_
  have hP5 := hP4.set3 (w := w2) (a := a2) (i := r2) ne
  refine ⟨_, hP4.c3, by show 0 + 2 < 3; omega, ?_⟩
  have hp : partsE a da b db = errE (b ++ db) := by rw [hp0 0, if_neg (by simpa using eq0 he)]
  have l5 := hP5.le
  have := k (⟨w1, a1, r⟩ : Qe) (⟨w2, a2, r2⟩ : Qe) _ ((hJ2.le.trans l3).trans l5) fun h0' => ⟨(h0.le (l2.trans l3)).le l5, (h1.le (l2.trans l3)).le l5, (hr.le l3).le l5, (h2.le (l2.trans l3)).le l5, (h3.le (l2.trans l3)).le l5, hr2.le l5⟩
  rw [hp] at this
  exact tell3 hP5 this
end
end
section
open Go Go.Proofs
noncomputable def joinP (on : List Pr) (a b : List En) : List En := pairE on (clnE a) (clnE b)
noncomputable def antiP (on : List Pr) (a b : List En) : List En := noneE on (clnE a) (posE (clnE b))
noncomputable def err2 (a b : List En) (e : Int) : Int := if errE a ≠ 0 then errE a else if errE b ≠ 0 then errE b else e
noncomputable def joinR (on : List Pr) (a b : List En) : Int := err2 a b (errE (joinP on a b))
noncomputable def joinL (on : List Pr) (a b : List En) : List En := if errE a ≠ 0 ∨ errE b ≠ 0 then [] else clnE (joinP on a b)
noncomputable def antiR (a b : List En) : Int := err2 a b 0
noncomputable def antiL (on : List Pr) (a b : List En) : List En := if errE a ≠ 0 ∨ errE b ≠ 0 then [] else antiP on a b
theorem Qlb (on : List Pr) (a b : List En) : errE (antiP on a b) = 0 ∧ clnE (antiP on a b) = antiP on a b := Qpr (List.filter_sublist ..)
noncomputable def jcR (on : List Pr) (a da b db : List En) : Int :=
 if partsE a da b db ≠ 0 then partsE a da b db else if errE (joinP on a b) ≠ 0 then errE (joinP on a b) else if errE (joinP on (a ++ da) (b ++ db)) ≠ 0 then errE (joinP on (a ++ da) (b ++ db)) else
  errE (clnE (joinP on (a ++ da) (b ++ db)) ++ negL (clnE (joinP on a b)))
noncomputable def jcL (on : List Pr) (a da b db : List En) : List En :=
 if partsE a da b db ≠ 0 ∨ errE (joinP on a b) ≠ 0 ∨ errE (joinP on (a ++ da) (b ++ db)) ≠ 0 then [] else clnE (clnE (joinP on (a ++ da) (b ++ db)) ++ negL (clnE (joinP on a b)))
noncomputable def acW (on : List Pr) (a da b db : List En) : List En := antiP on (a ++ da) (b ++ db) ++ negL (antiP on a b)
noncomputable def acR (on : List Pr) (a da b db : List En) : Int := if partsE a da b db ≠ 0 then partsE a da b db else errE (acW on a da b db)
noncomputable def acL (on : List Pr) (a da b db : List En) : List En := if partsE a da b db ≠ 0 then [] else clnE (acW on a da b db)
/-- what is there and was not, and the other way about -/
noncomputable def chgE (a da : List En) : List En := (clnE da).flatMap fun y =>
 if decide (totE a y.1 + y.2 > 0) && !(decide (totE a y.1 > 0)) then [(y.1, 1)] else if decide (totE a y.1 > 0) && !(decide (totE a y.1 + y.2 > 0)) then [(y.1, -1)] else []
noncomputable def dcR (a da : List En) : Int := if partsE a da [] [] ≠ 0 then partsE a da [] [] else errE (chgE a da)
noncomputable def dcL (a da : List En) : List En := if partsE a da [] [] ≠ 0 then [] else clnE (chgE a da)
theorem Qfx {l : List En} (h : Sz 500 500 l) : ∀ x ∈ l, vsizes x.1 ≤ 1000000 := fun x hx => by have := h.2 x hx; omega
theorem QiD {A : Heap} {s : Sl} {l : List En} (h : EnL A s l) : ∀ e ∈ clnE l, okE e := Qc8 h.oks
theorem Qnd {l : List En} (h : Sz 500 500 l) : ∀ e ∈ clnE l, mayR e.1 = true ∧ vsizes e.1 ≤ 1000 := fun e he => ⟨(QcM e he).1, by have := h.cln.2 e he; omega⟩
theorem Qqn {l : List En} (h : Sz 500 500 l) : ∀ e ∈ posE (clnE l), mayR e.1 = true ∧ vsizes e.1 ≤ 1000 := fun e he => by
 refine ⟨?_, by have := h.cln.pos.2 e he; omega⟩
 obtain ⟨x, hx, rfl⟩ := List.mem_map.1 he
 exact (QcM x (List.mem_filter.1 hx).1).1
theorem QlV {l : List En} (h : ∀ e ∈ l, okE e) : ∀ e ∈ posE l, okE e := fun e he => by
 obtain ⟨x, hx, rfl⟩ := List.mem_map.1 he
 have := h x (List.mem_filter.1 hx).1
 exact ⟨this.1, this.2.1, by dsimp only; omega, by dsimp only; omega⟩
section
variable {C : Ctx} {H A : Heap}
theorem QgF {D : Heap} (h : H.le D) : OgE H D [] Sl.nil [] := OgE.nil.up h
theorem nz2 {z z' cx cy : List Value} {K : Nat → Nat → Heap → Prop} (hx : cx.length = z.length) (hy : cy.length = z'.length)
 (k : ∀ b1 b2 E, H.le E → E b1 = some (true, .row cx) → E b2 = some (true, .row cy) → K b1 b2 E) :
 nw z (fun b1 H1 => nw z' (fun b2 H2 => stT (b1, 0) cx (fun H3 => stT (b2, 0) cy (fun H4 => K b1 b2 H4) H3) H2) H1) H := by
 intro b1 n1 b2 n2
 obtain ⟨_, h1⟩ := nw2 (D := H) (z := z) (z' := z') hx hy k b1 n1
 obtain ⟨_, c, h2, h3, h4⟩ := h1 b2 n2
 exact ⟨c, h2, h3, h4.2⟩
theorem Qpj (hF : FmtC C) {on : List Pr} {sa sb sn : Sl} {a b : List En} {K : Sl → Int → Heap → Prop} (ha : EnL A sa a) (hb : EnL A sb b) (hp : PrL A sn on) (hA : A.le H) (za : Sz 500 500 a) (zb : Sz 500 500 b) (hon : on.length ≤ 1000)
 (k : ∀ r ys D, OgE H D (joinL on a b) r ys → K r (joinR on a b) D) : QeX C sa sb sn K H := by
 apply QjZ
 unfold Qg0
 have hza := za.1
 have hzb := zb.1
 refine pCleanF (ha.le hA) (by omega) (Qfx za) fun r1 y1 H3 g1 => ?_
 refine ift.of (fun he => ?_) (fun he => ?_)
 ·have := k Sl.nil [] H3 (by unfold joinL; rw [if_pos (.inl (ne0 he))]; exact QgF g1.own.le)
  have e : joinR on a b = errE a := by unfold joinR err2; rw [if_pos (ne0 he)]
  rw [e] at this; exact this
 have h3 := g1.own.le
 refine pCleanF (hb.le (hA.trans h3)) (by omega) (Qfx zb) fun r5 y5 H7 g2 => ?_
 have h7 := h3.trans g2.own.le
 refine ift.of (fun he2 => ?_) (fun he2 => ?_)
 ·have := k Sl.nil [] H7 (by unfold joinL; rw [if_pos (.inr (ne0 he2))]; exact QgF h7)
  have e : joinR on a b = errE b := by unfold joinR err2; rw [if_neg (by simpa using eq0 he), if_pos (ne0 he2)]
  rw [e] at this; exact this
 have l1 := Qe1 a
 have l2 := Qe1 b
 have hP := za.cln.pair (on := on) zb.cln
 refine QlU hF ((g1.enC (QiD ha) (by omega)).le g2.own.le) (g2.en (QiD hb) (by omega)) (hp.le (hA.trans h7)) (Heap.le.refl _) (by omega) (by omega) hon (Qnd za) (Qnd zb) Qcp Qcp fun r9 D h9 e9 => ?_
 refine pCleanF e9 (Nat.le_trans hP.1 (by omega)) (fun x hx => by have := hP.2 x hx; omega) fun r ys D2 g => ?_
 have := k r ys D2 (by unfold joinL; rw [if_neg (by rintro (h | h); exact h (eq0 he); exact h (eq0 he2))]; exact g.down (h7.trans h9))
 have e : joinR on a b = errE (joinP on a b) := by unfold joinR err2; rw [if_neg (by simpa using eq0 he), if_neg (by simpa using eq0 he2)]
 rw [e] at this; exact this
theorem Qph (hF : FmtC C) {on : List Pr} {sa sb sn : Sl} {a b : List En} {K : Sl → Int → Heap → Prop} (ha : EnL A sa a) (hb : EnL A sb b) (hp : PrL A sn on) (hA : A.le H) (za : Sz 500 500 a) (zb : Sz 500 500 b) (hon : on.length ≤ 1000)
 (k : ∀ r ys D, OgE H D (antiL on a b) r ys → K r (antiR a b) D) : QeW C sa sb sn K H := by
 apply QjY
 unfold QgZ
 have hza := za.1
 have hzb := zb.1
 refine pCleanF (ha.le hA) (by omega) (Qfx za) fun r1 y1 H3 g1 => ?_
 refine ift.of (fun he => ?_) (fun he => ?_)
 ·have := k Sl.nil [] H3 (by unfold antiL; rw [if_pos (.inl (ne0 he))]; exact QgF g1.own.le)
  have e : antiR a b = errE a := by unfold antiR err2; rw [if_pos (ne0 he)]
  rw [e] at this; exact this
 have h3 := g1.own.le
 refine pDistF (hb.le (hA.trans h3)) (by omega) (Qfx zb) fun r5 y5 H7 g2 => ?_
 have h7 := h3.trans g2.own.le
 refine ift.of (fun he2 => ?_) (fun he2 => ?_)
 ·have := k Sl.nil [] H7 (by unfold antiL; rw [if_pos (.inr (ne0 he2))]; exact QgF h7)
  have e : antiR a b = errE b := by unfold antiR err2; rw [if_neg (by simpa using eq0 he), if_pos (ne0 he2)]
  rw [e] at this; exact this
 have l1 := Qe1 a
 have l2 := zb.cln.pos.1
 refine QpF hF ((g1.en (QiD ha) (by omega)).le g2.own.le) (g2.en (QlV (QiD hb)) (by omega)) (hp.le (hA.trans h7)) (Heap.le.refl _) (by omega) (by omega) hon (Qnd za) (Qqn zb) fun r9 D h9 e9 => ?_
 have zn := za.cln.none (on := on) (b := posE (clnE b))
 refine pCleanF e9 (by have := zn.1; omega) (fun x hx => by have := zn.2 x hx; omega) fun r ys D2 g => ?_
 obtain ⟨s1, s2⟩ := Qlb on a b
 have s1' : errE (noneE on (clnE a) (posE (clnE b))) = 0 := s1
 have s2' : clnE (noneE on (clnE a) (posE (clnE b))) = antiP on a b := s2
 rw [s2'] at g
 rw [s1']
 have := k r ys D2 (by unfold antiL; rw [if_neg (by rintro (h | h); exact h (eq0 he); exact h (eq0 he2))]; exact g.down (h7.trans h9))
 have e : antiR a b = 0 := by unfold antiR err2; rw [if_neg (by simpa using eq0 he), if_neg (by simpa using eq0 he2)]
 rw [e] at this; exact this
theorem Qgp (hF : FmtC C) {on : List Pr} {sa sda sb sdb sn : Sl} {a da b db : List En} {K : Sl → Int → Heap → Prop} (ha : EnL A sa a) (hda : EnL A sda da) (hb : EnL A sb b) (hdb : EnL A sdb db) (hp : PrL A sn on) (hA : A.le H)
 (za : Sz 250 250 a) (zda : Sz 250 250 da) (zb : Sz 250 250 b) (zdb : Sz 250 250 db) (hon : on.length ≤ 1000)
 (k : ∀ r ys D, OgE H D (jcL on a da b db) r ys → K r (jcR on a da b db) D) : Qbc C sa sda sb sdb sn K H := by
 apply Qf9
 unfold Qdk
 have u : ∀ {l : List En}, Sz 250 250 l → Sz 1000 1000 l := fun h => h.up (by omega) (by omega)
 refine QkL ha hda hb hdb hA (u za) (u zda) (u zb) (u zdb) fun x y D hD hxy => ?_
 refine nz2 rfl rfl fun b5 b7 E hE c5 c7 => ?_
 have hHE := hD.trans hE
 refine ift.of (fun he => ?_) (fun he => ?_)
 ·have := k Sl.nil [] E (by unfold jcL; rw [if_pos (.inl (ne0 he))]; exact QgF hHE)
  have e : jcR on a da b db = partsE a da b db := by unfold jcR; rw [if_pos (ne0 he)]
  rw [e] at this; exact this
 have hp0 := eq0 he
 obtain ⟨x1, x2, x3, y1, y2, y3⟩ := hxy hp0
 have w1 : Sz 500 500 (clnE a) := za.cln.up (by omega) (by omega)
 have w2 : Sz 500 500 (clnE b) := zb.cln.up (by omega) (by omega)
 have i1 : Sz 500 500 (clnE (a ++ da)) := (za.app zda).cln.up (by omega) (by omega)
 have i2 : Sz 500 500 (clnE (b ++ db)) := (zb.app zdb).cln.up (by omega) (by omega)
 have ms : ∀ {l : List En}, Sz 500 500 (clnE l) → ∀ e ∈ clnE l, mayR e.1 = true ∧ vsizes e.1 ≤ 1000 := fun h e he => ⟨(QcM e he).1, by have := h.2 e he; omega⟩
 have zw : Sz 250000 1000 (joinP on a b) := (w1.pair (on := on) w2).up (by omega) (by omega)
 have zi : Sz 250000 1000 (joinP on (a ++ da) (b ++ db)) := (i1.pair (on := on) i2).up (by omega) (by omega)
 refine fL c5 (t := x.was_) rfl (fL c7 (t := y.was_) rfl ?_)
 refine QlU hF (x1.le hE) (y1.en.le hE) (hp.le (hA.trans hHE)) (Heap.le.refl _) (by have := w1.1; omega) (by have := w2.1; omega) hon (ms w1) (ms w2) Qcp Qcp fun r16 H17 l17 e16 => ?_
 refine pCleanF e16 (by have := zw.1; show (joinP on a b).length ≤ _; omega) (fun z hz => by have := zw.2 z hz; omega) fun r18 y18 H20 g18 => ?_
 have l20 := l17.trans g18.own.le
 refine ift.of (fun he2 => ?_) (fun he2 => ?_)
 ·have hn : errE (joinP on a b) ≠ 0 := ne0 he2
  have := k Sl.nil [] H20 (by unfold jcL; rw [if_pos (.inr (.inl hn))]; exact QgF (hHE.trans l20))
  have e : jcR on a da b db = errE (joinP on a b) := by unfold jcR; rw [if_neg (by simpa using hp0), if_pos hn]
  rw [e] at this; exact this
 have hw0 : errE (joinP on a b) = 0 := eq0 he2
 refine fL (l20 _ _ c5) (t := x.is_) rfl (fL (l20 _ _ c7) (t := y.is_) rfl ?_)
 refine QlU hF ((x3.le hE).le l20) ((y3.en.le hE).le l20) (hp.le (hA.trans (hHE.trans l20))) (Heap.le.refl _) (by have := i1.1; omega) (by have := i2.1; omega) hon (ms i1) (ms i2) Qcp Qcp fun r26 H27 l27 e26 => ?_
 refine pCleanF e26 (by have := zi.1; show (joinP on (a ++ da) (b ++ db)).length ≤ _; omega) (fun z hz => by have := zi.2 z hz; omega) fun r28 y28 H30 g28 => ?_
 have l30 := l27.trans g28.own.le
 refine ift.of (fun he3 => ?_) (fun he3 => ?_)
 ·have hn : errE (joinP on (a ++ da) (b ++ db)) ≠ 0 := ne0 he3
  have := k Sl.nil [] H30 (by unfold jcL; rw [if_pos (.inr (.inr hn))]; exact QgF (hHE.trans (l20.trans l30)))
  have e : jcR on a da b db = errE (joinP on (a ++ da) (b ++ db)) := by unfold jcR; rw [if_neg (by simpa using hp0), if_neg (by simpa using hw0), if_pos hn]
  rw [e] at this; exact this
 have hi0 : errE (joinP on (a ++ da) (b ++ db)) = 0 := eq0 he3
 have k1 := zw.cln.1
 have k2 := zi.cln.1
 have e18 := (g18.en (Qc8 e16.oks) (show (clnE (joinP on a b)).length ≤ _ by omega)).le l30
 have e28 := g28.en (Qc8 e26.oks) (show (clnE (joinP on (a ++ da) (b ++ db))).length ≤ _ by omega)
 refine pLessF e28 e18 (show (clnE (joinP on (a ++ da) (b ++ db))).length + (clnE (joinP on a b)).length ≤ _ by omega) (fun z hz => ?_) Qcp fun r ys D2 g => ?_
 ·rcases List.mem_append.1 hz with hz | hz
  ·have := zi.cln.2 z hz; omega
  ·have := zw.cln.2 z hz; omega
 have := k r ys D2 (by
  unfold jcL
  rw [if_neg (by rintro (h | h | h); exact h hp0; exact h hw0; exact h hi0)]
  exact g.down (hHE.trans (l20.trans l30)))
 have e : jcR on a da b db = errE (clnE (joinP on (a ++ da) (b ++ db)) ++ negL (clnE (joinP on a b))) := by unfold jcR; rw [if_neg (by simpa using hp0), if_neg (by simpa using hw0), if_neg (by simpa using hi0)]
 rw [e] at this; exact this
end
end
section
open Go Go.Proofs
def encI (x : Int) : Value := .int .i64 x
theorem Qne {l : List En} {r : List V} (h : errE l = 0) (hn : ∀ e ∈ clnE l, e.1 ≠ r) : totE l r = 0 := by
 rw [← Qps h]; exact Qab hn
section
variable {C : Ctx} {H A : Heap}
theorem Qgo (hF : FmtC C) {on : List Pr} {sa sda sb sdb sn : Sl} {a da b db : List En} {K : Sl → Int → Heap → Prop} (ha : EnL A sa a) (hda : EnL A sda da) (hb : EnL A sb b) (hdb : EnL A sdb db) (hp : PrL A sn on) (hA : A.le H)
 (za : Sz 250 250 a) (zda : Sz 250 250 da) (zb : Sz 250 250 b) (zdb : Sz 250 250 db) (hon : on.length ≤ 1000)
 (k : ∀ r ys D, OgE H D (acL on a da b db) r ys → K r (acR on a da b db) D) : Qbb C sa sda sb sdb sn K H := by
 apply Qf8
 unfold Qdj
 have u : ∀ {l : List En}, Sz 250 250 l → Sz 1000 1000 l := fun h => h.up (by omega) (by omega)
 refine QkL ha hda hb hdb hA (u za) (u zda) (u zb) (u zdb) fun x y D hD hxy => ?_
 refine nz2 rfl rfl fun b5 b7 E hE c5 c7 => ?_
 have hHE := hD.trans hE
 refine ift.of (fun he => ?_) (fun he => ?_)
 ·have := k Sl.nil [] E (by unfold acL; rw [if_pos (ne0 he)]; exact QgF hHE)
  have e : acR on a da b db = partsE a da b db := by unfold acR; rw [if_pos (ne0 he)]
  rw [e] at this; exact this
 have hp0 := eq0 he
 obtain ⟨x1, x2, x3, y1, y2, y3⟩ := hxy hp0
 have w1 : Sz 500 500 (clnE a) := za.cln.up (by omega) (by omega)
 have w2 : Sz 500 500 (clnE b) := zb.cln.up (by omega) (by omega)
 have i1 : Sz 500 500 (clnE (a ++ da)) := (za.app zda).cln.up (by omega) (by omega)
 have i2 : Sz 500 500 (clnE (b ++ db)) := (zb.app zdb).cln.up (by omega) (by omega)
 have ms : ∀ {l : List En}, Sz 500 500 (clnE l) → ∀ e ∈ clnE l, mayR e.1 = true ∧ vsizes e.1 ≤ 1000 := fun h e he => ⟨(QcM e he).1, by have := h.2 e he; omega⟩
 have mp : ∀ {l : List En}, Sz 500 500 (clnE l) → ∀ e ∈ posE (clnE l), mayR e.1 = true ∧ vsizes e.1 ≤ 1000 := fun h e he => by
  refine ⟨?_, by have := h.pos.2 e he; omega⟩
  obtain ⟨x, hx, rfl⟩ := List.mem_map.1 he
  exact (QcM x (List.mem_filter.1 hx).1).1
 refine fL c7 (t := y.was_) rfl ?_
 refine pDistF (y1.en.le hE) (by have := w2.1; omega) (Qfx w2) fun r14 y14 H16 g14 => ?_
 rw [(QbD b).1]
 rw [(QbD b).2] at g14
 refine Qt rfl ?_
 have l16 := g14.own.le
 refine fL (l16 _ _ c7) (t := y.is_) rfl ?_
 refine pDistF ((y3.en.le hE).le l16) (by have := i2.1; omega) (Qfx i2) fun r20 y20 H22 g20 => ?_
 rw [(QbD (b ++ db)).1]
 rw [(QbD (b ++ db)).2] at g20
 refine Qt rfl ?_
 have l22 := l16.trans g20.own.le
 have hb1 : ∀ e ∈ clnE b, okE e := QiD hb
 have hb2 : ∀ e ∈ clnE (b ++ db), okE e := Qc8 fun e he => by
  rcases List.mem_append.1 he with he | he
  ·exact hb.oks e he
  ·exact hdb.oks e he
 have e14 : EnL H22 r14 (posE (clnE b)) := (g14.en (QlV hb1) (by have := w2.pos.1; omega)).le g20.own.le
 have e20 : EnL H22 r20 (posE (clnE (b ++ db))) := g20.en (QlV hb2) (by have := i2.pos.1; omega)
 have ex3 : EnL H22 x.is_ (clnE (a ++ da)) := (x3.en.le hE).le l22
 have ex1 : EnL H22 x.was_ (clnE a) := (x1.en.le hE).le l22
 have hp22 := hp.le (hA.trans (hHE.trans l22))
 refine ⟨H22, Heap.le.refl _, fL (l22 _ _ c5) (t := x.is_) rfl (fL (l22 _ _ c5) (t := x.was_) rfl ?_)⟩
 refine QkB hF ex3 (Heap.le.refl _) e20 hp22 (Heap.le.refl _) (by have := i1.1; omega) (by have := i2.pos.1; omega) hon (ms i1) (mp i2) fun r31 ys31 H32 g31 => ⟨g31.own.le, ?_⟩
 refine QkB hF ex1 g31.own.le e14 hp22 g31.own.le (by have := w1.1; omega) (by have := w2.pos.1; omega) hon (ms w1) (mp w2) fun r34 ys34 H35 g34 => ⟨g31.own.le.trans g34.own.le, ?_⟩
 have n1 := i1.none (on := on) (b := posE (clnE (b ++ db)))
 have n2 := w1.none (on := on) (b := posE (clnE b))
 have rg2 : ∀ e ∈ noneE on (clnE a) (posE (clnE b)), -2147483647 ≤ e.2 ∧ e.2 ≤ 2147483647 := fun e he => Qcp e (List.mem_filter.1 he).1
 refine Qow (g34.sl (by have := n2.1; omega)) (Heap.le.refl _) (by have := n2.1; omega) rg2 fun r37 ys37 H38 g37 => ⟨g31.own.le.trans (g34.own.le.trans g37.own.le), ?_⟩
 have l38 := g34.own.le.trans g37.own.le
 have h22o := Heap.le_off (g31.own.le.trans l38) g31.own.fresh
 have s31 := g31.slen
 have s37 := g37.slen
 have len31 := g31.len
 have len37 := g37.len
 have k1 := n1.1
 have k2 := n2.neg.1
 refine Qdt (zc := Qa.c Qa.zero) ((g31.own.own.le l38).off) g37.own.own.rdsl (by rw [QO]; show _ = r37.len * 2; omega) Qnb (by omega) (by omega) fun r40 H41 q1 q2 => ?_
 have l41 := h22o.trans q1.le
 refine ⟨l41, ?_⟩
 have hW : EnL H41 r40 (acW on a da b db) := by
  have hw : ys31.flatMap Qa.c ++ ys37.flatMap Qa.c = (ys31 ++ ys37).flatMap Qa.c := by rw [List.flatMap_append]
  refine ⟨ys31 ++ ys37, by rw [← hw]; exact q1.own.rdsl, by rw [List.length_append]; omega, ?_, ?_, fun j e y' he hy => ?_⟩
  ·show (noneE on _ _ ++ negL (noneE on _ _)).length = _
   rw [List.length_append, List.length_append]; omega
  ·show (noneE on _ _ ++ negL (noneE on _ _)).length ≤ _
   rw [List.length_append]; omega
  ·have he : (noneE on (clnE (a ++ da)) (posE (clnE (b ++ db))) ++ negL (noneE on (clnE a) (posE (clnE b))))[j]? = some e := he
   by_cases hj : j < ys31.length
   ·rw [List.getElem?_append_left hj] at hy
    rw [List.getElem?_append_left (by omega)] at he
    exact (g31.done j e y' he hy).le l41
   ·rw [List.getElem?_append_right (by omega)] at hy
    rw [List.getElem?_append_right (by omega), ← len31] at he
    exact (g37.done _ e y' he hy).le l41
 have zW : Sz 1000 1000 (acW on a da b db) := (n1.app n2.neg).up (by omega) (by omega)
 refine pCleanF hW (by have := zW.1; omega) (fun z hz => by have := zW.2 z hz; omega) fun r ys D2 g => ⟨l41.trans g.own.le, ?_⟩
 have := k r ys D2 (by unfold acL; rw [if_neg (by simpa using hp0)]; exact g.down (hHE.trans (l22.trans l41)))
 have e : acR on a da b db = errE (acW on a da b db) := by unfold acR; rw [if_neg (by simpa using hp0)]
 rw [e] at this; exact this
end
end
end Sx
end
