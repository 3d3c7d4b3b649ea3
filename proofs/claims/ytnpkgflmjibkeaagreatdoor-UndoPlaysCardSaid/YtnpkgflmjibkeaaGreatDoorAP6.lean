/-
  Texts of this family, one behind the other: UdH, UdI, UdV, UdW, UdX, UdA, UdD, UdY, UdY2, UdZ, OpRPlays, RowIPlays.
-/
import Derived.Test.YtnpkgflmjibkeaaGreatDoorAP5
noncomputable section
set_option linter.unusedVariables false
set_option linter.unusedSimpArgs false
set_option maxRecDepth 10000
namespace Sx
section
open Go Go.Proofs
def vN (n : Int) : V := .mk 2 n [] []
theorem QnT (H : Heap) (n : Int) : VIs H (vN n) ⟨2, n, [], Sl.nil⟩ := ⟨rfl, rfl, rfl, [], .inl rfl, rfl, trivial⟩
/-- changes in memory -/
def CgR (A : Heap) (v : Cg) (x : Qc) : Prop := x.Row.Rel = v.1.1 ∧ VRow A x.Row.L v.1.2 ∧ x.N = v.2
def NChs (A : Heap) (s : Sl) (D : List Cg) : Prop := SlIs (CgR A) Qc.c A s D
section
variable {C : Ctx} {o o2 : Own_} {A B H H2 E : Heap} {x n N : Nat} {s t : Sl} {S S0 : Sta} {a : Nat → Sta} {D : List Cg}
theorem SinceIs.chs {ws : List (Qc × NR)} (h : SinceIs H H2 S0 S s ws) (hl : ws.length ≤ 1000000) : NChs (Heap.new H H2) s (ws.map fun z => (z.2, z.1.N)) := by
 have hx := h.og.own.own.1
 rw [Qhb] at hx
 refine ⟨ws.map fun z => z.1, ?_, by rw [List.length_map]; omega, by simp, by simp; omega, fun i v y hv hy => ?_⟩
 ·rw [List.flatMap_map]; exact h.og.own.new.rdsl
 ·rw [List.getElem?_map] at hv hy
  cases hc : ws[i]? with
  | none => rw [hc] at hv; cases hv
  | some z =>
   rw [hc] at hv hy
   simp only [Option.map_some, Option.some.injEq] at hv hy
   subst hv; subst hy
   obtain ⟨q1, q2⟩ := h.og.done z (List.mem_of_getElem? hc)
   exact ⟨q2, q1.row.le (QdN (Heap.le.refl _) (Heap.off_le _ _)), rfl⟩
theorem QeM {K : Bool → Heap → Prop} (hs : NChs A s D) (ht : NChs B t D) (hA : A.le H) (hB : B.le H) (hb : ∀ z ∈ D, VBs z.1.2 ∧ z.1.2.length ≤ 140737488355328) (k : K true H) : QO C s t K H := by
 apply QeW
 unfold Qci
 have l1 := SlIs.len hs
 have l2 := SlIs.len ht
 have hbd := SlIs.bd hs
 refine Qi (by rw [l1, l2]; simp) ?_
 refine ⟨fun y E => E = H ∧ ∃ i : Nat, y = (i : Int) ∧ i ≤ D.length, fun y _ => D.length - y.toNat, ⟨rfl, 0, rfl, Nat.zero_le _⟩, ?_⟩
 rintro _ E ⟨rfl, i, rfl, hi⟩
 rw [l1]
 refine ift.of (fun h => ?_) (fun h => k)
 have hlt : i < D.length := by have := of_decide_eq_true h; omega
 refine ⟨fun b D2 => D2 = E ∧ b = false, ?_, ?_⟩
 ·refine ⟨E, Heap.le.refl _, ?_⟩
  refine SlIs.fI hs hA (z := 3) (fun _ => rfl) (by omega) rfl hlt (j := 2) (q := .i64) (f := fun x => x.N) (fun _ => rfl) fun y hy => ?_
  refine SlIs.fI ht hB (z := 3) (fun _ => rfl) (by omega) rfl hlt (j := 2) (q := .i64) (f := fun x => x.N) (fun _ => rfl) fun z hz => ?_
  rw [hy.2.2, hz.2.2]
  refine Qi (by simp) ?_
  refine SlIs.at_ hs hA (z := 3) (fun _ => rfl) (by omega) rfl hlt fun p y hy hr => ⟨y.Row.Rel, hr 0 _ rfl, ?_⟩
  refine SlIs.at_ ht hB (z := 3) (fun _ => rfl) (by omega) rfl hlt fun p z hz hr => ⟨z.Row.Rel, hr 0 _ rfl, ?_⟩
  rw [hy.1, hz.1]
  refine Qi (by simp) ?_
  refine SlIs.at_ hs hA (z := 3) (fun _ => rfl) (by omega) rfl hlt fun p y hy hr => ⟨y.Row.L, hr 1 _ rfl, ?_⟩
  refine SlIs.at_ ht hB (z := 3) (fun _ => rfl) (by omega) rfl hlt fun p z hz hr => ⟨z.Row.L, hr 1 _ rfl, ?_⟩
  have hm := hb _ (List.getElem_mem hlt)
  refine Qgj (hy.2.1.le hA) (hz.2.1.le hB) hm.2 hm.1 ⟨Heap.le.refl _, rfl, ?_⟩
  rw [QgC.2 rfl]; rfl
 ·rintro _ D2 ⟨rfl, rfl⟩
  refine Qi rfl ?_
  rw [Qz (by omega) (by omega)]
  exact ⟨⟨rfl, i + 1, by omega, by omega⟩, by first | omega | (dsimp only; omega)⟩
theorem Qew {rel : Str} {j : Int} {K : Qb → Heap → Prop} (k : ∀ t H2, H.le H2 → VRow (Heap.new H H2) t [vN j] → K ⟨rel, t⟩ H2) : QN C rel j K H := by
 apply Qjv
 unfold QgL
 intro b1 n1 b3 n3
 have ne : b3 ≠ b1 := fun e => by rw [e, Heap.put_same] at n3; cases n3
 have n3' : H b3 = none := by rw [Heap.put_ne _ _ _ ne] at n3; exact n3
 refine ⟨_, by rw [Heap.put_ne _ _ _ ne.symm, Heap.put_same], by simp [Qb.c], ?_⟩
 have e : splice (Qb.c Qb.zero) (b1, 0).2 (Qb.c (⟨rel, Sl.of (some (b3, 0)) 1 1⟩ : Qb)) = Qb.c (⟨rel, Sl.of (some (b3, 0)) 1 1⟩ : Qb) := rfl
 rw [e]
 refine bxT (c := Qb.c) (x := (⟨rel, Sl.of (some (b3, 0)) 1 1⟩ : Qb)) (Heap.put_same ..) (k _ _ (fun c e hc => ?_) ⟨[⟨2, j, [], Sl.nil⟩], .inr ⟨rfl, (b3, 0), rfl, ?_⟩, rfl, QnT _ _, trivial⟩)
 ·have h1 : c ≠ b1 := fun e' => by rw [e', n1] at hc; cases hc
  have h3 : c ≠ b3 := fun e' => by rw [e', n3'] at hc; cases hc
  rw [Heap.put_ne _ _ _ h1, Heap.put_ne _ _ _ h3, Heap.put_ne _ _ _ h1]; exact hc
 ·refine QbP (m := true) (Heap.new_some (by rw [Heap.put_ne _ _ _ ne, Heap.put_same]) n3') fun j v hj => ?_
  rw [Nat.zero_add]; exact hj
theorem okN1 {j : Int} (h : 0 ≤ j) (h2 : j ≤ 10) : okR [vN j] := ⟨by simp [vN, VBs, VB]; omega, by simp [vN, vsizes, vsize]⟩
theorem okn1 : okR [vN 1] := okN1 (by omega) (by omega)
theorem okn2 : okR [vN 2] := okN1 (by omega) (by omega)
theorem mayN1 (j : Int) : mayR [vN j] = true := by rfl
theorem inn1 : inR [vN 1] := ⟨okn1, mayN1 1⟩
theorem inn2 : inR [vN 2] := ⟨okn2, mayN1 2⟩
abbrev xR1 : NR := ([114], [vN 1])
abbrev xR2 : NR := ([114], [vN 2])
abbrev xS1 : NR := ([115], [vN 1])
theorem x12 : xR1 ≠ xR2 := fun e => by simp [vN] at e
theorem x1s : xR1 ≠ xS1 := fun e => by simp at e
theorem x2s : xR2 ≠ xS1 := fun e => by simp at e
/-- what is there at each mark -/
def exA : Nat → Sta
 | 0 => noS
 | 1 => fun y => y = xR1
 | 2 => fun y => y = xR1 ∨ y = xR2
 | 3 => fun y => y = xR2
 | _ => fun y => y = xR2 ∨ y = xS1
theorem exA1 : putS noS xR1 = exA 1 := by funext y; exact propext ⟨fun h => h.elim (fun h => h.elim) id, .inr⟩
theorem exA2 : putS (exA 1) xR2 = exA 2 := rfl
theorem exA3 : QfN (exA 2) xR1 = exA 3 := by
 funext y
 refine propext ⟨fun ⟨h1, h2⟩ => h1.resolve_left h2, fun h => ⟨.inr h, fun e => x12 (e.symm.trans h)⟩⟩
theorem exA4 : putS (exA 3) xS1 = exA 4 := rfl
theorem exD2 : IsD (exA 2) (exA 4) [(xR1, -1), (xS1, 1)] := by
 refine ⟨?_, fun y c => ?_⟩
 ·unfold RiseN
  simp only [List.map_cons, List.map_nil, List.pairwise_cons, List.mem_cons, List.not_mem_nil, or_false, forall_eq, List.Pairwise.nil, and_true, false_implies, implies_true]
  decide +kernel
 ·simp only [List.mem_cons, List.not_mem_nil, or_false, Prod.mk.injEq]
  show (y = xR1 ∧ c = -1 ∨ y = xS1 ∧ c = 1) ↔ (c = 1 ∧ (y = xR2 ∨ y = xS1) ∧ ¬ (y = xR1 ∨ y = xR2)) ∨ (c = -1 ∧ (y = xR1 ∨ y = xR2) ∧ ¬ (y = xR2 ∨ y = xS1))
  constructor
  ·rintro (⟨rfl, rfl⟩ | ⟨rfl, rfl⟩)
   ·exact .inr ⟨rfl, .inl rfl, fun h => h.elim x12 x1s⟩
   ·exact .inl ⟨rfl, .inr rfl, fun h => h.elim (fun e => x1s e.symm) fun e => x2s e.symm⟩
  ·rintro (⟨rfl, h1, h2⟩ | ⟨rfl, h1, h2⟩)
   ·exact .inr ⟨h1.resolve_left fun e => h2 (.inr e), rfl⟩
   ·exact .inl ⟨h1.resolve_right fun e => h2 (.inl e), rfl⟩
theorem exD0 : IsD (exA 0) (exA 4) [(xR2, 1), (xS1, 1)] := by
 refine ⟨?_, fun y c => ?_⟩
 ·unfold RiseN
  simp only [List.map_cons, List.map_nil, List.pairwise_cons, List.mem_cons, List.not_mem_nil, or_false, forall_eq, List.Pairwise.nil, and_true, false_implies, implies_true]
  decide +kernel
 ·simp only [List.mem_cons, List.not_mem_nil, or_false, Prod.mk.injEq]
  show (y = xR2 ∧ c = 1 ∨ y = xS1 ∧ c = 1) ↔ (c = 1 ∧ (y = xR2 ∨ y = xS1) ∧ ¬ False) ∨ (c = -1 ∧ False ∧ ¬ (y = xR2 ∨ y = xS1))
  constructor
  ·rintro (⟨rfl, rfl⟩ | ⟨rfl, rfl⟩)
   ·exact .inl ⟨rfl, .inl rfl, id⟩
   ·exact .inl ⟨rfl, .inr rfl, id⟩
  ·rintro (⟨rfl, h1, h2⟩ | ⟨rfl, h1, h2⟩)
   ·exact h1.imp (fun e => ⟨e, rfl⟩) fun e => ⟨e, rfl⟩
   ·exact h1.elim
theorem exRows : Rise [[vN 1], [vN 2]] := by
 unfold Rise
 simp only [List.pairwise_cons, List.mem_cons, List.not_mem_nil, or_false, forall_eq, List.Pairwise.nil, and_true, false_implies, implies_true]
 decide +kernel
/-- a log whose states are known -/
structure LE (o : Own_) (A H : Heap) (x : Nat) (n N : Nat) : Prop where
 g : ∃ a, LG o A H x a n N ∧ ∀ i, i ≤ n → a i = exA i
theorem LE.up (h : LE o A H x n N) (hle : H.le H2) : LE o A H2 x n N := by
 obtain ⟨a, h1, h2⟩ := h.g
 exact ⟨a, h1.up hle, h2⟩
theorem LE.put (hFm : FmtC C) {y : NR} {K : Bool → Int → Heap → Prop} (h : LE o A H x n N) (hn : n ≤ 10) (hle : H.le E) (hv : VRow (Heap.new H E) t y.2) (hr : inR y.2) (hnm : y.1.length ≤ 1000000) (hno : ¬ exA n y) (hS : putS (exA n) y = exA (n + 1))
 (k : ∀ o2 A2 H2, Mv o A E o2 A2 H2 → LE o2 A2 H2 x (n + 1) (N + 2) → K true 0 H2) : QE C (some (x, 0)) ⟨y.1, t⟩ K E := by
 obtain ⟨a, h1, h2⟩ := h.g
 have hb := QiC h1.oh hle
 have e := h2 n (Nat.le_refl _)
 refine Qlq hFm (h1.up hle) (by omega) hb hv hr.tookR hnm (fun hm => by rw [hr.m] at hm; cases hm) (fun _ hc => by rw [e] at hc; exact absurd hc hno) fun _ _ o2 A2 H2 m1 l1 => k o2 A2 H2 m1 ⟨_, l1, fun i hi => ?_⟩
 by_cases hin : i ≤ n
 ·rw [Qe3 hin]; exact h2 i hin
 ·have : i = n + 1 := by omega
  subst this
  rw [Qe2, e]; exact hS
theorem LE.put0 (hFm : FmtC C) {y : NR} {K : Bool → Int → Heap → Prop} (h : LE o A H x n N) (hn : n ≤ 10) (hle : H.le E) (hv : VRow (Heap.new H E) t y.2) (hr : inR y.2) (hnm : y.1.length ≤ 1000000) (hyes : exA n y)
 (k : ∀ H2, E.le H2 → LE o A H2 x n N → K false 0 H2) : QE C (some (x, 0)) ⟨y.1, t⟩ K E := by
 obtain ⟨a, h1, h2⟩ := h.g
 have hb := QiC h1.oh hle
 have e := h2 n (Nat.le_refl _)
 exact Qlq hFm (h1.up hle) (by omega) hb hv hr.tookR hnm (fun hm => by rw [hr.m] at hm; cases hm) (fun _ hc H2 hl => k H2 hl ⟨a, h1.up (hle.trans hl), h2⟩) fun _ hc => absurd (by rw [e]; exact hyes) hc
theorem LE.del (hFm : FmtC C) {y : NR} {K : Bool → Int → Heap → Prop} (h : LE o A H x n N) (hn : n ≤ 10) (hle : H.le E) (hv : VRow (Heap.new H E) t y.2) (hr : inR y.2) (hyes : exA n y) (hS : QfN (exA n) y = exA (n + 1))
 (k : ∀ o2 A2 H2, Mv o A E o2 A2 H2 → LE o2 A2 H2 x (n + 1) (N + 2) → K true 0 H2) : QaC C (some (x, 0)) ⟨y.1, t⟩ K E := by
 obtain ⟨a, h1, h2⟩ := h.g
 have hb := QiC h1.oh hle
 have e := h2 n (Nat.le_refl _)
 refine QmZ hFm (h1.up hle) (by omega) hb hv hr.tookR (fun hm => by rw [hr.m] at hm; cases hm) (fun _ hc => absurd (by rw [e]; exact hyes) hc) fun _ _ o2 A2 H2 m1 l1 => k o2 A2 H2 m1 ⟨_, l1, fun i hi => ?_⟩
 by_cases hin : i ≤ n
 ·rw [Qe3 hin]; exact h2 i hin
 ·have : i = n + 1 := by omega
  subst this
  rw [Qe2, e]; exact hS
theorem LE.has (hFm : FmtC C) {y : NR} {K : Bool → Heap → Prop} (h : LE o A H x n N) (hle : H.le E) (hv : VRow (Heap.new H E) t y.2) (hr : okR y.2)
 (k : ∀ b H2, E.le H2 → (b = true ↔ exA n y) → K b H2) : Qah C (some (x, 0)) ⟨y.1, t⟩ K E := by
 obtain ⟨a, h1, h2⟩ := h.g
 have hb := QiC h1.oh hle
 refine Qm0 hFm (h1.up hle) hb hv hr fun b H2 hl hiff => k b H2 hl ?_
 rw [hiff, h2 n (Nat.le_refl _)]
theorem LE.since {j : Nat} {K : Sl → Int → Heap → Prop} (h : LE o A H x n N) (hn : n ≤ 10) (hj : j ≤ n) {D : List Cg} (hD : IsD (exA j) (exA n) D)
 (k : ∀ s H2, H.le H2 → NChs (Heap.new H H2) s D → K s 0 H2) : QW C (some (x, 0)) (j : Int) K H := by
 obtain ⟨a, h1, h2⟩ := h.g
 refine Qkx h1 (by omega) (fun hc => absurd ⟨by omega, by omega⟩ hc) fun s ws H2 _ _ hS hl => k s H2 hS.og.own.le ?_
 have := hS.chs (by omega)
 have hi := hS.isd
 rw [show (j : Int).toNat = j by omega, h2 j hj, h2 n (Nat.le_refl _)] at hi
 rw [hi.uniq hD] at this
 exact this
theorem QkB (hFm : FmtC C) {K : Bool → Heap → Prop} (k : ∀ H2, H.le H2 → K true H2) : Qcn C K H := by
 apply Qia
 unfold Qfa
 refine Qm1 fun x o H2 hle0 hno h0 => ?_
 have e0 : LE o (fun _ => none) H2 x 0 0 := ⟨_, h0, fun i hi => by rw [Nat.le_zero.1 hi]; rfl⟩
 have bs0 : Bs o H H2 := ⟨hle0, fun c w hw => hno c w hw⟩
 refine Qew fun t1 E1 l1 r1 => LE.put hFm (y := xR1) e0 (by omega) l1 r1 inn1 (by decide) (fun h => h) exA1 fun o1 A1 H1 m1 e1 => ?_
 have bs1 := (bs0.up l1).mv m1
 refine Qew fun t2 E2 l2 r2 => LE.put hFm (y := xR2) e1 (by omega) l2 r2 inn2 (by decide) (fun h => x12 h.symm) exA2 fun o2 A2 H2 m2 e2 => ?_
 have bs2 := (bs1.up l2).mv m2
 refine Qew fun t3 E3 l3 r3 => LE.put0 hFm (y := xR1) e2 (by omega) l3 r3 inn1 (by decide) (.inl rfl) fun H3 l3' e3 => ?_
 have bs3 := (bs2.up l3).up l3'
 refine Qew fun t4 E4 l4 r4 => LE.del hFm (y := xR1) e3 (by omega) l4 r4 inn1 (.inl rfl) exA3 fun o4 A4 H4 m4 e4 => ?_
 have bs4 := (bs3.up l4).mv m4
 refine Qew fun t5 E5 l5 r5 => LE.put hFm (y := xS1) e4 (by omega) l5 r5 inn1 (by decide) (fun h => x2s h.symm) exA4 fun o5 A5 H5 m5 e5 => ?_
 have bs5 := (bs4.up l5).mv m5
 refine LE.since (j := 2) e5 (by omega) (by omega) exD2 fun s6 H6 l6 c6 => ?_
 have e6 := e5.up l6
 refine LE.since (j := 0) e6 (by omega) (by omega) exD0 fun s7 H7 l7 c7 => ?_
 have e7 := e6.up l7
 have bs7 := (bs5.up l6).up l7
 refine jn.inl (Qi rfl ?_)
 obtain ⟨a7, g7, ha7⟩ := e7.g
 refine Qkc g7 (Qi rfl ?_)
 refine Qew fun t8 E8 l8 r8 => Qew fun t9 E9 l9 r9 => ?_
 intro b10 n10
 have l10 := Heap.le_put n10 (g := .row (Qc.c (⟨⟨[114], t8⟩, -1⟩ : Qc) ++ Qc.c (⟨⟨[115], t9⟩, 1⟩ : Qc) ++ [])) (m := true)
 have c10 : NChs (Heap.new H7 (E9.put b10 (.row (Qc.c (⟨⟨[114], t8⟩, -1⟩ : Qc) ++ Qc.c (⟨⟨[115], t9⟩, 1⟩ : Qc) ++ [])))) (Sl.of (some (b10, 0)) 2 2) [(xR1, -1), (xS1, 1)] := by
  refine ⟨[⟨⟨[114], t8⟩, -1⟩, ⟨⟨[115], t9⟩, 1⟩], .inr ⟨rfl, (b10, 0), rfl, ?_⟩, rfl, rfl, by decide, fun i v y hv hy => ?_⟩
  ·refine QbP (m := true) (Heap.new_some (Heap.put_same ..) ((l8.trans l9).none n10)) fun j v hj => ?_
   rw [Nat.zero_add]; exact hj
  ·match i with
   | 0 => simp at hv hy; subst hv; subst hy; exact ⟨rfl, r8.le (QdN (Heap.le.refl _) (l9.trans l10)), rfl⟩
   | 1 => simp at hv hy; subst hv; subst hy; exact ⟨rfl, r9.le (QdN l8 l10), rfl⟩
   | i + 2 => simp at hv
 have hle7 := l8.trans (l9.trans l10)
 generalize E9.put b10 (.row (Qc.c (⟨⟨[114], t8⟩, -1⟩ : Qc) ++ Qc.c (⟨⟨[115], t9⟩, 1⟩ : Qc) ++ [])) = E10 at *
 refine QeM c6 c10 ((Heap.new_le _ _).trans (l7.trans hle7)) (Heap.new_le _ _) (fun z hz => ?_) ?_
 ·simp only [List.mem_cons, List.not_mem_nil, or_false] at hz
  rcases hz with rfl | rfl
  ·exact ⟨okn1.b, by simp⟩
  ·exact ⟨okn1.b, by simp⟩
 refine jn.inl (Qi rfl ?_)
 refine Qew fun t11 E11 l11 r11 => Qew fun t12 E12 l12 r12 => ?_
 intro b13 n13
 have l13 := Heap.le_put n13 (g := .row (Qc.c (⟨⟨[114], t11⟩, 1⟩ : Qc) ++ Qc.c (⟨⟨[115], t12⟩, 1⟩ : Qc) ++ [])) (m := true)
 have c13 : NChs (Heap.new E10 (E12.put b13 (.row (Qc.c (⟨⟨[114], t11⟩, 1⟩ : Qc) ++ Qc.c (⟨⟨[115], t12⟩, 1⟩ : Qc) ++ [])))) (Sl.of (some (b13, 0)) 2 2) [(xR2, 1), (xS1, 1)] := by
  refine ⟨[⟨⟨[114], t11⟩, 1⟩, ⟨⟨[115], t12⟩, 1⟩], .inr ⟨rfl, (b13, 0), rfl, ?_⟩, rfl, rfl, by decide, fun i v y hv hy => ?_⟩
  ·refine QbP (m := true) (Heap.new_some (Heap.put_same ..) ((l11.trans l12).none n13)) fun j v hj => ?_
   rw [Nat.zero_add]; exact hj
  ·match i with
   | 0 => simp at hv hy; subst hv; subst hy; exact ⟨rfl, r11.le (QdN (Heap.le.refl _) (l12.trans l13)), rfl⟩
   | 1 => simp at hv hy; subst hv; subst hy; exact ⟨rfl, r12.le (QdN l11 l13), rfl⟩
   | i + 2 => simp at hv
 have hle10 := l11.trans (l12.trans l13)
 generalize E12.put b13 (.row (Qc.c (⟨⟨[114], t11⟩, 1⟩ : Qc) ++ Qc.c (⟨⟨[115], t12⟩, 1⟩ : Qc) ++ [])) = E13 at *
 refine QeM c7 c13 ((Heap.new_le _ _).trans (hle7.trans hle10)) (Heap.new_le _ _) (fun z hz => ?_) ?_
 ·simp only [List.mem_cons, List.not_mem_nil, or_false] at hz
  rcases hz with rfl | rfl
  ·exact ⟨okn2.b, by simp⟩
  ·exact ⟨okn1.b, by simp⟩
 refine Qi rfl ?_
 have g13 := g7.up (hle7.trans hle10)
 refine Qlm (jj := 2) g13 (by omega) (fun hc => absurd ⟨by omega, by omega⟩ hc) fun _ _ o14 H14 m14 g14 => ?_
 have bs14 := (bs7.up (hle7.trans hle10)).mv m14
 have e14 : LE o14 A5 H14 x 2 20 := ⟨a7, g14.more (by decide), fun i hi => ha7 i (by omega)⟩
 refine jn.inl (Qs rfl ?_)
 obtain ⟨a14, gg, ha14⟩ := e14.g
 refine Qkd gg (by omega) fun T sT ys H15 hT _ => ?_
 have hTe : T = [[vN 1], [vN 2]] := Qji hT.rise exRows fun r => by
  rw [hT.mem, ha14 2 (Nat.le_refl _)]
  show (([114], r) = xR1 ∨ ([114], r) = xR2) ↔ _
  simp
 have hTl := hT.rows.len
 rw [hTe] at hTl
 rw [hTl]
 refine jn.inl (Qs rfl ?_)
 have l15 := hT.og.own.le
 refine Qkw (gg.up l15) (by omega) fun W sW H16 hW _ => ?_
 have hWe : W = [[114]] := Qht (P := fun _ => True) Lin.txt hW.rise (List.pairwise_singleton _ _) (fun _ _ => trivial) fun y => by
  rw [hW.mem, ha14 2 (Nat.le_refl _)]
  show (∃ r, (y, r) = xR1 ∨ (y, r) = xR2) ↔ _
  simp only [Prod.mk.injEq, List.mem_singleton]
  exact ⟨fun ⟨r, h⟩ => h.elim (fun h => h.1) fun h => h.1, fun h => ⟨[vN 1], .inl ⟨h, rfl⟩⟩⟩
 have hWl := hW.own.own.1
 rw [hWe] at hWl
 have hWl : sW.len = 1 := by simpa using hWl.symm
 rw [hWl]
 refine jn.inl (Qs rfl ?_)
 have l16 := hW.own.le
 have e16 := (e14.up l15).up l16
 refine Qew fun t17 E17 l17 r17 => LE.has hFm (y := xR1) e16 l17 r17 okn1 fun b H18 l18 hb18 => ?_
 rw [hb18.2 (.inl rfl)]
 refine jn.inl (Qs rfl ?_)
 have e18 := (e16.up l17).up l18
 refine Qew fun t19 E19 l19 r19 => LE.has hFm (y := xS1) e18 l19 r19 okn1 fun b H20 l20 hb20 => ?_
 have : b = false := by
  cases b with
  | false => rfl
  | true => exact ((hb20.1 rfl).elim (fun h => x1s h.symm) fun h => x2s h.symm).elim
 subst this
 refine jn.inl (Qs rfl ?_)
 have e20 := (e18.up l19).up l20
 obtain ⟨a20, g20, _⟩ := e20.g
 refine Qkc g20 ?_
 have := (((((bs14.up l15).up l16).up l17).up l18).up l19).up l20
 exact k H20 this.le
end
end
section
open Go Go.Proofs
section
variable {C : Ctx} {o o2 : Own_} {A B H H2 E : Heap} {x n N : Nat} {s s2 t : Sl} {S S0 : Sta} {a : Nat → Sta} {l l2 : List OpV} {W : List NR}
end
end
section
open Go Go.Proofs
/-- how many are ahead of a row -/
def plc (x : NR) : List NR → Nat
 | [] => 0
 | z :: W => if cmpN z x < 0 then plc x W + 1 else 0
theorem QjQ (x : NR) : ∀ W : List NR, plc x W ≤ W.length
 | [] => Nat.le_refl _
 | z :: W => by
  unfold plc
  have := QjQ x W
  split
  ·rw [List.length_cons]; omega
  ·omega
theorem QkT (x : NR) : ∀ (W : List NR) (i : Nat) (h : i < W.length), i < plc x W → cmpN W[i] x < 0
 | z :: W, i, h, hi => by
  unfold plc at hi
  split at hi
  ·cases i with
   | zero => assumption
   | succ i => exact QkT x W i (by simpa using h) (by omega)
  ·omega
theorem QkS (x : NR) : ∀ (W : List NR) (h : plc x W < W.length), ¬ cmpN W[plc x W] x < 0
 | z :: W, h => by
  by_cases hz : cmpN z x < 0
  ·have e : plc x (z :: W) = plc x W + 1 := by show (if cmpN z x < 0 then plc x W + 1 else 0) = _; rw [if_pos hz]
   have h2 : plc x W < W.length := by rw [e, List.length_cons] at h; omega
   have := QkS x W h2
   simp only [e, List.getElem_cons_succ]; exact this
  ·have e : plc x (z :: W) = 0 := by show (if cmpN z x < 0 then plc x W + 1 else 0) = _; rw [if_neg hz]
   simp only [e, List.getElem_cons_zero]; exact hz
/-- rows that are alike are one -/
def InW (W : List NR) : Prop := ∀ z ∈ W, inR z.2
theorem Qm8 {x : NR} {W : List NR} (hr : RiseN W) (hi : InW W) (hx : inR x.2) : x ∈ W ↔ ∃ h : plc x W < W.length, W[plc x W] = x := by
 refine ⟨fun hm => ?_, fun ⟨h, e⟩ => e ▸ List.getElem_mem h⟩
 obtain ⟨j, hj, e⟩ := List.getElem_of_mem hm
 have h1 : ¬ j < plc x W := fun h => by
  have := QkT x W j hj h
  rw [e, Lin.nr.refl trivial] at this; omega
 have hlt : plc x W < W.length := by omega
 refine ⟨hlt, ?_⟩
 by_cases hjp : plc x W = j
 ·simp only [hjp]; exact e
 ·have := List.pairwise_iff_getElem.1 hr (plc x W) j hlt hj (by omega)
  rw [e] at this
  exact absurd this (QkS x W hlt)
theorem QnL {x : NR} {W : List NR} (hr : RiseN W) (hi : InW W) (hx : inR x.2) (hn : x ∉ W) {i : Nat} (h : i < W.length) (hp : plc x W ≤ i) : cmpN x W[i] < 0 := by
 have hlt : plc x W < W.length := by omega
 have h0 := QkS x W hlt
 have hne : cmpN W[plc x W] x ≠ 0 := fun e => hn ((Qel (hi _ (List.getElem_mem hlt)).m hx.m).1 e ▸ List.getElem_mem hlt)
 have ha := Lin.nr.anti W[plc x W] x trivial trivial
 by_cases e : plc x W = i
 ·subst e; omega
 ·have h2 := List.pairwise_iff_getElem.1 hr (plc x W) i hlt h (by omega)
  exact (Lin.nr.tr x W[plc x W] W[i] trivial trivial trivial (by omega) (by omega)).2 (.inr h2)
/-- a row put between -/
theorem Qno {S : Sta} {x : NR} {W : List NR} (h : IsW S W) (hi : InW W) (hx : inR x.2) (hn : x ∉ W) : IsW (putS S x) (W.take (plc x W) ++ ([x] ++ W.drop (plc x W))) := by
 refine ⟨List.pairwise_append.2 ⟨h.rise.sublist (List.take_sublist _ _), List.pairwise_append.2 ⟨List.pairwise_singleton _ _, h.rise.sublist (List.drop_sublist _ _), fun a ha b hb => ?_⟩, fun a ha b hb => ?_⟩, fun y => ?_⟩
 ·rw [List.mem_singleton] at ha; subst ha
  obtain ⟨j, hj, rfl⟩ := List.getElem_of_mem hb
  rw [List.getElem_drop]
  exact QnL h.rise hi hx hn _ (Nat.le_add_right _ _)
 ·obtain ⟨i, hil, rfl⟩ := List.getElem_of_mem ha
  rw [List.length_take] at hil
  rw [List.getElem_take]
  have h1 := QkT x W i (by omega) (by omega)
  rcases List.mem_append.1 hb with hb | hb
  ·rw [List.mem_singleton] at hb; rw [hb]; exact h1
  ·obtain ⟨j, hj, rfl⟩ := List.getElem_of_mem hb
   rw [List.length_drop] at hj
   rw [List.getElem_drop]
   exact List.pairwise_iff_getElem.1 h.rise i _ (by omega) (by omega) (by omega)
 ·have key : ∀ P Q : List NR, y ∈ P ++ ([x] ++ Q) ↔ y ∈ P ++ Q ∨ y = x := fun P Q => by
   simp only [List.mem_append, List.mem_singleton]
   constructor
   ·rintro (h | h | h)
    ·exact .inl (.inl h)
    ·exact .inr h
    ·exact .inl (.inr h)
   ·rintro ((h | h) | h)
    ·exact .inl h
    ·exact .inr (.inr h)
    ·exact .inr (.inl h)
  rw [key, List.take_append_drop, h.mem]; rfl
/-- a row taken out -/
theorem Qnn {S : Sta} {x : NR} {W : List NR} (h : IsW S W) (hi : InW W) (hx : inR x.2) (hm : x ∈ W) : IsW (QfN S x) (W.take (plc x W) ++ W.drop (plc x W + 1)) := by
 obtain ⟨hlt, he⟩ := (Qm8 h.rise hi hx).1 hm
 have hsplit : W = W.take (plc x W) ++ x :: W.drop (plc x W + 1) := by
  conv => lhs; rw [← List.take_append_drop (plc x W) W, List.drop_eq_getElem_cons hlt, he]
 have hn := h.rise.nodup
 have hsub : (W.take (plc x W) ++ W.drop (plc x W + 1)).Sublist W := by
  conv => rhs; rw [hsplit]
  exact List.Sublist.append (List.Sublist.refl _) (List.sublist_cons_self _ _)
 refine ⟨h.rise.sublist hsub, fun y => ?_⟩
 rw [hsplit, List.nodup_append] at hn
 have hc := List.nodup_cons.1 hn.2.1
 show _ ↔ S y ∧ y ≠ x
 rw [← h.mem, List.mem_append]
 constructor
 ·rintro (hy | hy)
  ·exact ⟨List.mem_of_mem_take hy, fun e => hn.2.2 y hy x (List.mem_cons_self ..) e⟩
  ·exact ⟨List.mem_of_mem_drop hy, fun e => hc.1 (e ▸ hy)⟩
 ·rintro ⟨hy, hne⟩
  rw [hsplit] at hy
  rcases List.mem_append.1 hy with hy | hy
  ·exact .inl hy
  ·rcases List.mem_cons.1 hy with hy | hy
   ·exact absurd hy hne
   ·exact .inr hy
section
variable {C : Ctx} {A B H H2 : Heap} {s t : Sl} {W : List NR} {v u : NR} {x y : Qb}
/-- a row that can be asked for -/
structure AskN (B : Heap) (v : NR) (x : Qb) : Prop where
 is : NRIs B v x
 ok : okR v.2
 nm : v.1.length ≤ 1000000
theorem AskN.le (h : AskN A v x) (hle : A.le B) : AskN B v x := ⟨⟨h.is.1, h.is.2.le hle⟩, h.ok, h.nm⟩
theorem QiL {K : Int → Heap → Prop} (hx : AskN A v x) (hy : AskN A u y) (hA : A.le H) (k : ∀ H2, H.le H2 → K (cmpN v u) H2) : Qcx C x y K H := by
 apply Qjz
 unfold QgP
 refine box2 fun b1 b3 E lE c1 c3 => ?_
 obtain ⟨⟨r1, w1⟩, o1, n1⟩ := hx
 obtain ⟨⟨r2, w2⟩, o2, n2⟩ := hy
 have hAE := hA.trans lE
 have e1 : ∀ {K' : Str → Prop}, K' v.1 → ldS E ((b1, 0).1, (b1, 0).2 + 0) K' := fun {K'} hk => fS (j := 0) (t := v.1) c1 (by rw [← r1]; rfl) hk
 have e3 : ∀ {K' : Str → Prop}, K' u.1 → ldS E ((b3, 0).1, (b3, 0).2 + 0) K' := fun {K'} hk => fS (j := 0) (t := u.1) c3 (by rw [← r2]; rfl) hk
 refine ⟨fun q H' => ∃ i : Nat, q = (i : Int) ∧ i ≤ v.1.length ∧ i ≤ u.1.length ∧ E = H' ∧ vcmpS v.1 u.1 = vcmpS (v.1.drop i) (u.1.drop i), fun q _ => v.1.length - q.toNat, ⟨0, rfl, Nat.zero_le _, Nat.zero_le _, rfl, rfl⟩, ?_⟩
 rintro q _ ⟨i, rfl, hi, hi2, rfl, hc⟩
 refine e1 ?_
 refine ⟨fun b D => E = D ∧ (b = true ↔ i < v.1.length ∧ i < u.1.length), ?_, ?_⟩
 ·refine ift.of (fun h => ?_) (fun h => ?_)
  ·have h := of_decide_eq_true h
   refine e3 ⟨rfl, ?_⟩
   rw [decide_eq_true_iff]; omega
  ·have h := of_decide_eq_false h
   exact ⟨rfl, (fun h => by cases h), fun h2 => by omega⟩
 rintro b _ ⟨rfl, hb⟩
 refine ift.of (fun h => ?_) (fun h => ?_)
 ·obtain ⟨h1, h2⟩ := hb.1 h
  rw [List.drop_eq_getElem_cons h1, List.drop_eq_getElem_cons h2] at hc
  have g1 := getE h1
  have g2 := getE h2
  generalize v.1[i] = c at *
  generalize u.1[i] = d at *
  refine e1 ⟨c, by omega, g1, e3 ⟨d, by omega, g2, ?_⟩⟩
  have hcl : c.toNat < 256 := c.toBitVec.isLt
  have hdl : d.toNat < 256 := d.toBitVec.isLt
  refine ift.of (fun h => ?_) (fun h => ?_)
  ·have hlt := of_decide_eq_true h
   have hne : c ≠ d := fun e => by subst e; omega
   simp only [vcmpS, if_neg hne] at hc
   have hs : sgn c.toNat d.toNat = -1 := by unfold sgn; rw [if_pos (by omega)]
   have := k E lE
   unfold cmpN at this
   rw [hc, hs] at this
   exact this
  ·have hge := of_decide_eq_false h
   refine e1 ⟨c, by omega, g1, e3 ⟨d, by omega, g2, ?_⟩⟩
   refine ift.of (fun h => ?_) (fun h => ?_)
   ·have hgt := of_decide_eq_true h
    have hne : c ≠ d := fun e => by subst e; omega
    simp only [vcmpS, if_neg hne] at hc
    have hs : sgn c.toNat d.toNat = 1 := by unfold sgn; rw [if_neg (by omega), if_pos (by omega)]
    have := k E lE
    unfold cmpN at this
    rw [hc, hs] at this
    exact this
   ·have hle := of_decide_eq_false h
    have he : c = d := UInt8.toNat_inj.1 (by omega)
    simp only [vcmpS, if_pos he] at hc
    rw [Qz (by omega) (by omega)]
    exact ⟨⟨i + 1, by omega, by omega, by omega, rfl, hc⟩, by first | omega | (dsimp only; omega)⟩
 ·have hn : ¬ (i < v.1.length ∧ i < u.1.length) := fun h2 => by rw [hb.2 h2] at h; cases h
  have e : vcmpS v.1 u.1 = sgn v.1.length u.1.length := by
   by_cases h3 : i < v.1.length
   ·have : i = u.1.length := by omega
    subst this
    rw [hc, List.drop_length, Qh3, List.length_drop]
    have := QgD ((v.1.length - u.1.length : Nat) : Int) 0 u.1.length
    rw [← this]; congr 1 <;> omega
   ·have : i = v.1.length := by omega
    subst this
    rw [hc, List.drop_length, Qh2, List.length_drop]
    have := QgD 0 ((u.1.length - v.1.length : Nat) : Int) v.1.length
    rw [← this]; congr 1 <;> omega
  have hk := k
  unfold cmpN at hk
  rw [e] at hk
  refine e1 (e3 ?_)
  refine ift.of (fun h => ?_) (fun h => ?_)
  ·have hlt := of_decide_eq_true h
   have hs : sgn (v.1.length : Int) u.1.length = -1 := by unfold sgn; rw [if_pos (by omega)]
   rw [hs] at hk
   exact hk E lE
  ·have h1 := of_decide_eq_false h
   refine e1 (e3 ?_)
   refine ift.of (fun h => ?_) (fun h => ?_)
   ·have h2 := of_decide_eq_true h
    have hs : sgn (v.1.length : Int) u.1.length = 1 := by unfold sgn; rw [if_neg (by omega), if_pos (by omega)]
    rw [hs] at hk
    exact hk E lE
   ·have h2 := of_decide_eq_false h
    have hs : sgn (v.1.length : Int) u.1.length = 0 := by unfold sgn; rw [if_neg (by omega), if_neg (by omega)]
    rw [hs] at hk
    refine fL (j := 1) c1 (t := x.L) rfl (fL (j := 1) c3 (t := y.L) rfl ?_)
    exact Qg9 (w1.le hAE) (w2.le hAE) (by have := o1.len; omega) (by have := o2.len; omega) o1.b o2.b (fun z hz => by have := Qb6 hz; have := o1.z; omega) (fun z hz => by have := Qb6 hz; have := o2.z; omega) (hk E lE)
/-- rows in a list that can be asked for -/
def FineW (W : List NR) : Prop := ∀ z ∈ W, inR z.2 ∧ z.1.length ≤ 1000000
theorem FineW.inW (h : FineW W) : InW W := fun z hz => (h z hz).1
theorem Qkb {K : Int → Bool → Heap → Prop} (hs : NRows A s W) (hA : A.le H) (hf : FineW W) (hx : AskN B v x) (hB : B.le H)
 (k : ∀ b H2, H.le H2 → (b = true ↔ ∃ h : plc v W < W.length, cmpN W[plc v W] v = 0) → K (plc v W) b H2) : QbY C s x K H := by
 apply QiV
 unfold Qgc
 intro b1 n1
 have l1 := Heap.le_put n1 (g := .row (Qb.c x)) (m := true)
 have c1 : (H.put b1 (.row (Qb.c x))) b1 = some (true, .row (Qb.c x)) := Heap.put_same ..
 generalize H.put b1 (.row (Qb.c x)) = E at *
 have hlen := SlIs.len hs
 have hbd := SlIs.bd hs
 have hp := QjQ v W
 refine ⟨fun q D => ∃ i : Nat, q = (i : Int) ∧ i ≤ plc v W ∧ E.le D, fun q _ => plc v W - q.toNat, ⟨0, rfl, Nat.zero_le _, Heap.le.refl _⟩, ?_⟩
 rintro _ D ⟨i, rfl, hi, hD⟩
 have hAD := (hA.trans l1).trans hD
 have hBD := (hB.trans l1).trans hD
 rw [hlen]
 refine ⟨fun b D2 => E.le D2 ∧ (b = true ↔ i < plc v W), ?_, ?_⟩
 ·refine ⟨D, Heap.le.refl _, ?_⟩
  refine ift.of (fun h => ?_) (fun h => ?_)
  ·have hil : i < W.length := by have := of_decide_eq_true h; omega
   refine SlIs.ld hs hAD (z := 2) (fun _ => rfl) (by omega) rfl hil fun y hy => bxT (c := Qb.c) (hD _ _ c1) ?_
   have hfi := hf _ (List.getElem_mem hil)
   have hyD : AskN D W[i] y := ⟨⟨hy.1, hy.2.le hAD⟩, hfi.1.tookR, hfi.2⟩
   refine QiL hyD (hx.le hBD) (Heap.le.refl _) fun D2 l2 => ⟨l2, hD.trans l2, ?_⟩
   rw [decide_eq_true_iff]
   constructor
   ·intro hlt
    by_cases e : i = plc v W
    ·have hpl : plc v W < W.length := by omega
     have := QkS v W hpl
     subst e; exact absurd hlt this
    ·omega
   ·intro hlt; exact QkT v W i hil hlt
  ·have hge := of_decide_eq_false h
   exact ⟨hD, (fun h => by cases h), fun h => by omega⟩
 ·rintro b D2 ⟨hD2, hb⟩
  refine ift.of (fun h => ?_) (fun h => ?_)
  ·have hlt := hb.1 h
   rw [Qz (by omega) (by omega)]
   exact ⟨⟨i + 1, by omega, by omega, hD2⟩, by first | omega | (dsimp only; omega)⟩
  ·have hie : i = plc v W := by
    have : ¬ i < plc v W := fun h2 => by rw [hb.2 h2] at h; cases h
    omega
   subst hie
   refine ⟨D2, Heap.le.refl _, ?_⟩
   have hAD2 := (hA.trans l1).trans hD2
   have hBD2 := (hB.trans l1).trans hD2
   refine ift.of (fun h2 => ?_) (fun h2 => ?_)
   ·have hil : plc v W < W.length := by have := of_decide_eq_true h2; omega
    refine SlIs.ld hs hAD2 (z := 2) (fun _ => rfl) (by omega) rfl hil fun y hy => bxT (c := Qb.c) (hD2 _ _ c1) ?_
    have hfi := hf _ (List.getElem_mem hil)
    have hyD : AskN D2 W[plc v W] y := ⟨⟨hy.1, hy.2.le hAD2⟩, hfi.1.tookR, hfi.2⟩
    refine QiL hyD (hx.le hBD2) (Heap.le.refl _) fun D3 l3 => ⟨l3, ?_⟩
    refine k _ D3 (l1.trans (hD2.trans l3)) ?_
    rw [beq_iff_eq]
    exact ⟨fun e => ⟨hil, e⟩, fun ⟨_, e⟩ => e⟩
   ·have hge := of_decide_eq_false h2
    exact k _ D2 (l1.trans hD2) ⟨fun h => (by cases h), fun ⟨h, _⟩ => by omega⟩
end
end
section
open Go Go.Proofs
theorem Qlt (x : Qb) : (Qb.c x).length = 2 := rfl
theorem QdB : ∀ l : List Qb, (l.flatMap Qb.c).length = l.length * 2
 | [] => rfl
 | a :: l => by rw [List.flatMap_cons, List.length_append, QdB l, List.length_cons, Nat.add_mul]; show 2 + _ = _; omega
theorem QkA : ∀ (l : List Qb) (n : Nat), (l.flatMap Qb.c).take (n * 2) = (l.take n).flatMap Qb.c
 | [], n => by simp
 | a :: l, 0 => by simp
 | a :: l, n + 1 => by
  rw [List.flatMap_cons, List.take_succ_cons, List.flatMap_cons, ← QkA l n]
  rw [show (n + 1) * 2 = 2 + n * 2 by omega]
  rw [List.take_append, show (Qb.c a).length = 2 from rfl, List.take_of_length_le (by rw [Qlt]; omega)]
  rw [show 2 + n * 2 - 2 = n * 2 by omega]
theorem Qkz : ∀ (l : List Qb) (n : Nat), (l.flatMap Qb.c).drop (n * 2) = (l.drop n).flatMap Qb.c
 | [], n => by simp
 | a :: l, 0 => by simp
 | a :: l, n + 1 => by
  rw [List.flatMap_cons, List.drop_succ_cons, ← Qkz l n]
  rw [show (n + 1) * 2 = 2 + n * 2 by omega, List.drop_append, show (Qb.c a).length = 2 from rfl, List.drop_of_length_le (by rw [Qlt]; omega), List.nil_append]
  rw [show 2 + n * 2 - 2 = n * 2 by omega]
/-- rows, one by one -/
def RwR (G : Heap) (W : List NR) (xs : List Qb) : Prop := xs.length = W.length ∧ ∀ (i : Nat) (v : NR) (x : Qb), W[i]? = some v → xs[i]? = some x → NRIs G v x
theorem RwR.le {G G2 : Heap} {W : List NR} {xs : List Qb} (h : RwR G W xs) (hle : G.le G2) : RwR G2 W xs := ⟨h.1, fun i v x hv hx => ⟨(h.2 i v x hv hx).1, (h.2 i v x hv hx).2.le hle⟩⟩
theorem RwR.app {G : Heap} {W W2 : List NR} {xs ys : List Qb} (h : RwR G W xs) (h2 : RwR G W2 ys) : RwR G (W ++ W2) (xs ++ ys) := by
 refine ⟨by simp [h.1, h2.1], fun i v x hv hx => ?_⟩
 by_cases hi : i < W.length
 ·rw [List.getElem?_append_left hi] at hv
  rw [List.getElem?_append_left (by rw [h.1]; exact hi)] at hx
  exact h.2 i v x hv hx
 ·rw [List.getElem?_append_right (by omega)] at hv
  rw [List.getElem?_append_right (by rw [h.1]; omega), h.1] at hx
  exact h2.2 _ v x hv hx
theorem RwR.take {G : Heap} {W : List NR} {xs : List Qb} (h : RwR G W xs) (n : Nat) : RwR G (W.take n) (xs.take n) := by
 refine ⟨by simp [h.1], fun i v x hv hx => ?_⟩
 rw [List.getElem?_take] at hv hx
 split at hv
 ·rename_i hlt
  rw [if_pos hlt] at hx
  exact h.2 i v x hv hx
 ·cases hv
theorem RwR.drop {G : Heap} {W : List NR} {xs : List Qb} (h : RwR G W xs) (n : Nat) : RwR G (W.drop n) (xs.drop n) := by
 refine ⟨by simp [h.1], fun i v x hv hx => ?_⟩
 rw [List.getElem?_drop] at hv hx
 exact h.2 _ v x hv hx
theorem NRows.of {G : Heap} {s : Sl} {W : List NR} {xs : List Qb} (hr : rdsl G s (xs.flatMap Qb.c)) (hl : s.len = xs.length) (h : RwR G W xs) (hb : W.length ≤ 140737488355328) : NRows G s W := ⟨xs, hr, hl, h.1.symm, hb, h.2⟩
theorem NRows.ex {G : Heap} {s : Sl} {W : List NR} (h : NRows G s W) : ∃ xs, rdsl G s (xs.flatMap Qb.c) ∧ s.len = xs.length ∧ RwR G W xs := by
 obtain ⟨xs, h1, h2, h3, h4, h5⟩ := h
 exact ⟨xs, h1, h2, h3.symm, h5⟩
section
variable {C : Ctx} {o o2 : Own_} {A B G H H0 H2 : Heap} {s t : Sl} {W W2 : List NR} {xs : List Qb} {y n : Nat} {Ws : Nat → List NR} {a : Nat → Sta} {v : NR} {x : Qb}
theorem NRows.cutL {hi : Nat} {b : Int} {K : Sl → Prop} (h : NRows A s W) (hc : s.len ≤ s.cap) (hb : b = (hi : Int)) (h2 : hi ≤ W.length) (k : ∀ (t : Sl) (xs : List Qb), rdsl A t (xs.flatMap Qb.c) → t.len = xs.length → RwR A (W.take hi) xs → K t) : slL s 0 b (s.cap : Int) 2 K := by
 have hl := SlIs.len h
 obtain ⟨xs, r1, r2, r3⟩ := h.ex
 have h1 := r3.1
 subst hb
 refine ⟨by omega, by omega, by omega, by omega, _, rfl, k _ (xs.take hi) ?_ ?_ (r3.take hi)⟩
 ·have := QiF r1 (lo := 0) (hi := (hi : Int)) (mx := (s.cap : Int)) (z := 2) (by omega) (by omega) (by omega) (by rw [QdB]; omega)
  rw [← QkA]
  have e2 : ((hi : Int) - 0).toNat * 2 = hi * 2 := by omega
  rw [e2] at this
  simpa using this
 ·dsimp only; rw [List.length_take]; omega
theorem NRows.cutR {lo : Nat} {b : Int} {K : Sl → Prop} (h : NRows A s W) (hc : s.len ≤ s.cap) (hb : b = (lo : Int)) (h2 : lo ≤ W.length) (k : ∀ (t : Sl) (xs : List Qb), rdsl A t (xs.flatMap Qb.c) → t.len = xs.length → RwR A (W.drop lo) xs → K t) : slL s b (s.len : Int) (s.cap : Int) 2 K := by
 have hl := SlIs.len h
 obtain ⟨xs, r1, r2, r3⟩ := h.ex
 have h1 := r3.1
 subst hb
 refine ⟨by omega, by omega, by omega, by omega, _, rfl, k _ (xs.drop lo) ?_ ?_ (r3.drop lo)⟩
 ·have := QiF r1 (lo := (lo : Int)) (hi := (s.len : Int)) (mx := (s.cap : Int)) (z := 2) (by omega) (by omega) (by omega) (by rw [QdB]; omega)
  rw [← Qkz]
  have e2 : ((s.len : Int) - (lo : Int)).toNat * 2 = (xs.length - lo) * 2 := by omega
  have e3 : (lo : Int).toNat * 2 = lo * 2 := by omega
  rw [e2, e3] at this
  rw [List.take_of_length_le (by rw [List.length_drop, QdB]; omega)] at this
  exact this
 ·dsimp only; rw [List.length_drop]; omega
/-- rows that are appended -/
theorem QfM {K : Sl → Heap → Prop} {cs ys : List Qb} (h : OwnF H0 B 2 s (cs.flatMap Qb.c)) (hr : rdsl B t (ys.flatMap Qb.c)) (hl : t.len = ys.length) (hb : cs.length + ys.length ≤ 1000000)
 (k : ∀ r B2, OwnF H0 B2 2 r ((cs ++ ys).flatMap Qb.c) → (B.off s).le (B2.off r) → K r B2) : apS (Qb.c Qb.zero) 40 s t K B := by
 have hsl := h.own.1
 rw [QdB] at hsl
 refine ⟨_, hr, fun u hu => ?_, ?_⟩
 ·obtain ⟨z, _, hz⟩ := List.mem_flatMap.1 hu
  simp only [Qb.c, List.mem_cons, List.not_mem_nil, or_false] at hz
  rcases hz with rfl | rfl <;> rfl
 refine QcN (zc := Qb.c Qb.zero) h.own.off (by rw [QdB, hl]; rfl) (by omega) (by omega) fun r B2 q1 q2 => ?_
 refine k r B2 ?_ (Heap.le_off q1.le q1.fresh)
 rw [List.flatMap_append]
 exact q1.down (Heap.le_off h.le h.fresh)
/-- the document's log -/
structure DL (o : Own_) (A H : Heap) (y : Nat) (Ws : Nat → List NR) (n : Nat) : Prop where
 oh : OH o A H
 ex : ∃ (s : Sl) (ts : List Sl), H y = some (true, .row [slv s]) ∧ o y = some .log ∧ Own H 1 s (ts.map slv) ∧ (∀ q, s.p = some q → o q.1 = some .done) ∧ ts.length = n + 1 ∧ ∀ (i : Nat) (t : Sl), ts[i]? = some t → NRows A t (Ws i) ∧ t.len ≤ t.cap
theorem DL.keep (h : DL o A H y Ws n) (hA : A.le H2) (hk : ∀ c w, o c = some w → H2 c = H c) : DL o A H2 y Ws n := by
 obtain ⟨h0, s, ts, h1, h2, ⟨q1, q2, q3, q4⟩, h4, h5, h6⟩ := h
 refine ⟨⟨hA, h0.ap, fun c w hw => by rw [hk c w hw]; exact h0.oh c w hw⟩, s, ts, by rw [hk _ _ h2]; exact h1, h2, ⟨q1, q2, q3, q4.imp id fun ⟨b, sp, p1, p2, p3⟩ => ⟨b, sp, p1, ?_, p3⟩⟩, h4, h5, h6⟩
 rw [hk b _ (h4 _ p1)]; exact p2
theorem DL.up (h : DL o A H y Ws n) (hle : H.le H2) : DL o A H2 y Ws n := h.keep (h.oh.le.trans hle) fun c w hw => h.oh.eq_le hle hw
theorem DL.grow (h : DL o A H y Ws n) (hle : A.le B) (hB : B.le H) (hap : ∀ c w, o c = some w → B c = none) : DL o B H y Ws n := by
 obtain ⟨h0, s, ts, h1, h2, h3, h4, h5, h6⟩ := h
 exact ⟨⟨hB, hap, h0.oh⟩, s, ts, h1, h2, h3, h4, h5, fun i t ht => ⟨(h6 i t ht).1.le hle, (h6 i t ht).2⟩⟩
theorem DL.other {o' : Own_} {A' A2 : Heap} (h : DL o' A' H y Ws n) (hm : Mv o A H o2 A2 H2) (hd : Dj o A o' A') : DL o' A' H2 y Ws n ∧ Dj o2 A2 o' A' := by
 have hO := h.oh
 refine ⟨h.keep (fun c e hc => hm.c.kp c e (hO.le c e hc) fun w hw _ => by rw [(hd.a c w hw).2] at hc; cases hc) (fun c w hw => by
  cases he : H c with
  | none => exact absurd he (hO.oh c w hw)
  | some e => exact hm.c.kp c e he fun w' hw' _ => by rw [(hd.a c w' hw').1] at hw; cases hw), ⟨fun c w hw => ?_, fun c w hw => ?_⟩⟩
 ·rcases hm.c.dn c w hw with h1 | ⟨h1, _⟩
  ·exact hd.a c w h1
  ·refine ⟨?_, hO.le.none h1⟩
   cases he : o' c with
   | none => rfl
   | some w' => exact absurd h1 (hO.oh c w' he)
 ·cases he : A2 c with
  | none => rfl
  | some e =>
   rcases hm.n c (by rw [he]; simp) with h1 | h1
   ·exact absurd (hd.b c w hw) h1
   ·exact absurd h1 (hO.oh c w hw)
theorem Qbq {K : Sl → Heap → Prop} (h : DL o A H y Ws n) (hn : n ≤ 1000000) (k : ∀ t, NRows A t (Ws n) → t.len ≤ t.cap → K t H) : Qm C (some (y, 0)) K H := by
 apply QgZ
 unfold Qea
 obtain ⟨h0, s, ts, h1, h2, h3, h4, h5, h6⟩ := h
 have hl := h3.1
 rw [List.length_map] at hl
 refine ⟨_, rfl, ⟨s, by rw [Qo h1]; rfl, _, rfl, ⟨s, by rw [Qo h1]; rfl, ?_⟩⟩⟩
 have hw1 : w .i64 ((s.len : Int) - 1) = (n : Int) := by rw [Qz (by omega) (by omega)]; omega
 dsimp only
 rw [hw1]
 have ht : ts[n]? = some (ts[n]'(by omega)) := List.getElem?_eq_getElem _
 refine QgI h3.rdsl (by omega) (by omega) (fun e => by
  have := congrArg List.length e
  rw [List.length_map, List.length_nil] at this; omega) fun p _ hp => ⟨ts[n]'(by omega), ?_, ?_⟩
 ·have := Qce hp n (slv (ts[n]'(by omega))) (by rw [List.getElem?_map, ht]; rfl)
  rw [show p.2 + (n : Int).toNat * 1 = p.2 + n by omega]; exact this
 ·obtain ⟨q1, q2⟩ := h6 n _ ht
  exact k _ q1 q2
/-- one list more -/
def extW (Ws : Nat → List NR) (n : Nat) (W : List NR) : Nat → List NR := fun i => if i ≤ n then Ws i else W
theorem Qko {i : Nat} (h : i ≤ n) : extW Ws n W i = Ws i := by unfold extW; rw [if_pos h]
theorem Qkn : extW Ws n W (n + 1) = W := by unfold extW; rw [if_neg (by omega)]
theorem Qmq {K : Heap → Prop} (h : DL o A H y Ws n) (hn : n ≤ 1000000) (ht : NRows A t W) (hc : t.len ≤ t.cap)
 (k : ∀ o3 H3, Mv o A H o3 A H3 → DL o3 A H3 y (extW Ws n W) (n + 1) → K H3) :
 nck (some (y, 0)) fun p55 => ldL H (p55.1, p55.2 + 0) fun x57 => apd ([slv Sl.nil]) 24 x57 ([slv t]) 1 (fun r59 H60 => nck (some (y, 0)) fun p61 => st (p61.1, p61.2 + 0) (slv r59) (fun H63 => K H63) H60) H := by
 have hOH := h.oh
 obtain ⟨_, s, ts, h1, h2, hO, how, h5, h6⟩ := h
 have hl := hO.1
 rw [List.length_map] at hl
 refine ⟨_, rfl, ⟨s, by rw [Qo h1]; rfl, ?_⟩⟩
 refine Qky (zc := [slv Sl.nil]) hO rfl (by omega) (by omega) fun r H4 q1 q2 q3 q4 => ?_
 have hrp : ∀ q, r.p = some q → o q.1 = some .done ∨ H q.1 = none := fun q hq => by
  rcases q3 with e | e
  ·exact .inl (how q (by rw [← e]; exact hq))
  ·exact .inr (e q hq)
 have hrx : ∀ q, r.p = some q → y ≠ q.1 := fun q hq e => by
  rcases hrp q hq with h3 | h3
  ·rw [← e, h2] at h3; cases h3
  ·rw [← e, h1] at h3; cases h3
 have hx4 : H4 y = some (true, .row [slv s]) := (q4 y hrx).trans h1
 refine ⟨_, rfl, _, hx4, by simp, ?_⟩
 show K (H4.put y (.row [slv r]))
 have hkeep : ∀ c, (∀ q, r.p = some q → c ≠ q.1) → c ≠ y → (H4.put y (.row [slv r])) c = H c := fun c hc hcx => by
  rw [Heap.put_ne _ _ _ hcx]; exact q4 c hc
 have hli : ∀ c, H c ≠ none → (H4.put y (.row [slv r])) c ≠ none := fun c hc => by
  by_cases hcx : c = y
  ·rw [hcx, Heap.put_same]; simp
  ·rw [Heap.put_ne _ _ _ hcx]
   by_cases hr : ∃ q, r.p = some q ∧ c = q.1
   ·obtain ⟨q, hq, e⟩ := hr
    obtain ⟨g, hg⟩ := q1.mine hq
    rw [e, hg]; simp
   ·rw [q4 c fun q hq e => hr ⟨q, hq, e⟩]; exact hc
 have hdn : ∀ c w, o c = some w → (o.dn r) c = some w := fun c w hw => by
  cases hr : r.p with
  | none => rw [Own_.dn_none hr]; exact hw
  | some q =>
   rw [Own_.dn_eq hr]
   by_cases e : c = q.1
   ·rw [e, Own_.set_same]
    rcases hrp q hr with h1 | h1
    ·rw [e, h1] at hw; exact hw
    ·rw [e] at hw; exact absurd h1 (hOH.oh _ _ hw)
   ·rw [Own_.set_ne e]; exact hw
 have hup : ∀ c w, (o.dn r) c = some w → o c = some w ∨ (H c = none ∧ ∃ q, r.p = some q ∧ q.1 = c) := fun c w hw => by
  cases hr : r.p with
  | none => rw [Own_.dn_none hr] at hw; exact .inl hw
  | some q =>
   rw [Own_.dn_eq hr] at hw
   by_cases e : c = q.1
   ·rw [e, Own_.set_same] at hw
    rcases hrp q hr with h1 | h1
    ·rw [e]; exact .inl (h1.trans hw)
    ·exact .inr ⟨by rw [e]; exact h1, q, rfl, e.symm⟩
   ·rw [Own_.set_ne e] at hw; exact .inl hw
 have hlive : ∀ q, r.p = some q → (H4.put y (.row [slv r])) q.1 ≠ none := fun q hq => by
  obtain ⟨g, hg⟩ := q1.mine hq
  rw [Heap.put_ne _ _ _ (hrx q hq).symm, hg]; simp
 have hne : ∀ c e, H c = some e → o c ≠ some .done → ∀ q, r.p = some q → c ≠ q.1 := fun c e hc ho q hq e' => by
  rcases hrp q hq with h1 | h1
  ·exact ho (by rw [e']; exact h1)
  ·rw [← e', hc] at h1; cases h1
 have hA : A.le (H4.put y (.row [slv r])) := fun c e hc => by
  have ho : o c = none := by
   cases ho : o c with
   | none => rfl
   | some w => rw [hOH.ap c w ho] at hc; cases hc
  have hc1 := hOH.le _ _ hc
  rw [hkeep c (hne c e hc1 (by rw [ho]; simp)) (fun e' => by rw [e', h2] at ho; cases ho), hc1]
 have hmv : Mv o A H (o.dn r) A (H4.put y (.row [slv r])) := by
  refine ⟨⟨fun c e hc hn => ?_, hdn, fun c w hw => ?_, hli⟩, Heap.le.refl _, fun c hc => .inl hc⟩
  ·have ho : o c = none := by
    cases ho : o c with
    | none => rfl
    | some w => exact absurd trivial (hn w ho)
   rw [hkeep c (hne c e hc (by rw [ho]; simp)) (fun e' => by rw [e', h2] at ho; cases ho), hc]
  ·rcases hup c w hw with h1 | ⟨h1, q, hq, rfl⟩
   ·exact .inl h1
   ·exact .inr ⟨h1, trivial, hlive q hq⟩
 refine k _ _ hmv ⟨hOH.chg hmv.c, r, ts ++ [t], Heap.put_same .., hdn _ _ h2, ?_, fun q hq => by rw [Own_.dn_eq hq, Own_.set_same], by simp [h5], fun i t' hi => ?_⟩
 ·rw [List.map_append]
  obtain ⟨w1, w2, w3, w4⟩ := q1
  refine ⟨w1, w2, w3, w4.imp id fun ⟨b', sp, p1, p2, p3⟩ => ⟨b', sp, p1, ?_, p3⟩⟩
  rw [Heap.put_ne _ _ _ (hrx _ p1).symm]; exact p2
 ·by_cases hlt : i < ts.length
  ·rw [List.getElem?_append_left hlt] at hi
   rw [Qko (by omega)]; exact h6 i t' hi
  ·have hi2 : i = n + 1 := by
    have := (List.getElem?_eq_some_iff.1 hi).1
    simp at this; omega
   subst hi2
   rw [List.getElem?_append_right (by omega), h5, Nat.sub_self] at hi
   simp at hi; subst hi
   rw [Qkn]; exact ⟨ht, hc⟩
theorem Qnk {K : Option (Nat × Nat) → Heap → Prop} (k : ∀ y o H2, H.le H2 → (∀ c w, o c = some w → H c = none) → DL o (fun _ => none) H2 y (fun _ => []) 0 → K (some (y, 0)) H2) : Qfp C K H := by
 apply QjA
 unfold QgQ
 intro b nb y ny
 have l1 := Heap.le_put nb (g := .row [slv Sl.nil]) (m := true)
 have l2 := Heap.le_put ny (g := .row (QV.c (⟨Sl.of (some (b, 0)) 1 1⟩ : QV))) (m := true)
 have hyb : y ≠ b := fun e => by subst e; rw [Heap.put_same] at ny; cases ny
 refine k y (fun c => if c = b then some .done else if c = y then some .log else none) _ (l1.trans l2) (fun c w hw => ?_) ⟨⟨fun c e hc => (by cases hc), fun c w hw => rfl, fun c w hw => ?_⟩, Sl.of (some (b, 0)) 1 1, [Sl.nil], Heap.put_same .., by rw [if_neg hyb, if_pos rfl], ⟨rfl, rfl, Nat.le_refl _, .inr ⟨b, [], rfl, by rw [Heap.put_ne _ _ _ hyb.symm]; exact Heap.put_same .., Nat.le_refl 1⟩⟩, fun q hq => ?_, rfl, fun i t hi => ?_⟩
 ·split at hw
  ·rename_i e; rw [e]; exact nb
  ·split at hw
   ·rename_i e; rw [e]; exact l1.none ny
   ·cases hw
 ·split at hw
  ·rename_i e; rw [e, Heap.put_ne _ _ _ hyb.symm, Heap.put_same]; simp
  ·split at hw
   ·rename_i e; rw [e, Heap.put_same]; simp
   ·cases hw
 ·simp [Sl.of] at hq; subst hq; rw [if_pos rfl]
 ·cases i with
  | zero => simp at hi; subst hi; exact ⟨⟨[], .inl rfl, rfl, rfl, by simp, fun i v x hv => by simp at hv⟩, Nat.le_refl _⟩
  | succ i => simp at hi
theorem QkD {jj : Int} {K : Int → Heap → Prop} (h : DL o A H y Ws n) (hn : n ≤ 1000000) (k1 : ¬ (0 ≤ jj ∧ jj ≤ n) → K 1 H) (k0 : 0 ≤ jj → jj ≤ n → ∀ H2, Mv o A H o A H2 → DL o A H2 y Ws jj.toNat → K 0 H2) : Qbi C (some (y, 0)) jj K H := by
 apply Qgl
 unfold Qds
 have hOH := h.oh
 obtain ⟨_, s, ts, h1, h2, hO, how, h5, h6⟩ := h
 have hl := hO.1
 rw [List.length_map] at hl
 refine ⟨fun b D => D = H ∧ (b = false ↔ 0 ≤ jj ∧ jj ≤ n), ?_, ?_⟩
 ·refine ift.of (fun h => ?_) (fun h => ?_)
  ·have h := of_decide_eq_true h
   exact ⟨rfl, (fun h => by cases h), fun h => by omega⟩
  ·have h := of_decide_eq_false h
   refine ⟨_, rfl, ⟨s, by rw [Qo h1]; rfl, rfl, ?_⟩⟩
   rw [decide_eq_false_iff_not]
   omega
 rintro b D ⟨rfl, hb⟩
 refine ift.of (fun hh => k1 fun h3 => by rw [hb.2 h3] at hh; cases hh) fun hh => ?_
 obtain ⟨g0, g1⟩ := hb.1 hh
 obtain ⟨mk, rfl⟩ := Int.eq_ofNat_of_zero_le g0
 have hmk : mk ≤ n := by omega
 refine ⟨_, rfl, ⟨s, by rw [Qo h1]; rfl, ?_⟩⟩
 have hcap := hO.2.2.1
 have hw1 : w .i64 ((mk : Int) + 1) = ((mk + 1 : Nat) : Int) := by rw [Qz (by omega) (by omega)]; omega
 rw [hw1]
 refine ⟨by omega, by omega, by omega, by omega, _, rfl, _, rfl, _, h1, by simp, ?_⟩
 have e61 : (⟨if (s.cap : Int) = 0 then s.p else s.p.map (fun p => (p.1, p.2 + (0 : Int).toNat * 1)), (((mk + 1 : Nat) : Int) - 0).toNat, ((s.cap : Int) - 0).toNat, if (s.cap : Int) = 0 ∨ (0 : Int).toNat * 1 = 0 then s.x else none⟩ : Sl) = ⟨s.p, mk + 1, s.cap, s.x⟩ := by
  have : s.p.map (fun p : Nat × Nat => (p.1, p.2 + (0 : Int).toNat * 1)) = s.p := by cases s.p <;> simp
  rw [this]
  simp
 rw [e61]
 show K 0 (D.put y (.row [slv ⟨s.p, mk + 1, s.cap, s.x⟩]))
 have hcg : Chg (fun _ => True) o D o (D.put y (.row [slv ⟨s.p, mk + 1, s.cap, s.x⟩])) := Chg.put h2 trivial
 have emk : (mk : Int).toNat = mk := by omega
 refine k0 g0 g1 _ ⟨hcg, Heap.le.refl _, fun c hc => .inl hc⟩ ⟨hOH.chg hcg, ⟨s.p, mk + 1, s.cap, s.x⟩, ts.take (mk + 1), Heap.put_same .., h2, ?_, how, by rw [List.length_take, emk]; omega, fun i t hi => ?_⟩
 ·obtain ⟨v1, v2, v3, v4⟩ := hO
  refine ⟨by rw [List.length_map, List.length_take]; show min (mk + 1) ts.length = (mk + 1) * 1; omega, v2, by show mk + 1 ≤ s.cap; omega, ?_⟩
  rcases v4 with ⟨e1, e2⟩ | ⟨b, sp, e1, e2, e3⟩
  ·exact .inl ⟨e1, e2⟩
  ·have hby : b ≠ y := fun e => by have := how _ e1; rw [e, h2] at this; cases this
   have es : (ts.take (mk + 1)).map slv ++ ((ts.drop (mk + 1)).map slv ++ sp) = ts.map slv ++ sp := by
    rw [← List.append_assoc, ← List.map_append, List.take_append_drop]
   refine .inr ⟨b, (ts.drop (mk + 1)).map slv ++ sp, e1, ?_, ?_⟩
   ·rw [Heap.put_ne _ _ _ hby, e2, es]
   ·rw [es]; exact e3
 ·rw [List.getElem?_take] at hi
  split at hi
  ·exact h6 i t hi
  ·cases hi
theorem Qla {K : Heap → Prop} (h : DL o A H y Ws n) (hn : n ≤ 1000000) (k : ∀ o2 H2, Mv o A H o2 A H2 → DL o2 A H2 y (fun _ => Ws n) 0 → K H2) : QaH C (some (y, 0)) K H := by
 apply Qfn
 unfold QcH
 refine Qbq h hn fun t ht hc => ?_
 intro b nb
 have l1 := Heap.le_put nb (g := .row [slv t]) (m := true)
 have h' := h.up l1
 have hOH := h.oh
 have ob : ∀ w, o b = some w → False := fun w hw => hOH.oh _ _ hw nb
 have cb : (H.put b (.row [slv t])) b = some (true, .row [slv t]) := Heap.put_same ..
 obtain ⟨_, s, ts, h1, h2, hO, how, h5, h6⟩ := h'
 have hyb : y ≠ b := fun e => ob _ (by rw [← e]; exact h2)
 refine ⟨_, rfl, _, h1, by simp, ?_⟩
 show K ((H.put b (.row [slv t])).put y (.row [slv (Sl.of (some (b, 0)) 1 1)]))
 have hy2 : (o.set b .done) y = some .log := by rw [Own_.set_ne hyb]; exact h2
 have hcg : Chg (fun _ => True) o H (o.set b .done) ((H.put b (.row [slv t])).put y (.row [slv (Sl.of (some (b, 0)) 1 1)])) := (Chg.new (P := fun _ => True) (w := .done) (g := .row [slv t]) (m := true) nb ob trivial).trans (Chg.put hy2 trivial)
 refine k _ _ ⟨hcg, Heap.le.refl _, fun c hc => .inl hc⟩ ⟨hOH.chg hcg, Sl.of (some (b, 0)) 1 1, [t], Heap.put_same .., hy2, ⟨rfl, rfl, Nat.le_refl _, .inr ⟨b, [], rfl, by rw [Heap.put_ne _ _ _ hyb.symm]; exact cb, Nat.le_refl 1⟩⟩, fun q hq => ?_, rfl, fun i t' hi => ?_⟩
 ·simp [Sl.of] at hq; subst hq; rw [Own_.set_same]
 ·cases i with
  | zero => simp at hi; subst hi; exact ⟨ht, hc⟩
  | succ i => simp at hi
end
end
section
open Go Go.Proofs
section
variable {C : Ctx} {o o2 : Own_} {A B G H H0 H2 : Heap} {s t : Sl} {W W2 : List NR} {xs : List Qb} {y n : Nat} {Ws : Nat → List NR} {a : Nat → Sta} {v : NR} {x : Qb}
theorem okR.vz {r : List V} (h : okR r) : ∀ z ∈ r, vsize z ≤ 4611686018427387904 := fun z hz => by have := Qb6 hz; have := h.z; omega
theorem found {W : List NR} (hr : RiseN W) (hf : FineW W) (hx : inR v.2) : (∃ h : plc v W < W.length, cmpN W[plc v W] v = 0) ↔ v ∈ W := by
 rw [Qm8 hr hf.inW hx]
 exact ⟨fun ⟨h, e⟩ => ⟨h, (Qel (hf _ (List.getElem_mem h)).1.m hx.m).1 e⟩, fun ⟨h, e⟩ => ⟨h, (Qel (hf _ (List.getElem_mem h)).1.m hx.m).2 e⟩⟩
theorem Qnj {K : Bool → Heap → Prop} (h : DL o A H y Ws n) (hn : n ≤ 1000) (hf : FineW (Ws n)) (hr : RiseN (Ws n)) (hb : Bs o B H) (hx : AskN B v x) (k : ∀ b H2, H.le H2 → (b = true ↔ v ∈ Ws n) → K b H2) : QbG C (some (y, 0)) x K H := by
 apply QgY
 unfold Qd9
 intro b1 n1
 have l1 := Heap.le_put n1 (g := .row (Qb.c x)) (m := true)
 have c1 : (H.put b1 (.row (Qb.c x))) b1 = some (true, .row (Qb.c x)) := Heap.put_same ..
 generalize H.put b1 (.row (Qb.c x)) = E at *
 refine ⟨E, Heap.le.refl _, bxT (c := Qb.c) c1 ?_⟩
 refine Qbq (h.up l1) (by omega) fun t ht _ => ⟨Heap.le.refl _, ?_⟩
 refine Qkb ht (h.oh.le.trans l1) hf hx (hb.le.trans l1) fun b E2 l2 hiff => ⟨l2, ?_⟩
 refine fL (j := 1) (l2 _ _ c1) (t := x.L) rfl ?_
 refine Qjs (hx.is.2.le ((hb.le.trans l1).trans l2)) (by have := hx.ok.len; omega) hx.ok.b hx.ok.vz ?_
 refine k _ E2 (l1.trans l2) ?_
 rw [Bool.and_eq_true]
 constructor
 ·rintro ⟨h1, h2⟩
  exact (found hr hf ⟨hx.ok, h1⟩).1 (hiff.1 h2)
 ·intro hm
  have hi := (hf v hm).1
  exact ⟨hi.m, hiff.2 ((found hr hf hi).2 hm)⟩
/-- a list that was made is the last one -/
theorem QjI {K : Heap → Prop} {Hm Hf : Heap} (h : DL o A H y Ws n) (hn : n ≤ 1000) (hHm : H.le Hm) (hown : OwnF Hm Hf 2 s (xs.flatMap Qb.c)) (hR : RwR (A.or (Heap.new H Hf)) W xs) (hl : W.length ≤ 1000000)
 (k : ∀ o3 A3 H3, Mv o A H o3 A3 H3 → DL o3 A3 H3 y (extW Ws n W) (n + 1) → K H3) :
 nck (some (y, 0)) fun p55 => ldL Hf (p55.1, p55.2 + 0) fun x57 => apd ([slv Sl.nil]) 24 x57 ([slv s]) 1 (fun r59 H60 => nck (some (y, 0)) fun p61 => st (p61.1, p61.2 + 0) (slv r59) (fun H63 => K H63) H60) Hf := by
 have hHf := hHm.trans hown.le
 obtain ⟨w1, w2, w3, w4⟩ := Qf3 h.oh hHf
 have h2 := (h.up hHf).grow Heap.le_or w1 w2
 have hxl := hown.own.1
 rw [QdB] at hxl
 have hrd : rdsl (A.or (Heap.new H Hf)) s (xs.flatMap Qb.c) := QbK ((QdN hHm (Heap.le.refl _)).trans w3) hown.new.rdsl
 have hAle : A.le (A.or (Heap.new H Hf)) := Heap.le_or
 refine Qmq h2 (by omega) (NRows.of hrd (by omega) hR (by omega)) hown.own.2.2.1 fun o3 H3 m3 d3 => ?_
 exact k o3 _ H3 (Mv.trans ⟨Chg.of_le hHf, hAle, w4⟩ m3) d3
theorem Qkk {K : Bool → Int → Heap → Prop} (h : DL o A H y Ws n) (hn : n ≤ 1000) (hf : FineW (Ws n)) (hr : RiseN (Ws n)) (hl : (Ws n).length ≤ 1000) (hb : Bs o B H) (hx : AskN B v x)
 (k0 : mayR v.2 = false → ∀ H2, H.le H2 → K false 4 H2)
 (k1 : mayR v.2 = true → v ∈ Ws n → ∀ H2, H.le H2 → K false 0 H2)
 (k2 : mayR v.2 = true → v ∉ Ws n → ∀ o2 A2 H2, Mv o A H o2 A2 H2 → DL o2 A2 H2 y (extW Ws n ((Ws n).take (plc v (Ws n)) ++ ([v] ++ (Ws n).drop (plc v (Ws n))))) (n + 1) → K true 0 H2) : QbH C (some (y, 0)) x K H := by
 apply Qg0
 unfold Qeb
 intro b1 n1
 have l1 := Heap.le_put n1 (g := .row (Qb.c x)) (m := true)
 have c1 : (H.put b1 (.row (Qb.c x))) b1 = some (true, .row (Qb.c x)) := Heap.put_same ..
 generalize H.put b1 (.row (Qb.c x)) = E at *
 have hbE := hb.le.trans l1
 refine fL (j := 1) c1 (t := x.L) rfl ?_
 refine Qjs (hx.is.2.le hbE) (by have := hx.ok.len; omega) hx.ok.b hx.ok.vz ?_
 refine ift.of (fun hm => ?_) fun hm => ?_
 ·exact k0 (by simpa using hm) E l1
 have hm : mayR v.2 = true := by simpa using hm
 refine ⟨E, Heap.le.refl _, bxT (c := Qb.c) c1 ?_⟩
 refine Qbq (h.up l1) (by omega) fun t ht _ => ⟨Heap.le.refl _, ?_⟩
 refine Qkb ht (h.oh.le.trans l1) hf hx hbE fun b E2 l2 hiff => ⟨l2, ?_⟩
 have hin : inR v.2 := ⟨hx.ok, hm⟩
 refine ift.of (fun hb2 => k1 hm ((found hr hf hin).1 (hiff.1 hb2)) E2 (l1.trans l2)) fun hb2 => ?_
 have hno : v ∉ Ws n := fun hmem => by rw [hiff.2 ((found hr hf hin).2 hmem)] at hb2; cases hb2
 have hp := QjQ v (Ws n)
 have l12 := l1.trans l2
 have hAE2 := h.oh.le.trans l12
 have c2 := l2 _ _ c1
 refine Qbq (h.up l12) (by omega) fun t ht hc => ?_
 refine ht.cutL hc rfl hp fun t22 xs1 r1 r2 r3 => ?_
 have hx1 := r3.1
 rw [List.length_take] at hx1
 refine QfM (cs := []) (OwnF.nil E2 2) (QbK hAE2 r1) r2 (by simp; omega) fun r28 H29 o29 _ => ?_
 rw [List.nil_append] at o29
 have hE29 : E2.le (H29.off r28) := Heap.le_off o29.le o29.fresh
 have c29 := hE29 _ _ c2
 refine ⟨H29.off r28, Heap.off_le _ _, fS (j := 0) c29 (t := x.Rel) rfl (fL (j := 1) c29 (t := x.L) rfl ?_)⟩
 refine Qlp (hx.is.2.le ((hbE.trans l2).trans o29.le)) (Heap.le.refl _) (by have := hx.ok.z; omega) fun r37 H38 hM => ⟨(Heap.off_le _ _).trans hM.le, ?_⟩
 intro b40 n40
 have l40 := Heap.le_put n40 (g := .row (Qb.c (⟨x.Rel, r37⟩ : Qb) ++ [])) (m := true)
 have c40 : (H38.put b40 (.row (Qb.c (⟨x.Rel, r37⟩ : Qb) ++ []))) b40 = some (true, .row (Qb.c (⟨x.Rel, r37⟩ : Qb) ++ [])) := Heap.put_same ..
 refine ⟨((Heap.off_le _ _).trans hM.le).trans l40, ?_⟩
 generalize H38.put b40 (.row (Qb.c (⟨x.Rel, r37⟩ : Qb) ++ [])) = H41 at *
 have hle41 := hM.le.trans l40
 have hrd40 : rdsl H41 (Sl.of (some (b40, 0)) 1 1) ([(⟨x.Rel, r37⟩ : Qb)].flatMap Qb.c) := .inr ⟨rfl, (b40, 0), rfl, QbP c40 fun j w hj => by
  rw [Nat.zero_add]; rw [List.flatMap_cons, List.flatMap_nil] at hj; exact hj⟩
 refine QfM (o29.up hle41) hrd40 rfl (by simp; omega) fun r43 H44 o44 l44 => ⟨(Qmx hle41).trans (l44.trans (Heap.off_le _ _)), ?_⟩
 have hE44 := o44.le
 refine Qbq ((h.up l12).up hE44) (by omega) fun t' ht' hc' => ?_
 refine ht'.cutR hc' rfl hp fun t47 xs2 q1 q2 q3 => ?_
 have hx2 := q3.1
 rw [List.length_drop] at hx2
 refine QfM o44 (QbK (hAE2.trans hE44) q1) q2 (by simp; omega) fun r53 H54 o54 l54 => ?_
 have hrow : (Heap.new H29 H38).le (Heap.new H H54) := fun c e hc => by
  obtain ⟨w1, w2⟩ := Heap.new_inv hc
  have h41 : (H41.off r28) c = some e := Heap.off_some (l40 _ _ w2) fun q hq e' => by
   obtain ⟨g, hg⟩ := o29.own.mine hq
   rw [e', w1] at hg; cases hg
  exact Heap.new_some (Heap.off_le _ _ _ _ (l54 _ _ (l44 _ _ h41))) ((l12.trans o29.le).none w1)
 have hAle : A.le (A.or (Heap.new H H54)) := Heap.le_or
 obtain ⟨w1, w2, w3, w4⟩ := Qf3 h.oh (l12.trans o54.le)
 refine QjI h hn l12 o54 ?_ (by simp; omega) fun o3 A3 H3 m3 d3 => k2 hm hno o3 A3 H3 m3 d3
 rw [List.append_assoc]
 refine (r3.le hAle).app (RwR.app ⟨rfl, fun i v' x' hv' hx' => ?_⟩ (q3.le hAle))
 cases i with
 | zero => simp at hv' hx'; subst hv'; subst hx'; exact ⟨hx.is.1, hM.row.le (hrow.trans w3)⟩
 | succ i => simp at hv'
theorem Qkj {K : Bool → Int → Heap → Prop} (h : DL o A H y Ws n) (hn : n ≤ 1000) (hf : FineW (Ws n)) (hr : RiseN (Ws n)) (hl : (Ws n).length ≤ 1000) (hb : Bs o B H) (hx : AskN B v x)
 (k0 : mayR v.2 = false → ∀ H2, H.le H2 → K false 4 H2)
 (k1 : mayR v.2 = true → v ∉ Ws n → ∀ H2, H.le H2 → K false 0 H2)
 (k2 : mayR v.2 = true → v ∈ Ws n → ∀ o2 A2 H2, Mv o A H o2 A2 H2 → DL o2 A2 H2 y (extW Ws n ((Ws n).take (plc v (Ws n)) ++ (Ws n).drop (plc v (Ws n) + 1))) (n + 1) → K true 0 H2) : QbF C (some (y, 0)) x K H := by
 apply QgX
 unfold Qd8
 intro b1 n1
 have l1 := Heap.le_put n1 (g := .row (Qb.c x)) (m := true)
 have c1 : (H.put b1 (.row (Qb.c x))) b1 = some (true, .row (Qb.c x)) := Heap.put_same ..
 generalize H.put b1 (.row (Qb.c x)) = E at *
 have hbE := hb.le.trans l1
 refine fL (j := 1) c1 (t := x.L) rfl ?_
 refine Qjs (hx.is.2.le hbE) (by have := hx.ok.len; omega) hx.ok.b hx.ok.vz ?_
 refine ift.of (fun hm => ?_) fun hm => ?_
 ·exact k0 (by simpa using hm) E l1
 have hm : mayR v.2 = true := by simpa using hm
 refine ⟨E, Heap.le.refl _, bxT (c := Qb.c) c1 ?_⟩
 refine Qbq (h.up l1) (by omega) fun t ht _ => ⟨Heap.le.refl _, ?_⟩
 refine Qkb ht (h.oh.le.trans l1) hf hx hbE fun b E2 l2 hiff => ⟨l2, ?_⟩
 have hin : inR v.2 := ⟨hx.ok, hm⟩
 refine ift.of (fun hb2 => ?_) fun hb2 => ?_
 ·have hb2 : b = false := by simpa using hb2
  refine k1 hm (fun hmem => ?_) E2 (l1.trans l2)
  rw [hiff.2 ((found hr hf hin).2 hmem)] at hb2; cases hb2
 have hb2 : b = true := by simpa using hb2
 have hmem := (found hr hf hin).1 (hiff.1 hb2)
 obtain ⟨hp, _⟩ := hiff.1 hb2
 have l12 := l1.trans l2
 have hAE2 := h.oh.le.trans l12
 refine Qbq (h.up l12) (by omega) fun t ht hc => ?_
 refine ht.cutL hc rfl (by omega) fun t22 xs1 r1 r2 r3 => ?_
 have hx1 := r3.1
 rw [List.length_take] at hx1
 refine QfM (cs := []) (OwnF.nil E2 2) (QbK hAE2 r1) r2 (by simp; omega) fun r28 H29 o29 _ => ?_
 rw [List.nil_append] at o29
 refine Qbq ((h.up l12).up o29.le) (by omega) fun t' ht' hc' => ?_
 refine ht'.cutR (lo := plc v (Ws n) + 1) hc' (by rw [Qz (by omega) (by omega)]; omega) (by omega) fun t47 xs2 q1 q2 q3 => ?_
 have hx2 := q3.1
 rw [List.length_drop] at hx2
 refine QfM o29 (QbK (hAE2.trans o29.le) q1) q2 (by omega) fun r53 H54 o54 l54 => ?_
 have hAle : A.le (A.or (Heap.new H H54)) := Heap.le_or
 exact QjI h hn l12 o54 ((r3.le hAle).app (q3.le hAle)) (by simp; omega) fun o3 A3 H3 m3 d3 => k2 hm hmem o3 A3 H3 m3 d3
end
end
section
open Go Go.Proofs
def rwF (nm : Str) (W : List NR) : List (List V) := (W.filter fun z => z.1 == nm).map fun z => z.2
theorem QmM {nm : Str} {W : List NR} {z : NR} : rwF nm (W ++ [z]) = if z.1 == nm then rwF nm W ++ [z.2] else rwF nm W := by
 unfold rwF
 rw [List.filter_append, List.map_append]
 cases h : z.1 == nm <;> simp [h]
theorem QkZ {nm : Str} {W : List NR} (h : RiseN W) : Rise (rwF nm W) := by
 unfold rwF Rise
 rw [List.pairwise_map]
 refine List.Pairwise.imp_of_mem (fun {a b} ha hb hab => ?_) (h.filter _)
 have e1 : a.1 = nm := by simpa using (List.mem_filter.1 ha).2
 have e2 : b.1 = nm := by simpa using (List.mem_filter.1 hb).2
 unfold cmpN at hab
 rw [e1, e2, Lin.txt.refl trivial, if_neg (by simp)] at hab
 exact hab
theorem Qjj {nm : Str} {W : List NR} {r : List V} : r ∈ rwF nm W ↔ (nm, r) ∈ W := by
 unfold rwF
 rw [List.mem_map]
 constructor
 ·rintro ⟨z, hz, rfl⟩
  obtain ⟨h1, h2⟩ := List.mem_filter.1 hz
  have : z.1 = nm := by simpa using h2
  rw [← this]; exact h1
 ·intro h; exact ⟨_, List.mem_filter.2 ⟨h, by simp⟩, rfl⟩
def nmS (N : List Str) (z : NR) : List Str := if N.getLast? = some z.1 then N else N ++ [z.1]
def nmF (W : List NR) : List Str := W.foldl nmS []
theorem Qmv {W : List NR} {z : NR} : nmF (W ++ [z]) = nmS (nmF W) z := by unfold nmF; rw [List.foldl_append]; rfl
theorem QkP {W : List NR} {i : Nat} (h : i < W.length) : nmF (W.take (i + 1)) = nmS (nmF (W.take i)) W[i] := by
 rw [List.take_add_one, List.getElem?_eq_getElem h, Option.toList_some, Qmv]
structure NmI (W : List NR) (N : List Str) : Prop where
 rise : RiseT N
 mem : ∀ n, n ∈ N ↔ ∃ r, (n, r) ∈ W
 last : N.getLast? = W.getLast?.map fun z => z.1
 le : N.length ≤ W.length
theorem Qmw {W : List NR} {N : List Str} {z : NR} (h : NmI W N) (hr : RiseN (W ++ [z])) : NmI (W ++ [z]) (nmS N z) := by
 have hp := List.pairwise_append.1 hr
 unfold nmS
 have hmem : ∀ n, (∃ r, (n, r) ∈ W ++ [z]) ↔ (n ∈ N ∨ n = z.1) := fun n => by
  rw [h.mem]
  constructor
  ·rintro ⟨r, hr⟩
   rcases List.mem_append.1 hr with hr | hr
   ·exact .inl ⟨r, hr⟩
   ·rw [List.mem_singleton] at hr; exact .inr (by rw [← hr])
  ·rintro (⟨r, hr⟩ | rfl)
   ·exact ⟨r, List.mem_append_left _ hr⟩
   ·exact ⟨z.2, List.mem_append_right _ (List.mem_singleton.2 rfl)⟩
 have hle := h.le
 split
 ·rename_i hl
  have hin : z.1 ∈ N := List.mem_of_getLast? hl
  refine ⟨h.rise, fun n => ?_, by rw [hl]; simp, by simp; omega⟩
  rw [hmem]
  exact ⟨.inl, fun h => h.elim id fun e => by rw [e]; exact hin⟩
 ·rename_i hl
  refine ⟨List.pairwise_append.2 ⟨h.rise, List.pairwise_singleton _ _, fun a ha b hb => ?_⟩, fun n => ?_, by simp, by simp; omega⟩
  ·rw [List.mem_singleton] at hb; subst hb
   obtain ⟨r, hr2⟩ := (h.mem a).1 ha
   have hlt := hp.2.2 _ hr2 z (List.mem_singleton.2 rfl)
   have hc : vcmpS a z.1 < 0 ∨ vcmpS a z.1 = 0 := by
    unfold cmpN at hlt
    dsimp only at hlt
    split at hlt
    ·exact .inl hlt
    ·rename_i h0; exact .inr (by omega)
   refine hc.resolve_right fun h0 => ?_
   have e : a = z.1 := (vslt _ _).2.1.1 h0
   -- the last name is not less, and not greater
   cases hw : W.getLast? with
   | none =>
    rw [List.getLast?_eq_none_iff] at hw
    rw [hw] at hr2; cases hr2
   | some q =>
    have hlast := h.last
    rw [hw] at hlast
    have hqW := List.mem_of_getLast? hw
    have hqz := hp.2.2 q hqW z (List.mem_singleton.2 rfl)
    have hne : q.1 ≠ z.1 := fun e2 => hl (by rw [hlast, ← e2]; rfl)
    have hqz2 : vcmpS q.1 z.1 < 0 := by
     unfold cmpN at hqz
     split at hqz
     ·exact hqz
     ·rename_i h0
      exact absurd ((vslt q.1 z.1).2.1.1 (by omega)) hne
    have haq : vcmpS a q.1 ≤ 0 := by
     by_cases e3 : a = q.1
     ·rw [e3, Lin.txt.refl trivial]; exact Int.le_refl _
     ·obtain ⟨j, hj, ej⟩ := List.getElem_of_mem ha
      have hN : N.getLast? = some q.1 := hlast
      rw [List.getLast?_eq_getElem?] at hN
      obtain ⟨hk, ek⟩ := List.getElem?_eq_some_iff.1 hN
      by_cases hjk : j = N.length - 1
      ·exact absurd (by rw [← ej, ← ek]; simp only [hjk]) e3
      ·have := List.pairwise_iff_getElem.1 h.rise j (N.length - 1) hj hk (by omega)
       rw [ej, ek] at this; omega
    have := (Lin.txt.tr a q.1 z.1 trivial trivial trivial haq (by omega)).2 (.inr hqz2)
    omega
  ·rw [List.mem_append, List.mem_singleton, hmem]
theorem Qi9 {W : List NR} (hr : RiseN W) : ∀ i, i ≤ W.length → NmI (W.take i) (nmF (W.take i))
 | 0, _ => ⟨.nil, fun n => by simp [nmF], by simp [nmF], by simp [nmF]⟩
 | i + 1, hi => by
  have ih := Qi9 hr i (by omega)
  have hlt : i < W.length := by omega
  have e : W.take (i + 1) = W.take i ++ [W[i]] := by rw [List.take_add_one, List.getElem?_eq_getElem hlt]; rfl
  rw [QkP hlt, e]
  exact Qmw ih (by rw [← e]; exact hr.sublist (List.take_sublist _ _))
def dif : List NR → List NR → List Cg
 | [], W => W.map fun z => (z, 1)
 | W, [] => W.map fun z => (z, -1)
 | a :: W1, b :: W2 => if cmpN a b < 0 then (a, -1) :: dif W1 (b :: W2) else if cmpN a b > 0 then (b, 1) :: dif (a :: W1) W2 else dif W1 W2
termination_by W1 W2 => W1.length + W2.length
theorem QfO (W : List NR) : dif [] W = W.map fun z => (z, 1) := by unfold dif; rfl
theorem QhC (W : List NR) : dif W [] = W.map fun z => (z, -1) := by
 cases W with
 | nil => unfold dif; rfl
 | cons a W => unfold dif; rfl
theorem QkH (a b : NR) (W1 W2 : List NR) : dif (a :: W1) (b :: W2) = if cmpN a b < 0 then (a, -1) :: dif W1 (b :: W2) else if cmpN a b > 0 then (b, 1) :: dif (a :: W1) W2 else dif W1 W2 := by
 conv => lhs; unfold dif
structure DfI (W1 W2 : List NR) (D : List Cg) : Prop where
 rise : RiseN (D.map fun d => d.1)
 mem : ∀ x n, (x, n) ∈ D ↔ (n = 1 ∧ x ∈ W2 ∧ x ∉ W1) ∨ (n = -1 ∧ x ∈ W1 ∧ x ∉ W2)
theorem DfI.key {W1 W2 : List NR} {D : List Cg} (h : DfI W1 W2 D) {x : NR} (hx : x ∈ D.map fun d => d.1) : x ∈ W1 ∨ x ∈ W2 := by
 obtain ⟨⟨y, n⟩, hd, rfl⟩ := List.mem_map.1 hx
 rcases (h.mem _ _).1 hd with ⟨_, h1, _⟩ | ⟨_, h1, _⟩
 ·exact .inr h1
 ·exact .inl h1
theorem QkI : ∀ (k : Nat) (W1 W2 : List NR), W1.length + W2.length ≤ k → RiseN W1 → RiseN W2 → InW W1 → InW W2 → DfI W1 W2 (dif W1 W2)
 | k, [], W2, _, _, h2, _, _ => by
  rw [QfO]
  refine ⟨by rw [List.map_map]; simpa [Function.comp_def] using h2, fun x n => ?_⟩
  rw [List.mem_map]
  constructor
  ·rintro ⟨z, hz, e⟩
   injection e with e1 e2
   subst e1; subst e2
   exact .inl ⟨rfl, hz, by simp⟩
  ·rintro (⟨rfl, h1, _⟩ | ⟨_, h1, _⟩)
   ·exact ⟨x, h1, rfl⟩
   ·cases h1
 | k, a :: W1, [], _, h1, _, _, _ => by
  rw [QhC]
  refine ⟨by rw [List.map_map]; simpa [Function.comp_def] using h1, fun x n => ?_⟩
  rw [List.mem_map]
  constructor
  ·rintro ⟨z, hz, e⟩
   injection e with e1 e2
   subst e1; subst e2
   exact .inr ⟨rfl, hz, by simp⟩
  ·rintro (⟨_, h2, _⟩ | ⟨rfl, h2, _⟩)
   ·cases h2
   ·exact ⟨x, h2, rfl⟩
 | 0, a :: W1, b :: W2, hk, _, _, _, _ => by simp at hk
 | k + 1, a :: W1, b :: W2, hk, h1, h2, i1, i2 => by
  rw [QkH]
  have p1 := List.pairwise_cons.1 h1
  have p2 := List.pairwise_cons.1 h2
  have j1 : InW W1 := fun z hz => i1 z (List.mem_cons_of_mem _ hz)
  have j2 : InW W2 := fun z hz => i2 z (List.mem_cons_of_mem _ hz)
  simp only [List.length_cons] at hk
  by_cases hlt : cmpN a b < 0
  ·rw [if_pos hlt]
   have ih := QkI k W1 (b :: W2) (by simp only [List.length_cons]; omega) p1.2 h2 j1 i2
   have hab : ∀ z ∈ b :: W2, cmpN a z < 0 := fun z hz => by
    rcases List.mem_cons.1 hz with rfl | hz
    ·exact hlt
    ·exact (Lin.nr.tr a b z trivial trivial trivial (by omega) (by have := p2.1 z hz; omega)).2 (.inl hlt)
   have hna : a ∉ b :: W2 := fun h => by have := hab a h; rw [Lin.nr.refl trivial] at this; omega
   have hna1 : a ∉ W1 := fun h => by have := p1.1 a h; rw [Lin.nr.refl trivial] at this; omega
   refine ⟨List.pairwise_cons.2 ⟨fun z hz => ?_, ih.rise⟩, fun x n => ?_⟩
   ·exact (ih.key hz).elim (p1.1 z) (hab z)
   ·rw [List.mem_cons, ih.mem]
    constructor
    ·rintro (e | ⟨e, h3, h4⟩ | ⟨e, h3, h4⟩)
     ·injection e with e1 e2
      subst e1; subst e2
      exact .inr ⟨rfl, List.mem_cons_self .., hna⟩
     ·exact .inl ⟨e, h3, fun h => (List.mem_cons.1 h).elim (fun e => hna (e ▸ h3)) h4⟩
     ·exact .inr ⟨e, List.mem_cons_of_mem _ h3, h4⟩
    ·rintro (⟨e, h3, h4⟩ | ⟨e, h3, h4⟩)
     ·exact .inr (.inl ⟨e, h3, fun h => h4 (List.mem_cons_of_mem _ h)⟩)
     ·rcases List.mem_cons.1 h3 with h3 | h3
      ·exact .inl (by rw [h3, e])
      ·exact .inr (.inr ⟨e, h3, h4⟩)
  ·rw [if_neg hlt]
   have hanti := Lin.nr.anti a b trivial trivial
   by_cases hgt : cmpN a b > 0
   ·rw [if_pos hgt]
    have hba : cmpN b a < 0 := by omega
    have ih := QkI k (a :: W1) W2 (by simp only [List.length_cons]; omega) h1 p2.2 i1 j2
    have hab : ∀ z ∈ a :: W1, cmpN b z < 0 := fun z hz => by
     rcases List.mem_cons.1 hz with rfl | hz
     ·exact hba
     ·exact (Lin.nr.tr b a z trivial trivial trivial (by omega) (by have := p1.1 z hz; omega)).2 (.inl hba)
    have hnb : b ∉ a :: W1 := fun h => by have := hab b h; rw [Lin.nr.refl trivial] at this; omega
    refine ⟨List.pairwise_cons.2 ⟨fun z hz => ?_, ih.rise⟩, fun x n => ?_⟩
    ·exact (ih.key hz).elim (hab z) (p2.1 z)
    ·rw [List.mem_cons, ih.mem]
     constructor
     ·rintro (e | ⟨e, h3, h4⟩ | ⟨e, h3, h4⟩)
      ·injection e with e1 e2
       subst e1; subst e2
       exact .inl ⟨rfl, List.mem_cons_self .., hnb⟩
      ·exact .inl ⟨e, List.mem_cons_of_mem _ h3, h4⟩
      ·exact .inr ⟨e, h3, fun h => (List.mem_cons.1 h).elim (fun e => hnb (e ▸ h3)) h4⟩
     ·rintro (⟨e, h3, h4⟩ | ⟨e, h3, h4⟩)
      ·rcases List.mem_cons.1 h3 with h3 | h3
       ·exact .inl (by rw [h3, e])
       ·exact .inr (.inl ⟨e, h3, h4⟩)
      ·exact .inr (.inr ⟨e, h3, fun h => h4 (List.mem_cons_of_mem _ h)⟩)
   ·rw [if_neg hgt]
    have e : a = b := (Qel (i1 a (List.mem_cons_self ..)).m (i2 b (List.mem_cons_self ..)).m).1 (by omega)
    subst e
    have ih := QkI k W1 W2 (by omega) p1.2 p2.2 j1 j2
    have hn1 : a ∉ W1 := fun h => by have := p1.1 a h; rw [Lin.nr.refl trivial] at this; omega
    have hn2 : a ∉ W2 := fun h => by have := p2.1 a h; rw [Lin.nr.refl trivial] at this; omega
    refine ⟨ih.rise, fun x n => ?_⟩
    rw [ih.mem]
    constructor
    ·rintro (⟨e, h3, h4⟩ | ⟨e, h3, h4⟩)
     ·exact .inl ⟨e, List.mem_cons_of_mem _ h3, fun h => (List.mem_cons.1 h).elim (fun e => hn2 (e ▸ h3)) h4⟩
     ·exact .inr ⟨e, List.mem_cons_of_mem _ h3, fun h => (List.mem_cons.1 h).elim (fun e => hn1 (e ▸ h3)) h4⟩
    ·rintro (⟨e, h3, h4⟩ | ⟨e, h3, h4⟩)
     ·exact .inl ⟨e, (List.mem_cons.1 h3).resolve_left fun e => h4 (by rw [e]; exact List.mem_cons_self ..), fun h => h4 (List.mem_cons_of_mem _ h)⟩
     ·exact .inr ⟨e, (List.mem_cons.1 h3).resolve_left fun e => h4 (by rw [e]; exact List.mem_cons_self ..), fun h => h4 (List.mem_cons_of_mem _ h)⟩
theorem Qnl {S0 S : Sta} {W1 W2 : List NR} (h1 : IsW S0 W1) (h2 : IsW S W2) (i1 : InW W1) (i2 : InW W2) : IsD S0 S (dif W1 W2) := by
 have h := QkI _ W1 W2 (Nat.le_refl _) h1.rise h2.rise i1 i2
 refine ⟨h.rise, fun x n => ?_⟩
 rw [h.mem, h1.mem, h2.mem]
end
section
open Go Go.Proofs
section
variable {C : Ctx} {o o2 : Own_} {A B G H H0 H2 : Heap} {s t : Sl} {W W1 W2 : List NR} {y n : Nat} {Ws : Nat → List NR} {nm : Str}
theorem QkE {K : Sl → Heap → Prop} (h : DL o A H y Ws n) (hn : n ≤ 1000) (hl : (Ws n).length ≤ 1000) (k : ∀ s H2, H.le H2 → VRows H2 s (rwF nm (Ws n)) → K s H2) : Qay C (some (y, 0)) nm K H := by
 apply Qgm
 unfold Qdt
 refine ⟨fun q D => ∃ (i : Nat) (ys : List Sl), q.2 = (i : Int) ∧ i ≤ (Ws n).length ∧ OwnF H D 1 q.1 (ys.map slv) ∧ ys.length = (rwF nm ((Ws n).take i)).length ∧ ys.length ≤ i ∧ ∀ (j : Nat) (z : Sl) (l : List V), ys[j]? = some z → (rwF nm ((Ws n).take i))[j]? = some l → VRow A z l, fun q _ => (Ws n).length - q.2.toNat, ⟨0, [], rfl, Nat.zero_le _, OwnF.nil H 1, by simp [rwF], Nat.le_refl _, fun j z l hz => by simp at hz⟩, ?_⟩
 rintro ⟨u, _⟩ D ⟨i, ys, rfl, hi, hO, hyl, hyi, hy⟩
 dsimp only at hO ⊢
 have hD := h.up hO.le
 refine Qbq hD (by omega) fun t ht hc => ?_
 have hlen := SlIs.len ht
 rw [hlen]
 refine ift.of (fun hlt => ?_) fun hge => ?_
 ·have hil : i < (Ws n).length := by have := of_decide_eq_true hlt; omega
  refine ⟨fun u2 E => ∃ ys2 : List Sl, OwnF H E 1 u2 (ys2.map slv) ∧ ys2.length = (rwF nm ((Ws n).take (i + 1))).length ∧ ys2.length ≤ i + 1 ∧ ∀ (j : Nat) (z : Sl) (l : List V), ys2[j]? = some z → (rwF nm ((Ws n).take (i + 1)))[j]? = some l → VRow A z l, ?_, ?_⟩
  ·have htk : (Ws n).take (i + 1) = (Ws n).take i ++ [(Ws n)[i]] := by rw [List.take_add_one, List.getElem?_eq_getElem hil]; rfl
   rw [htk, QmM]
   refine Qbq hD (by omega) fun t2 ht2 hc2 => ?_
   refine SlIs.fS ht2 hD.oh.le (z := 2) (fun _ => rfl) (by omega) rfl hil (j := 0) (f := fun x => x.Rel) (fun _ => rfl) fun z hz => ?_
   rw [hz.1]
   refine ift.of (fun he => ?_) fun he => ?_
   ·rw [he, if_pos rfl]
    refine Qbq hD (by omega) fun t3 ht3 hc3 => ?_
    refine SlIs.fL ht3 hD.oh.le (z := 2) (fun _ => rfl) (by omega) rfl hil (j := 1) (f := fun x => x.L) (fun _ => rfl) fun z hz => ?_
    have hul := hO.own.1
    rw [List.length_map] at hul
    refine QcN (zc := [slv Sl.nil]) hO rfl (by omega) (by omega) fun r E q1 q2 => ⟨ys ++ [z.L], by rw [List.map_append]; exact q1, by simp [hyl], by simp; omega, fun j z' l hz' hl' => ?_⟩
    by_cases hj : j < ys.length
    ·rw [List.getElem?_append_left hj] at hz'
     rw [List.getElem?_append_left (by omega)] at hl'
     exact hy j z' l hz' hl'
    ·have hje : j = ys.length := by
      have := (List.getElem?_eq_some_iff.1 hz').1
      simp at this; omega
     subst hje
     rw [List.getElem?_append_right (Nat.le_refl _), Nat.sub_self] at hz'
     rw [hyl, List.getElem?_append_right (Nat.le_refl _), Nat.sub_self] at hl'
     simp at hz' hl'
     subst hz'; subst hl'
     exact hz.2
   ·rw [he, if_neg (by simp)]
    exact ⟨ys, hO, hyl, by omega, hy⟩
  ·rintro u2 E ⟨ys2, e1, e2, e3, e4⟩
   rw [Qz (by omega) (by omega)]
   exact ⟨⟨i + 1, ys2, by omega, by omega, e1, e2, e3, e4⟩, by first | omega | (dsimp only; omega)⟩
 ·have hie : i = (Ws n).length := by have := of_decide_eq_false hge; omega
  subst hie
  rw [List.take_length] at hyl hy
  have hul := hO.own.1
  rw [List.length_map] at hul
  refine k u D hO.le ⟨ys, hO.own.rdsl, by omega, hyl, fun j z l hz hl' => (hy j z l hz hl').le hD.oh.le⟩
theorem QjF {K : Sl → Heap → Prop} (h : DL o A H y Ws n) (hn : n ≤ 1000) (hl : (Ws n).length ≤ 1000) (hr : RiseN (Ws n)) (k : ∀ s H2, H.le H2 → NmL H2 s (nmF (Ws n)) → K s H2) : Qa4 C (some (y, 0)) K H := by
 apply QfH
 unfold QcZ
 refine ⟨fun q D => ∃ i : Nat, q.2 = (i : Int) ∧ i ≤ (Ws n).length ∧ OwnF H D 1 q.1 ((nmF ((Ws n).take i)).map sv), fun q _ => (Ws n).length - q.2.toNat, ⟨0, rfl, Nat.zero_le _, OwnF.nil H 1⟩, ?_⟩
 rintro ⟨u, _⟩ D ⟨i, rfl, hi, hO⟩
 dsimp only at hO ⊢
 have hD := h.up hO.le
 have hI := Qi9 hr i hi
 have hIl := hI.le
 rw [List.length_take] at hIl
 have hul := hO.own.1
 rw [List.length_map] at hul
 refine Qbq hD (by omega) fun t ht hc => ?_
 have hlen := SlIs.len ht
 rw [hlen]
 refine ift.of (fun hlt => ?_) fun hge => ?_
 ·have hil : i < (Ws n).length := by have := of_decide_eq_true hlt; omega
  have htk := QkP hil
  refine ⟨fun u2 E => OwnF H E 1 u2 ((nmF ((Ws n).take (i + 1))).map sv), ?_, ?_⟩
  ·refine ⟨fun b E => D.le E ∧ (b = true ↔ (nmF ((Ws n).take i)).getLast? ≠ some (Ws n)[i].1), ?_, ?_⟩
   ·refine ⟨D, Heap.le.refl _, ?_⟩
    refine ift.of (fun h0 => ?_) fun h0 => ?_
    ·have h0 : u.len = 0 := by have : (u.len : Int) = 0 := by simpa using h0
                               omega
     have hnil : nmF ((Ws n).take i) = [] := List.length_eq_zero_iff.1 (by omega)
     refine ⟨Heap.le.refl _, ?_⟩
     rw [hnil]; simp
    ·have h0 : u.len ≠ 0 := by have : ¬ (u.len : Int) = 0 := by simpa using h0
                               omega
     have hw1 : w .i64 ((u.len : Int) - 1) = ((u.len - 1 : Nat) : Int) := by rw [Qz (by omega) (by omega)]; omega
     rw [hw1]
     have hlast : (nmF ((Ws n).take i))[u.len - 1]? = some ((nmF ((Ws n).take i))[u.len - 1]'(by omega)) := List.getElem?_eq_getElem _
     refine QgI hO.own.rdsl (by omega) (by omega) (fun e => by
      have := congrArg List.length e
      rw [List.length_map, List.length_nil] at this; omega) fun p _ hp => ⟨(nmF ((Ws n).take i))[u.len - 1]'(by omega), ?_, ?_⟩
     ·have := Qce hp (u.len - 1) (sv ((nmF ((Ws n).take i))[u.len - 1]'(by omega))) (by rw [List.getElem?_map, hlast]; rfl)
      rw [show p.2 + ((u.len - 1 : Nat) : Int).toNat * 1 = p.2 + (u.len - 1) by omega]; exact this
     ·refine Qbq hD (by omega) fun t2 ht2 hc2 => ⟨Heap.le.refl _, ?_⟩
      refine SlIs.fS ht2 hD.oh.le (z := 2) (fun _ => rfl) (by omega) rfl hil (j := 0) (f := fun x => x.Rel) (fun _ => rfl) fun z hz => ⟨Heap.le.refl _, Heap.le.refl _, ?_⟩
      rw [hz.1, List.getLast?_eq_getElem?, show (nmF ((Ws n).take i)).length - 1 = u.len - 1 by omega, hlast]
      simp
   ·rintro b E ⟨hDE, hb⟩
    have hOE := hO.up hDE
    have hE := h.up hOE.le
    rw [htk]
    unfold nmS
    refine ift.of (fun hbt => ?_) fun hbf => ?_
    ·rw [if_neg (hb.1 hbt)]
     refine Qbq hE (by omega) fun t2 ht2 hc2 => ?_
     refine SlIs.fS ht2 hE.oh.le (z := 2) (fun _ => rfl) (by omega) rfl hil (j := 0) (f := fun x => x.Rel) (fun _ => rfl) fun z hz => ?_
     rw [hz.1]
     refine QcN (zc := [sv []]) hOE rfl (by omega) (by omega) fun r E2 q1 q2 => ?_
     rw [List.map_append]; exact q1
    ·rw [if_pos (Classical.byContradiction fun hc => by rw [hb.2 hc] at hbf; cases hbf)]
     exact hOE
  ·rintro u2 E e1
   rw [Qz (by omega) (by omega)]
   exact ⟨⟨i + 1, by omega, by omega, e1⟩, by first | omega | (dsimp only; omega)⟩
 ·have hie : i = (Ws n).length := by have := of_decide_eq_false hge; omega
  subst hie
  rw [List.take_length] at hO hul hIl
  refine k u D hO.le ⟨nmF (Ws n), by rw [Qku]; exact hO.own.rdsl, by omega, rfl, by omega, fun i v x hv hx => by rw [hv] at hx; injection hx with hx; exact hx.symm⟩
theorem Qi3 : ∀ l : List Qc, (l.flatMap Qc.c).length = l.length * 3
 | [] => rfl
 | a :: l => by rw [List.flatMap_cons, List.length_append, Qi3 l, List.length_cons, Nat.add_mul]; show 3 + _ = _; omega
/-- changes that grow -/
structure DfO (H D : Heap) (G : Heap) (u : Sl) (ds : List Cg) : Prop where
 ex : ∃ cs : List Qc, OwnF H D 3 u (cs.flatMap Qc.c) ∧ cs.length = ds.length ∧ ∀ (j : Nat) (d : Cg) (x : Qc), ds[j]? = some d → cs[j]? = some x → CgR G d x
theorem DfO.nil : DfO H H G Sl.nil [] := ⟨[], OwnF.nil H 3, rfl, fun j d x hd => by simp at hd⟩
theorem DfO.le {D : Heap} {u : Sl} {ds : List Cg} (h : DfO H D G u ds) : H.le D := by obtain ⟨cs, h1, _⟩ := h.ex; exact h1.le
theorem DfO.up {D E : Heap} {u : Sl} {ds : List Cg} (h : DfO H D G u ds) (hle : D.le E) : DfO H E G u ds := by
 obtain ⟨cs, h1, h2, h3⟩ := h.ex
 exact ⟨cs, h1.up hle, h2, h3⟩
theorem DfO.step {D : Heap} {u : Sl} {ds : List Cg} {d : Cg} {x : Qb} {c : Int} {K : Sl → Heap → Prop} (h : DfO H D G u ds) (hl : ds.length ≤ 1000000) (hx : NRIs G d.1 x) (hc : c = d.2) (k : ∀ r E, DfO H E G r (ds ++ [d]) → K r E) : apd (Qc.c Qc.zero) 48 u ((Qc.c (⟨x, c⟩ : Qc)) ++ []) 1 K D := by
 obtain ⟨cs, h1, h2, h3⟩ := h.ex
 have hul := h1.own.1
 rw [Qi3] at hul
 refine QcN (zc := Qc.c Qc.zero) h1 rfl (by omega) (by omega) fun r E q1 q2 => k r E ⟨cs ++ [⟨x, c⟩], ?_, by simp [h2], fun j d' x' hd' hx' => ?_⟩
 ·rw [List.flatMap_append, List.flatMap_cons, List.flatMap_nil]; exact q1
 ·by_cases hj : j < ds.length
  ·rw [List.getElem?_append_left hj] at hd'
   rw [List.getElem?_append_left (by omega)] at hx'
   exact h3 j d' x' hd' hx'
  ·have hje : j = ds.length := by
    have := (List.getElem?_eq_some_iff.1 hd').1
    simp at this; omega
   subst hje
   rw [List.getElem?_append_right (Nat.le_refl _), Nat.sub_self] at hd'
   rw [List.getElem?_append_right (by omega), h2, Nat.sub_self] at hx'
   simp at hd' hx'
   subst hd'; subst hx'
   exact ⟨hx.1, hx.2, hc⟩
theorem Qln {K : Sl → Heap → Prop} (h1 : NRows A s W1) (h2 : NRows A t W2) (hA : A.le H) (f1 : FineW W1) (f2 : FineW W2) (l1 : W1.length ≤ 1000) (l2 : W2.length ≤ 1000) (k : ∀ u H2, H.le H2 → NChs H2 u (dif W1 W2) → K u H2) : Qc7 C s t K H := by
 apply Qhj
 unfold QeB
 have e1 := SlIs.len h1
 have e2 := SlIs.len h2
 refine ⟨fun q D => ∃ (i j : Nat) (ds : List Cg), q.2 = ((i : Int), (j : Int)) ∧ i ≤ W1.length ∧ j ≤ W2.length ∧ DfO H D A q.1 ds ∧ ds.length ≤ i + j ∧ ds ++ dif (W1.drop i) (W2.drop j) = dif W1 W2, fun q _ => (W1.length - q.2.1.toNat) + (W2.length - q.2.2.toNat), ⟨0, 0, [], rfl, Nat.zero_le _, Nat.zero_le _, DfO.nil, Nat.le_refl _, rfl⟩, ?_⟩
 rintro ⟨u, _⟩ D ⟨i, j, ds, rfl, hi, hj, hO, hdl, hdf⟩
 dsimp only at hO ⊢
 rw [e1, e2]
 refine ift.of (fun hlt => ?_) fun hge => ?_
 ·rw [Bool.or_eq_true, decide_eq_true_iff, decide_eq_true_iff] at hlt
  refine ⟨fun c E => D.le E ∧ (c < 0 ∧ (∃ h : i < W1.length, ds ++ [(W1[i], (-1 : Int))] ++ dif (W1.drop (i + 1)) (W2.drop j) = dif W1 W2) ∨ c > 0 ∧ (∃ h : j < W2.length, ds ++ [(W2[j], (1 : Int))] ++ dif (W1.drop i) (W2.drop (j + 1)) = dif W1 W2) ∨ c = 0 ∧ i < W1.length ∧ j < W2.length ∧ ds ++ dif (W1.drop (i + 1)) (W2.drop (j + 1)) = dif W1 W2), ?_, ?_⟩
  ·refine ift.of (fun h => ?_) fun h => ?_
   ·have hie : i = W1.length := by have : (i : Int) = W1.length := by simpa using h
                                   omega
    have hjl : j < W2.length := by omega
    refine ⟨Heap.le.refl _, .inr (.inl ⟨by omega, hjl, ?_⟩)⟩
    rw [← hdf]
    subst hie
    rw [List.drop_length, QfO, QfO, List.drop_eq_getElem_cons hjl, List.map_cons, List.append_assoc]; rfl
   ·have hil : i < W1.length := by have : ¬ (i : Int) = W1.length := by simpa using h
                                   omega
    refine ift.of (fun h3 => ?_) fun h3 => ?_
    ·have hje : j = W2.length := by have : (j : Int) = W2.length := by simpa using h3
                                    omega
     refine ⟨Heap.le.refl _, .inl ⟨by omega, hil, ?_⟩⟩
     rw [← hdf]
     subst hje
     rw [List.drop_length, QhC, QhC, List.drop_eq_getElem_cons hil, List.map_cons, List.append_assoc]; rfl
    ·have hjl : j < W2.length := by have : ¬ (j : Int) = W2.length := by simpa using h3
                                    omega
     refine ⟨D, Heap.le.refl _, ?_⟩
     have hAD := hA.trans hO.le
     refine SlIs.ld h1 hAD (z := 2) (fun _ => rfl) (by omega) rfl hil fun x hx => ?_
     refine SlIs.ld h2 hAD (z := 2) (fun _ => rfl) (by omega) rfl hjl fun y hy => ?_
     have g1 := f1 _ (List.getElem_mem hil)
     have g2 := f2 _ (List.getElem_mem hjl)
     refine QiL (A := A) ⟨hx, g1.1.tookR, g1.2⟩ ⟨hy, g2.1.tookR, g2.2⟩ hAD fun E lE => ⟨lE, lE, ?_⟩
     rw [List.drop_eq_getElem_cons hil, List.drop_eq_getElem_cons hjl, QkH] at hdf
     by_cases c1 : cmpN W1[i] W2[j] < 0
     ·rw [if_pos c1] at hdf
      refine .inl ⟨c1, hil, ?_⟩
      rw [← hdf, List.drop_eq_getElem_cons hjl, List.append_assoc]; rfl
     ·rw [if_neg c1] at hdf
      by_cases c2 : cmpN W1[i] W2[j] > 0
      ·rw [if_pos c2] at hdf
       refine .inr (.inl ⟨c2, hjl, ?_⟩)
       rw [← hdf, List.drop_eq_getElem_cons hil, List.append_assoc]; rfl
      ·rw [if_neg c2] at hdf
       exact .inr (.inr ⟨by omega, hil, hjl, hdf⟩)
  ·rintro c E ⟨hDE, hc⟩
   have hOE := hO.up hDE
   have hAE := hA.trans hOE.le
   refine ift.of (fun h => ?_) fun h => ?_
   ·have h := of_decide_eq_true h
    rcases hc with ⟨_, hil, hd⟩ | ⟨h3, _⟩ | ⟨h3, _⟩
    ·refine SlIs.ld h1 hAE (z := 2) (fun _ => rfl) (by omega) rfl hil fun x hx => ?_
     refine hOE.step (d := (W1[i], -1)) (by omega) hx rfl fun r E2 hO2 => ?_
     rw [Qz (by omega) (by omega)]
     exact ⟨⟨i + 1, j, _, by simp, by omega, hj, hO2, by simp; omega, hd⟩, by first | omega | (dsimp only; omega)⟩
    ·omega
    ·omega
   ·have h := of_decide_eq_false h
    refine ift.of (fun h4 => ?_) fun h4 => ?_
    ·have h4 := of_decide_eq_true h4
     rcases hc with ⟨h3, _⟩ | ⟨_, hjl, hd⟩ | ⟨h3, _⟩
     ·omega
     ·refine SlIs.ld h2 hAE (z := 2) (fun _ => rfl) (by omega) rfl hjl fun x hx => ?_
      refine hOE.step (d := (W2[j], 1)) (by omega) hx rfl fun r E2 hO2 => ?_
      rw [Qz (by omega) (by omega)]
      exact ⟨⟨i, j + 1, _, by simp, hi, by omega, hO2, by simp; omega, hd⟩, by first | omega | (dsimp only; omega)⟩
     ·omega
    ·have h4 := of_decide_eq_false h4
     rcases hc with ⟨h3, _⟩ | ⟨h3, _⟩ | ⟨_, hil, hjl, hd⟩
     ·omega
     ·omega
     ·rw [Qz (by omega) (by omega), Qz (by omega) (by omega)]
      exact ⟨⟨i + 1, j + 1, ds, by simp, by omega, by omega, hOE, by omega, hd⟩, by first | omega | (dsimp only; omega)⟩
 ·rw [Bool.or_eq_false_iff, decide_eq_false_iff_not, decide_eq_false_iff_not] at hge
  have hie : i = W1.length := by omega
  have hje : j = W2.length := by omega
  subst hie; subst hje
  rw [List.drop_length, List.drop_length, QfO, List.map_nil, List.append_nil] at hdf
  rw [← hdf] at k
  obtain ⟨cs, q1, q2, q3⟩ := hO.ex
  have hul := q1.own.1
  rw [Qi3] at hul
  exact k u D hO.le ⟨cs, q1.own.rdsl, by omega, q2.symm, by omega, fun i v x hv hx => by
   obtain ⟨g1, g2, g3⟩ := q3 i v x hv hx
   exact ⟨g1, g2.le (hA.trans hO.le), g3⟩⟩
theorem QjG {jj : Int} {K : Sl → Int → Heap → Prop} (h : DL o A H y Ws n) (hn : n ≤ 1000) (hf : ∀ i, i ≤ n → FineW (Ws i) ∧ (Ws i).length ≤ 1000) (k1 : ¬ (0 ≤ jj ∧ jj ≤ n) → K Sl.nil 1 H) (k0 : 0 ≤ jj → jj ≤ n → ∀ u H2, H.le H2 → NChs H2 u (dif (Ws jj.toNat) (Ws n)) → K u 0 H2) : Qa5 C (some (y, 0)) jj K H := by
 apply QfI
 unfold Qc0
 have h' := h
 obtain ⟨h0, s, ts, h1, h2, h3, h4, h5, h6⟩ := h'
 have hl := h3.1
 rw [List.length_map] at hl
 refine ⟨fun b D => D = H ∧ (b = false ↔ 0 ≤ jj ∧ jj ≤ n), ?_, ?_⟩
 ·refine ift.of (fun h => ?_) (fun h => ?_)
  ·have h := of_decide_eq_true h
   exact ⟨rfl, (fun h => by cases h), fun h => by omega⟩
  ·have h := of_decide_eq_false h
   refine ⟨_, rfl, ⟨s, by rw [Qo h1]; rfl, rfl, ?_⟩⟩
   rw [decide_eq_false_iff_not]
   omega
 rintro b D ⟨rfl, hb⟩
 refine ift.of (fun hh => k1 fun h3 => by rw [hb.2 h3] at hh; cases hh) fun hh => ?_
 obtain ⟨g0, g1⟩ := hb.1 hh
 obtain ⟨mk, rfl⟩ := Int.eq_ofNat_of_zero_le g0
 have hmk : mk ≤ n := by omega
 have emk : (mk : Int).toNat = mk := by omega
 have ht : ts[mk]? = some (ts[mk]'(by omega)) := List.getElem?_eq_getElem _
 obtain ⟨q1, q2⟩ := h6 mk _ ht
 refine ⟨D, Heap.le.refl _, _, rfl, ⟨s, by rw [Qo h1]; rfl, ?_⟩⟩
 refine QgI h3.rdsl (by omega) (by omega) (fun e => by
  have := congrArg List.length e
  rw [List.length_map, List.length_nil] at this; omega) fun p _ hp => ⟨ts[mk]'(by omega), ?_, ?_⟩
 ·have := Qce hp mk (slv (ts[mk]'(by omega))) (by rw [List.getElem?_map, ht]; rfl)
  rw [show p.2 + (mk : Int).toNat * 1 = p.2 + mk by omega]; exact this
 ·refine Qbq h (by omega) fun t2 ht2 hc2 => ⟨Heap.le.refl _, ?_⟩
  obtain ⟨f1, l1⟩ := hf mk hmk
  obtain ⟨f2, l2⟩ := hf n (Nat.le_refl _)
  refine Qln q1 ht2 h0.le f1 f2 l1 l2 fun u H2 hle hc => ⟨hle, k0 g0 g1 u H2 hle ?_⟩
  rw [emk]; exact hc
end
end
section
open Go Go.Proofs
section
variable {C : Ctx} {A A' A2 B Z H E E2 D : Heap} {o o' o2 : Own_} {x y b1 n m N n2 N2 m2 c : Nat} {a a2 : Nat → Sta} {Ws Ws2 : Nat → List NR} {s t tr : Sl} {W : List NR} {S : Sta}
theorem Qnq (h : A.le B) {c : Nat} (hc : A c ≠ none) : B c ≠ none := by
 cases he : A c with
 | none => exact absurd he hc
 | some e => rw [h c e he]; simp
theorem LG.keep (h : LG o A E x a n N) (hA : A.le E2) (hk : ∀ c w, o c = some w → E2 c = E c) : LG o A E2 x a n N := by
 obtain ⟨⟨m, s, T, h1, h2, h3⟩, h4, h5⟩ := h
 exact ⟨⟨m, s, T, h1.keep hA hk, h2.keep fun c hw => ⟨hw, hk c _ hw⟩, h3⟩, h4, h5⟩
/-- both logs, the arguments (B), the step's own memory (Z) -/
structure UB (B Z E : Heap) (x y : Nat) (o : Own_) (A : Heap) (o' : Own_) (A' : Heap) (a : Nat → Sta) (Ws : Nat → List NR) (n m N : Nat) : Prop where
 l : LG o A E x a n N
 r : DL o' A' E y Ws m
 d : Dj o A o' A'
 b : Bs o B E
 b' : Bs o' B E
 zb : Bs o Z E
 zb' : Bs o' Z E
 za : ∀ c, Z c ≠ none → A c = none ∧ A' c = none ∧ B c = none
theorem UB.up (h : UB B Z E x y o A o' A' a Ws n m N) (hle : E.le E2) : UB B Z E2 x y o A o' A' a Ws n m N := ⟨h.l.up hle, h.r.up hle, h.d, h.b.up hle, h.b'.up hle, h.zb.up hle, h.zb'.up hle, h.za⟩
theorem UB.ml (h : UB B Z E x y o A o' A' a Ws n m N) (hm : Mv o A E o2 A2 E2) (hl : LG o2 A2 E2 x a2 n2 N2) : UB B Z E2 x y o2 A2 o' A' a2 Ws n2 m N2 := by
 obtain ⟨q1, q2⟩ := h.r.other hm h.d
 have hb := h.b.mv hm
 have hz := h.zb.mv hm
 refine ⟨hl, q1, q2, hb, ⟨hb.le, h.b'.ap⟩, hz, ⟨hz.le, h.zb'.ap⟩, fun c hc => ⟨?_, (h.za c hc).2⟩⟩
 cases he : A2 c with
 | none => rfl
 | some e =>
  rcases hm.n c (by rw [he]; simp) with h5 | h5
  ·exact absurd (h.za c hc).1 h5
  ·exact absurd h5 (Qnq h.zb.le hc)
theorem UB.mr (h : UB B Z E x y o A o' A' a Ws n m N) (hm : Mv o' A' E o2 A2 E2) (hr : DL o2 A2 E2 y Ws2 m2) : UB B Z E2 x y o A o2 A2 a Ws2 n m2 N := by
 obtain ⟨q1, q2⟩ := h.l.other hm h.d.symm
 have hb := h.b'.mv hm
 have hz := h.zb'.mv hm
 refine ⟨q1, hr, q2.symm, ⟨hb.le, h.b.ap⟩, hb, ⟨hz.le, h.zb.ap⟩, hz, fun c hc => ⟨(h.za c hc).1, ?_, (h.za c hc).2.2⟩⟩
 cases he : A2 c with
 | none => rfl
 | some e =>
  rcases hm.n c (by rw [he]; simp) with h5 | h5
  ·exact absurd (h.za c hc).2.1 h5
  ·exact absurd h5 (Qnq h.zb.le hc)
def noH : Heap := fun _ => none
theorem QkQ : noH.le E := fun c e h => by cases h
theorem UB.zone (h : UB B Z E x y o A o' A' a Ws n m N) (hk : ∀ c, Z c = none → E2 c = E c) : UB B noH E2 x y o A o' A' a Ws n m N := by
 have hzn : ∀ {M : Heap}, M.le E → (∀ c, Z c ≠ none → M c = none) → M.le E2 := fun hM hn c e hc => by
  have : Z c = none := by
   cases hh : Z c with
   | none => rfl
   | some e' => rw [hn c (by rw [hh]; simp)] at hc; cases hc
  rw [hk c this]; exact hM c e hc
 refine ⟨h.l.keep (hzn h.l.oh.le fun c hc => (h.za c hc).1) fun c w hw => hk c (h.zb.ap c w hw), h.r.keep (hzn h.r.oh.le fun c hc => (h.za c hc).2.1) fun c w hw => hk c (h.zb'.ap c w hw), h.d, ⟨hzn h.b.le fun c hc => (h.za c hc).2.2, h.b.ap⟩, ⟨hzn h.b'.le fun c hc => (h.za c hc).2.2, h.b'.ap⟩, ⟨QkQ, fun _ _ _ => rfl⟩, ⟨QkQ, fun _ _ _ => rfl⟩, fun c hc => absurd rfl hc⟩
theorem UB.setZ (h : UB B noH E x y o A o' A' a Ws n m N) (hle : E.le E2) : UB B (Heap.new E E2) E2 x y o A o' A' a Ws n m N := by
 refine ⟨h.l.up hle, h.r.up hle, h.d, h.b.up hle, h.b'.up hle, QiC h.l.oh hle, QiC h.r.oh hle, fun c hc => ?_⟩
 have hE : E c = none := by
  cases he : Heap.new E E2 c with
  | none => exact absurd he hc
  | some e => exact (Heap.new_inv he).1
 exact ⟨h.l.oh.le.none hE, h.r.oh.le.none hE, h.b.le.none hE⟩
/-- both tell the same -/
structure AlW (a : Nat → Sta) (Ws : Nat → List NR) (n c : Nat) : Prop where
 w : ∀ i, i ≤ n → IsW (a i) (Ws i)
 l : ∀ i, i ≤ n → (Ws i).length ≤ c
theorem LG.fineW (h : LG o A E x a n N) {i : Nat} (hi : i ≤ n) (hw : IsW (a i) W) : FineW W := fun z hz => ⟨h.f i hi z ((hw.mem z).1 hz), h.nm i hi z ((hw.mem z).1 hz)⟩
theorem AlW.ext (h : AlW a Ws n c) (hw : IsW S W) (hl : W.length ≤ c + 1) : AlW (ext a n S) (extW Ws n W) (n + 1) (c + 1) := by
 refine ⟨fun i hi => ?_, fun i hi => ?_⟩
 ·by_cases h1 : i ≤ n
  ·rw [Qe3 h1, Qko h1]; exact h.w i h1
  ·have : i = n + 1 := by omega
   subst this
   rw [Qe2, Qkn]; exact hw
 ·by_cases h1 : i ≤ n
  ·rw [Qko h1]; have := h.l i h1; omega
  ·have : i = n + 1 := by omega
   subst this
   rw [Qkn]; exact hl
theorem AlW.more (h : AlW a Ws n c) : AlW a Ws n (c + 1) := ⟨h.w, fun i hi => by have := h.l i hi; omega⟩
theorem AlW.sub (h : AlW a Ws n c) (hm : m ≤ n) : AlW a Ws m (c + 1) := ⟨fun i hi => h.w i (by omega), fun i hi => by have := h.l i (by omega); omega⟩
theorem AlW.one (h : AlW a Ws n c) : AlW (fun _ => a n) (fun _ => Ws n) 0 (c + 1) := ⟨fun i hi => h.w n (Nat.le_refl _), fun i hi => by have := h.l n (Nat.le_refl _); omega⟩
/-- how far it has come -/
structure Bnd (N n c : Nat) : Prop where
 s : N + 2 * n ≤ 4 * c
 n : n ≤ c
/-- a step that goes on -/
def Go_ (B Z : Heap) (x y c : Nat) (J : Bool → Heap → Prop) : Prop := ∀ o A o' A' a Ws n N E, UB B Z E x y o A o' A' a Ws n n N → AlW a Ws n (c + 1) → Bnd N n (c + 1) → J true E
theorem ldRow {op : Qk} {K : Qb → Prop} {mu : Bool} (hZ : Z.le E) (hb : Z b1 = some (mu, .row (Qk.c op))) (k : K op.Row) : ldT E Qb.c ((b1, 0).1, (b1, 0).2 + 2) K :=
 fT (j := 2) (hZ _ _ hb) (fun i v hv => by
  match i with
  | 0 => exact hv
  | 1 => exact hv
  | i + 2 => simp [Qb.c] at hv) k
theorem QmF {J : Bool → Heap → Prop} {op : Qk} {mu : Bool} {r : List V} {nm : Str} (hFm : FmtC C) (u : UB B Z E x y o A o' A' a Ws n n N) (al : AlW a Ws n c) (bd : Bnd N n c) (hc : c ≤ 900)
 (ht : VRow Z tr r) (hv : AskN B (nm, r) op.Row) (hb : Z b1 = some (mu, .row (Qk.c op))) (k : Go_ B Z x y c J) :
 QE C (some (x, 0)) ⟨nm, tr⟩ (fun r36 r37 H38 => ldT H38 Qb.c ((b1, 0).1, (b1, 0).2 + 2) fun x39 => QbH C (some (y, 0)) x39 (fun r41 r42 H43 => J ((r36 == r41) && ((r37 : Int) == r42)) H43) H38) E := by
 have hn := bd.n
 have hbs := bd.s
 have hw := al.w n (Nat.le_refl _)
 have hwl := al.l n (Nat.le_refl _)
 have hf := u.l.fineW (Nat.le_refl _) hw
 refine Qlq hFm u.l (by omega) u.zb ht hv.ok hv.nm (fun hm H2 l2 => ?_) (fun hm hin H2 l2 => ?_) fun hm hno o2 A2 H2 m2 g2 => ?_
 ·have u2 := u.up l2
  refine ldRow u2.zb.le hb ?_
  refine Qkk u2.r (by omega) hf hw.rise (by omega) u2.b' hv (fun _ H3 l3 => ?_) (fun h => ?_) fun h => ?_
  ·exact k _ _ _ _ _ _ _ _ _ (u2.up l3) al.more ⟨by omega, by omega⟩
  ·dsimp only at h; rw [hm] at h; cases h
  ·dsimp only at h; rw [hm] at h; cases h
 ·have u2 := u.up l2
  refine ldRow u2.zb.le hb ?_
  refine Qkk u2.r (by omega) hf hw.rise (by omega) u2.b' hv (fun h => ?_) (fun _ _ H3 l3 => ?_) fun _ hno => ?_
  ·dsimp only at h; rw [hm] at h; cases h
  ·exact k _ _ _ _ _ _ _ _ _ (u2.up l3) al.more ⟨by omega, by omega⟩
  ·exact absurd ((hw.mem _).2 hin) hno
 ·have u2 := u.ml m2 g2
  refine ldRow u2.zb.le hb ?_
  refine Qkk u2.r (by omega) hf hw.rise (by omega) u2.b' hv (fun h => ?_) (fun _ hin => ?_) fun _ hnin o3 A3 H3 m3 d3 => ?_
  ·dsimp only at h; rw [hm] at h; cases h
  ·exact absurd ((hw.mem _).1 hin) hno
  ·have hp := QjQ (nm, r) (Ws n)
   exact k _ _ _ _ _ _ _ _ _ (u2.mr m3 d3) (al.ext (Qno hw hf.inW ⟨hv.ok, hm⟩ hnin) (by simp; omega)) ⟨by omega, by omega⟩
theorem Qmp {J : Bool → Heap → Prop} {op : Qk} {mu : Bool} {r : List V} {nm : Str} (hFm : FmtC C) (u : UB B Z E x y o A o' A' a Ws n n N) (al : AlW a Ws n c) (bd : Bnd N n c) (hc : c ≤ 900)
 (ht : VRow Z tr r) (hv : AskN B (nm, r) op.Row) (hb : Z b1 = some (mu, .row (Qk.c op))) (k : Go_ B Z x y c J) :
 QaC C (some (x, 0)) ⟨nm, tr⟩ (fun r36 r37 H38 => ldT H38 Qb.c ((b1, 0).1, (b1, 0).2 + 2) fun x39 => QbF C (some (y, 0)) x39 (fun r41 r42 H43 => J ((r36 == r41) && ((r37 : Int) == r42)) H43) H38) E := by
 have hn := bd.n
 have hbs := bd.s
 have hw := al.w n (Nat.le_refl _)
 have hwl := al.l n (Nat.le_refl _)
 have hf := u.l.fineW (Nat.le_refl _) hw
 refine QmZ hFm u.l (by omega) u.zb ht hv.ok (fun hm H2 l2 => ?_) (fun hm hin H2 l2 => ?_) fun hm hno o2 A2 H2 m2 g2 => ?_
 ·have u2 := u.up l2
  refine ldRow u2.zb.le hb ?_
  refine Qkj u2.r (by omega) hf hw.rise (by omega) u2.b' hv (fun _ H3 l3 => ?_) (fun h => ?_) fun h => ?_
  ·exact k _ _ _ _ _ _ _ _ _ (u2.up l3) al.more ⟨by omega, by omega⟩
  ·dsimp only at h; rw [hm] at h; cases h
  ·dsimp only at h; rw [hm] at h; cases h
 ·have u2 := u.up l2
  refine ldRow u2.zb.le hb ?_
  refine Qkj u2.r (by omega) hf hw.rise (by omega) u2.b' hv (fun h => ?_) (fun _ _ H3 l3 => ?_) fun _ hyes => ?_
  ·dsimp only at h; rw [hm] at h; cases h
  ·exact k _ _ _ _ _ _ _ _ _ (u2.up l3) al.more ⟨by omega, by omega⟩
  ·exact absurd ((hw.mem _).1 hyes) hin
 ·have u2 := u.ml m2 g2
  refine ldRow u2.zb.le hb ?_
  refine Qkj u2.r (by omega) hf hw.rise (by omega) u2.b' hv (fun h => ?_) (fun _ hnin => ?_) fun _ hin o3 A3 H3 m3 d3 => ?_
  ·dsimp only at h; rw [hm] at h; cases h
  ·exact absurd ((hw.mem _).2 hno) hnin
  ·have hp := QjQ (nm, r) (Ws n)
   exact k _ _ _ _ _ _ _ _ _ (u2.mr m3 d3) (al.ext (Qnn hw hf.inW ⟨hv.ok, hm⟩ hin) (by simp; omega)) ⟨by omega, by omega⟩
theorem Qlu {J : Bool → Heap → Prop} {op : Qk} {mu : Bool} (u : UB B Z E x y o A o' A' a Ws n n N) (al : AlW a Ws n c) (bd : Bnd N n c) (hc : c ≤ 900) (hb : Z b1 = some (mu, .row (Qk.c op))) (k : Go_ B Z x y c J) :
 dr E fun Hs58 => ldI Hs58 .i64 ((b1, 0).1, (b1, 0).2 + 1) fun x60 => ldI Hs58 .i64 ((b1, 0).1, (b1, 0).2 + 1) fun x62 =>
  QaU C (some (x, 0)) x60 (fun r65 H66 => Heap.le Hs58 H66 ∧ Qbi C (some (y, 0)) x62 (fun r68 H69 => Heap.le Hs58 H69 ∧ J ((r65 : Int) == r68) H69) H66) E := by
 have hn := bd.n
 have hbs := bd.s
 refine ⟨Z, u.zb.le, fI (j := 1) hb rfl (fI (j := 1) hb rfl ?_)⟩
 refine Qlm u.l (by omega) (fun hno => ⟨u.zb.le, ?_⟩) fun g0 g1 o2 H2 m2 l2 => ?_
 ·refine QkD u.r (by omega) (fun _ => ⟨u.zb.le, ?_⟩) fun g0 g1 => absurd ⟨g0, g1⟩ hno
  exact k _ _ _ _ _ _ _ _ _ u al.more ⟨by omega, by omega⟩
 ·have u2 := u.ml m2 l2
  refine ⟨u2.zb.le, QkD u2.r (by omega) (fun hno => absurd ⟨g0, g1⟩ hno) fun _ _ H3 m3 d3 => ?_⟩
  have u3 := u2.mr m3 d3
  exact ⟨u3.zb.le, k _ _ _ _ _ _ _ _ _ u3 (al.sub (by omega)) ⟨by omega, by omega⟩⟩
theorem Qkp {J : Bool → Heap → Prop} (u : UB B Z E x y o A o' A' a Ws n n N) (al : AlW a Ws n c) (bd : Bnd N n c) (hc : c ≤ 900) (k : Go_ B Z x y c J) :
 Qa6 C (some (x, 0)) (fun H101 => QaH C (some (y, 0)) (fun H102 => J true H102) H101) E := by
 have hn := bd.n
 have hbs := bd.s
 refine Qlo u.l fun H2 m2 l2 => ?_
 have u2 := u.ml m2 l2
 refine Qla u2.r (by omega) fun o3 H3 m3 d3 => ?_
 exact k _ _ _ _ _ _ _ _ _ (u2.mr m3 d3) al.one ⟨by omega, by omega⟩
end
end
section
open Go Go.Proofs
section
variable {C : Ctx} {A A' A2 B Z H E E2 D : Heap} {o o' o2 : Own_} {x y b1 b17 n m N n2 N2 m2 c : Nat} {a a2 : Nat → Sta} {Ws Ws2 : Nat → List NR} {s t tr : Sl} {W : List NR} {S : Sta} {T : List (List V)} {ys : List Sl} {R : List V → Prop} {ws : List (Qc × NR)}
theorem Ql0 {H H2 : Heap} : ∀ {cs : List Value} {p : Nat × Nat}, H2 p.1 = H p.1 → rds H p cs → rds H2 p cs
 | [], _, _, _ => trivial
 | v :: r, p, h, ⟨h1, h2⟩ => ⟨by unfold rd at h1 ⊢; rw [h]; exact h1, Ql0 (p := (p.1, p.2 + 1)) h h2⟩
theorem QkX {H H2 : Heap} {s : Sl} {cs : List Value} (h : ∀ q, s.p = some q → H2 q.1 = H q.1) (hr : rdsl H s cs) : rdsl H2 s cs := by
 rcases hr with hr | ⟨hx, q, hq, hr⟩
 ·exact .inl hr
 ·exact .inr ⟨hx, q, hq, Ql0 (h q hq) hr⟩
theorem Told.up {ys : List Sl} (h : Told D E R T s ys) (hle : E.le E2) : Told D E2 R T s ys := by
 refine ⟨⟨h.og.own.up hle, h.og.le, fun j l y hj hy => (h.og.done j l y hj hy).up fun c e hc => ?_⟩, h.len, h.rise, h.mem⟩
 exact Heap.off_some (hle _ _ (Heap.off_le _ _ _ _ hc)) fun p hp e' => by
  have := Heap.off_fresh s E p hp
  rw [e', hc] at this; cases this
theorem OgC.up (h : OgC D E ws s) (hle : E.le E2) : OgC D E2 ws s := by
 refine ⟨h.own.up hle, fun z hz => ⟨(h.done z hz).1.up fun c e hc => ?_, (h.done z hz).2⟩⟩
 exact Heap.off_some (hle _ _ (Heap.off_le _ _ _ _ hc)) fun p hp e' => by
  have := Heap.off_fresh s E p hp
  rw [e', hc] at this; cases this
/-- the rows told are written over, one after the other -/
theorem QmW {K : Heap → Prop} (h : Told D E R T s ys) (hl : T.length ≤ 1000000) (k : ∀ E2, D.le E2 → K E2) :
 lp (α := Int) 0 E (fun x149 J150 H151 => ift (decide ((x149 : Int) < (Sl.len s : Int))) (ixa s x149 fun p153 => ldL H151 (p153.1, p153.2 + (x149 : Int).toNat * 1) fun x158 => QF C x158 (fun H160 => J150 (w .i64 (x149 + 1)) H160) H151) (K H151)) := by
 have hsl : s.len = ys.length := by have := h.og.own.len; simpa using this
 have hyl := h.len
 have hSp : ∀ j, (hj : j < ys.length) → ∃ k, Sp (fun c => D c = none ∧ ∀ p, s.p = some p → p.1 ≠ c) E k ys[j] := fun j hj => by
  obtain ⟨k, hk⟩ := (h.og.done j _ _ (List.getElem?_eq_getElem (by omega)) (List.getElem?_eq_getElem hj)).sp
  refine ⟨k, hk.to fun b e' hb' he' => ⟨⟨hb', fun p hp hpc => ?_⟩, Heap.off_le _ _ _ _ he'⟩⟩
  have := Heap.off_fresh s E p hp
  rw [hpc, he'] at this; cases this
 refine ⟨fun z F => D.le F ∧ ∃ i : Nat, z = (i : Int) ∧ i ≤ ys.length ∧ (∀ q, s.p = some q → F q.1 = E q.1) ∧ ∀ j, (hj : j < ys.length) → ∃ k, Sp (fun c => D c = none ∧ ∀ p, s.p = some p → p.1 ≠ c) F k ys[j], fun z _ => ys.length - z.toNat, ⟨h.og.own.le, 0, rfl, Nat.zero_le _, fun _ _ => rfl, hSp⟩, ?_⟩
 rintro _ F ⟨hF, i, rfl, hi, hB, hS⟩
 have hr := QkX hB h.og.own.own.rdsl
 rw [hsl]
 refine ift.of (fun hlt => ?_) fun _ => k F hF
 have hil : i < ys.length := by have := of_decide_eq_true hlt; omega
 have hix : ixa s (i : Int) fun p => ldL F (p.1, p.2 + ((i : Nat) : Int).toNat * 1) fun x158 => x158 = ys[i] := by
  rw [Int.toNat_natCast, Nat.mul_one]
  refine QgI hr (by omega) (by omega) (fun e => by have := congrArg List.length e; simp at this; rw [this] at hil; simp at hil) fun p hp hr2 => ?_
  exact ⟨ys[i], Qce hr2 i _ (by simp [hil]), rfl⟩
 obtain ⟨p, p1, p2, p3, p4, t, t1, t2⟩ := hix
 refine ⟨p, p1, p2, p3, by rw [hsl] at p4; rw [hsl]; exact p4, t, t1, ?_⟩
 subst t2
 obtain ⟨kk, hkk⟩ := hS i hil
 refine Qjm hkk fun F2 f1 f2 => ?_
 rw [Qz (by omega) (by omega)]
 refine ⟨⟨fun c e hc => ?_, i + 1, by omega, by omega, fun q hq => ?_, fun j hj => ?_⟩, by first | omega | (dsimp only; omega)⟩
 ·rw [f1 c fun hn => by rw [hn.1] at hc; cases hc]; exact hF c e hc
 ·rw [f1 q.1 fun hn => hn.2 q hq rfl]; exact hB q hq
 ·obtain ⟨k2, hk2⟩ := hS j hj
  exact ⟨k2, f2 _ _ hk2⟩
/-- likewise the rows of changes -/
theorem Qj3 {K : Heap → Prop} (h : OgC D E ws s) (hl : ws.length ≤ 1000000) (k : ∀ E2, D.le E2 → K E2) :
 lp (α := Int) 0 E (fun x88 J89 H90 => ift (decide ((x88 : Int) < (Sl.len s : Int))) (ixa s x88 fun p92 => ldL H90 (((p92.1, p92.2 + (x88 : Int).toNat * 3).1, (p92.1, p92.2 + (x88 : Int).toNat * 3).2 + 0).1, ((p92.1, p92.2 + (x88 : Int).toNat * 3).1, (p92.1, p92.2 + (x88 : Int).toNat * 3).2 + 0).2 + 1) fun x97 => QF C x97 (fun H99 => J89 (w .i64 (x88 + 1)) H99) H90) (K H90)) := by
 have hsl : s.len = ws.length := by have := h.own.own.1; rw [Qhb] at this; omega
 have hSp : ∀ j, (hj : j < ws.length) → ∃ k, Sp (fun c => D c = none ∧ ∀ p, s.p = some p → p.1 ≠ c) E k ws[j].1.Row.L := fun j hj => by
  obtain ⟨k, hk⟩ := (h.done _ (List.getElem_mem hj)).1.sp
  refine ⟨k, hk.to fun b e' hb' he' => ⟨⟨hb', fun p hp hpc => ?_⟩, Heap.off_le _ _ _ _ he'⟩⟩
  have := Heap.off_fresh s E p hp
  rw [hpc, he'] at this; cases this
 refine ⟨fun z F => D.le F ∧ ∃ i : Nat, z = (i : Int) ∧ i ≤ ws.length ∧ (∀ q, s.p = some q → F q.1 = E q.1) ∧ ∀ j, (hj : j < ws.length) → ∃ k, Sp (fun c => D c = none ∧ ∀ p, s.p = some p → p.1 ≠ c) F k ws[j].1.Row.L, fun z _ => ws.length - z.toNat, ⟨h.own.le, 0, rfl, Nat.zero_le _, fun _ _ => rfl, hSp⟩, ?_⟩
 rintro _ F ⟨hF, i, rfl, hi, hB, hS⟩
 have hr := QkX hB h.own.own.rdsl
 rw [hsl]
 refine ift.of (fun hlt => ?_) fun _ => k F hF
 have hil : i < ws.length := by have := of_decide_eq_true hlt; omega
 have hix : ixa s (i : Int) fun p => ldL F (p.1, p.2 + ((i : Nat) : Int).toNat * 3 + 0 + 1) fun x158 => x158 = ws[i].1.Row.L := by
  rw [Int.toNat_natCast]
  refine QgI hr (by omega) (by omega) (fun e => by have := congrArg List.length e; rw [Qhb, List.length_nil] at this; omega) fun p hp hr2 => ?_
  refine ⟨ws[i].1.Row.L, ?_, rfl⟩
  have := Qce hr2 (i * 3 + 1) _ (QfQ (fun z : Qc × NR => Qc.c z.1) 3 (fun _ => rfl) ws i _ (List.getElem?_eq_getElem hil) 1 _ rfl)
  rw [show p.2 + i * 3 + 0 + 1 = p.2 + (i * 3 + 1) by omega]; exact this
 obtain ⟨p, p1, p2, p3, p4, t, t1, t2⟩ := hix
 refine ⟨p, p1, p2, p3, by rw [hsl] at p4; rw [hsl]; exact p4, t, t1, ?_⟩
 subst t2
 obtain ⟨kk, hkk⟩ := hS i hil
 refine Qjm hkk fun F2 f1 f2 => ?_
 rw [Qz (by omega) (by omega)]
 refine ⟨⟨fun c e hc => ?_, i + 1, by omega, by omega, fun q hq => ?_, fun j hj => ?_⟩, by first | omega | (dsimp only; omega)⟩
 ·rw [f1 c fun hn => by rw [hn.1] at hc; cases hc]; exact hF c e hc
 ·rw [f1 q.1 fun hn => hn.2 q hq rfl]; exact hB q hq
 ·obtain ⟨k2, hk2⟩ := hS j hj
  exact ⟨k2, f2 _ _ hk2⟩
theorem Qfz {ls : List (List V)} {s t : Sl} {K : Bool → Heap → Prop} (hs : VRows A s ls) (ht : VRows B t ls) (hA : A.le H) (hB : B.le H) (hn : ls.length ≤ 140737488355328) (hb : ∀ l ∈ ls, VBs l ∧ l.length ≤ 140737488355328) (k : K true H) : Qax C s t K H := by
 apply Qgk
 unfold Qdr
 rw [hs.len, ht.len]
 refine Qi (by simp) ?_
 refine ⟨fun x D => D = H ∧ ∃ i : Nat, x = (i : Int) ∧ i ≤ ls.length, fun x _ => ls.length - x.toNat, ⟨rfl, 0, rfl, Nat.zero_le _⟩, ?_⟩
 rintro _ D ⟨rfl, i, rfl, hi⟩
 refine ift.of (fun h => ?_) (fun h => k)
 have hlt : i < ls.length := by have := of_decide_eq_true h; omega
 have hm := hb _ (List.getElem_mem hlt)
 refine ⟨_, Heap.le.refl _, hs.ld hA rfl hlt fun x hx => ht.ld hB rfl hlt fun y hy => Qgj (hx.le hA) (hy.le hB) hm.2 hm.1 ⟨Heap.le.refl _, ?_⟩⟩
 rw [QgC.2 rfl]
 refine Qi rfl ?_
 rw [Qz (by omega) (by omega)]
 exact ⟨⟨rfl, i + 1, by omega, by omega⟩, by first | omega | (dsimp only; omega)⟩
theorem Qk7 {A B : Heap} {l : List Str} {s t : Sl} {K : Bool → Heap → Prop} (hs : NmL A s l) (ht : NmL B t l) (hA : A.le H) (hB : B.le H) (k : K true H) : QbN C s t K H := by
 apply QfG
 unfold QcY
 have l1 := SlIs.len hs
 have l2 := SlIs.len ht
 have hb := SlIs.bd hs
 refine Qi (by rw [l1, l2]; simp) ?_
 refine ⟨fun x D => D = H ∧ ∃ i : Nat, x = (i : Int) ∧ i ≤ l.length, fun x _ => l.length - x.toNat, ⟨rfl, 0, rfl, Nat.zero_le _⟩, ?_⟩
 rintro _ D ⟨rfl, i, rfl, hi⟩
 rw [l1]
 refine ift.of (fun h => ?_) (fun h => k)
 have hlt : i < l.length := by have := of_decide_eq_true h; omega
 refine SlIs.at_ hs hA (z := 1) (fun _ => rfl) (by omega) rfl hlt fun p y hy hr => ⟨y, hr 0 _ rfl, ?_⟩
 refine SlIs.at_ ht hB (z := 1) (fun _ => rfl) (by omega) rfl hlt fun p z hz hr => ⟨z, hr 0 _ rfl, ?_⟩
 rw [hy, hz]
 refine Qi (by simp) ?_
 rw [Qz (by omega) (by omega)]
 exact ⟨⟨rfl, i + 1, by omega, by omega⟩, by first | omega | (dsimp only; omega)⟩
theorem NChs.nil {M : Heap} : NChs M Sl.nil [] := ⟨[], .inl rfl, rfl, rfl, by simp, fun i v x hv => by simp at hv⟩
theorem Qlk {J : Bool → Heap → Prop} {op : Qk} {mu : Bool} (u : UB B Z E x y o A o' A' a Ws n n N) (al : AlW a Ws n c) (bd : Bnd N n c) (hc : c ≤ 900) (hb : Z b1 = some (mu, .row (Qk.c op))) (k : Go_ B Z x y c J) :
 ldI E .i64 ((b1, 0).1, (b1, 0).2 + 1) fun x71 => QW C (some (x, 0)) x71 (fun r73 r74 H75 => ldI H75 .i64 ((b1, 0).1, (b1, 0).2 + 1) fun x76 => Qa5 C (some (y, 0)) x76 (fun r78 r79 H80 =>
  jn (α := Bool) (fun b81 H87 => lp (α := Int) 0 H87 (fun x88 J89 H90 => ift (decide ((x88 : Int) < (Sl.len r73 : Int))) (ixa r73 x88 fun p92 => ldL H90 (((p92.1, p92.2 + (x88 : Int).toNat * 3).1, (p92.1, p92.2 + (x88 : Int).toNat * 3).2 + 0).1, ((p92.1, p92.2 + (x88 : Int).toNat * 3).1, (p92.1, p92.2 + (x88 : Int).toNat * 3).2 + 0).2 + 1) fun x97 => QF C x97 (fun H99 => J89 (w .i64 (x88 + 1)) H99) H90) (J b81 H90)))
   (fun J82 => ift ((r74 : Int) == r79) (QO C r73 r78 (fun r85 H86 => J82 r85 H86) H80) (J82 false H80))) H75) E := by
 have hn := bd.n
 have hbs := bd.s
 refine fI (j := 1) (u.zb.le _ _ hb) rfl ?_
 have hfl : ∀ i, i ≤ n → FineW (Ws i) ∧ (Ws i).length ≤ 1000 := fun i hi => ⟨u.l.fineW hi (al.w i hi), by have := al.l i hi; omega⟩
 refine Qkx u.l (by omega) (fun hno => ?_) fun s ws H2 g0 g1 hS hwl => ?_
 ·refine fI (j := 1) (u.zb.le _ _ hb) rfl ?_
  refine QjG u.r (by omega) hfl (fun _ => ?_) fun g0 g1 => absurd ⟨g0, g1⟩ hno
  refine jn.inl (Qs rfl ?_)
  refine QeM (A := E) (B := E) NChs.nil NChs.nil (Heap.le.refl _) (Heap.le.refl _) (fun z hz => by cases hz) ?_
  refine Qj3 (D := E) (ws := []) ⟨OwnF.nil E 3, fun z hz => by cases hz⟩ (by simp) fun E4 e4 => ?_
  exact k _ _ _ _ _ _ _ _ _ (u.up e4) al.more ⟨by omega, by omega⟩
 ·have l2 := hS.og.own.le
  have u2 := u.up l2
  refine fI (j := 1) (u2.zb.le _ _ hb) rfl ?_
  refine QjG u2.r (by omega) hfl (fun hno => absurd ⟨g0, g1⟩ hno) fun _ _ v H3 l3 hv => ?_
  have hj : op.N.toNat ≤ n := by omega
  have hD := hS.chs (by omega)
  have hI := hS.isd
  have hI2 := Qnl (al.w _ hj) (al.w n (Nat.le_refl _)) (hfl _ hj).1.inW (hfl n (Nat.le_refl _)).1.inW
  rw [hI.uniq hI2] at hD
  refine jn.inl (Qs rfl ?_)
  refine QeM hD hv ((Heap.new_le _ _).trans l3) (Heap.le.refl _) (fun z hz => ?_) ?_
  ·obtain ⟨zx, zn⟩ := z
   have hr : inR zx.2 := by
    rcases (hI2.mem zx zn).1 hz with ⟨_, q1, _⟩ | ⟨_, q1, _⟩
    ·exact u.l.f n (Nat.le_refl _) _ q1
    ·exact u.l.f _ hj _ q1
   exact ⟨hr.b, by have := hr.tookR.len; dsimp only; omega⟩
  ·refine Qj3 (hS.og.up l3) (by omega) fun E4 e4 => ?_
   exact k _ _ _ _ _ _ _ _ _ (u.up e4) al.more ⟨by omega, by omega⟩
theorem Qni {b1 b2 : Bool} {P : Prop} (h1 : b1 = true ↔ P) (h2 : b2 = true ↔ P) : b1 = b2 := by
 rw [Bool.eq_iff_iff, h1, h2]
theorem Ql5 {J : Bool → Heap → Prop} {op : Qk} {mu mu2 : Bool} {r : List V} {nm : Str} (hFm : FmtC C) (u : UB B Z E x y o A o' A' a Ws n n N) (al : AlW a Ws n c) (bd : Bnd N n c) (hc : c ≤ 900)
 (ht : VRow Z tr r) (hv : AskN B (nm, r) op.Row) (hb : Z b1 = some (mu, .row (Qk.c op))) (hb2 : Z b17 = some (mu2, .row (Qb.c (⟨nm, tr⟩ : Qb)))) (k : Go_ B Z x y c J) :
 dr E fun Hs103 => ldS Hs103 ((b17, 0).1, (b17, 0).2 + 0) fun x105 => ldS Hs103 (((b1, 0).1, (b1, 0).2 + 2).1, ((b1, 0).1, (b1, 0).2 + 2).2 + 0) fun x107 =>
  Qak C (some (x, 0)) x105 (fun r110 H111 => Heap.le Hs103 H111 ∧ Qay C (some (y, 0)) x107 (fun r113 H114 => Heap.le Hs103 H114 ∧
   jn (α := Bool) (fun x116 H117 => lp (α := Int) 0 H117 (fun x135 J136 H137 => ift (decide ((x135 : Int) < (Sl.len r110 : Int))) (ixa r110 x135 fun p139 => ldL H137 (p139.1, p139.2 + (x135 : Int).toNat * 1) fun x144 => QF C x144 (fun H146 => J136 (w .i64 (x135 + 1)) H146) H137) (J x116 H137)))
    (fun J115 => dr H114 fun Hs119 => ldT Hs119 Qb.c (b17, 0) fun x121 => ldT Hs119 Qb.c ((b1, 0).1, (b1, 0).2 + 2) fun x123 =>
     Qah C (some (x, 0)) x121 (fun r126 H127 => Heap.le Hs119 H127 ∧ QbG C (some (y, 0)) x123 (fun r129 H130 => Heap.le Hs119 H130 ∧
      ift (r126 == r129) (Qax C r110 r113 (fun r133 H134 => Heap.le Hs119 H134 ∧ J115 r133 H134) H130) (J115 false H130)) H127) H114)) H111) E := by
 have hn := bd.n
 have hbs := bd.s
 have hw := al.w n (Nat.le_refl _)
 have hwl := al.l n (Nat.le_refl _)
 have hf := u.l.fineW (Nat.le_refl _) hw
 have hrel : op.Row.Rel = nm := hv.is.1
 refine ⟨E, Heap.le.refl _, fS (j := 0) (u.zb.le _ _ hb2) (t := nm) rfl ?_⟩
 refine ⟨op.Row.Rel, by rw [Qo (u.zb.le _ _ hb)]; rfl, ?_⟩
 refine Qkd u.l (by omega) fun T s ys H2 tT hTl => ⟨tT.og.own.le, ?_⟩
 have u2 := u.up tT.og.own.le
 refine QkE u2.r (by omega) (by omega) fun s2 H3 l3 hv3 => ⟨tT.og.own.le.trans l3, ?_⟩
 rw [hrel] at hv3
 have u3 := u2.up l3
 have hTT : T = rwF nm (Ws n) := Qji tT.rise (QkZ hw.rise) fun r => by rw [tT.mem, Qjj, hw.mem]
 have rr := tT.rows
 rw [hTT] at rr
 have hbd : ∀ l ∈ rwF nm (Ws n), VBs l ∧ l.length ≤ 140737488355328 := fun l hl => by
  have := (hf _ (Qjj.1 hl)).1
  exact ⟨this.b, by have := this.tookR.len; dsimp only at this; omega⟩
 refine jn.inl ⟨H3, Heap.le.refl _, bxT (c := Qb.c) (u3.zb.le _ _ hb2) (ldRow u3.zb.le hb ?_)⟩
 refine Qm0 hFm u3.l u3.zb ht hv.ok fun b1 H4 l4 hb1 => ⟨l4, ?_⟩
 have u4 := u3.up l4
 refine Qnj u4.r (by omega) hf hw.rise u4.b' hv fun b2 H5 l5 hb2 => ⟨l4.trans l5, ?_⟩
 have e : b1 = b2 := Qni hb1 (hb2.trans (hw.mem _))
 rw [e]
 refine Qs (by simp) ?_
 refine Qfz rr hv3 ((Heap.new_le _ _).trans (l3.trans (l4.trans l5))) (l4.trans l5) (by rw [← hTT]; omega) hbd ⟨l4.trans l5, ?_⟩
 refine QmW (tT.up (l3.trans (l4.trans l5))) (by omega) fun E4 e4 => ?_
 exact k _ _ _ _ _ _ _ _ _ (u.up e4) al.more ⟨by omega, by omega⟩
end
end
section
open Go Go.Proofs
section
variable {C : Ctx} {A A' A2 B Z H E E2 D : Heap} {o o' o2 : Own_} {x y b1 b17 n m N n2 N2 m2 c : Nat} {a a2 : Nat → Sta} {Ws Ws2 : Nat → List NR} {s t tr : Sl} {W : List NR} {S : Sta}
theorem Qmu {N1 N2 : List Str} (h1 : RiseT N1) (h2 : RiseT N2) (h : ∀ n, n ∈ N1 ↔ n ∈ N2) : N1 = N2 := Qht (P := fun _ => True) Lin.txt h1 h2 (fun _ _ => trivial) h
/-- a row that came in, in new memory -/
structure InR (E E1 G : Heap) (nm : Str) (r : List V) (b17 : Nat) (tr : Sl) : Prop where
 le : E1.le G
 b : G b17 = some (true, .row (Qb.c (⟨nm, tr⟩ : Qb)))
 nb : E b17 = none
 v : VRow (Heap.new E G) tr r
 sp : ∃ k, Sp (fun c => E1 c = none ∧ G c ≠ none) G k tr
theorem QnR (hFm : FmtC C) {K : Bool → Heap → Prop} {op : OpV} {z : Qk} (u : UB B noH E x y o A o' A' a Ws n n N) (al : AlW a Ws n c) (bd : Bnd N n c) (hc : c ≤ 900) (hz : OpIs B op z) (hr : okR op.row) (hnm : op.rel.length ≤ 1000000)
 (k : Go_ B noH x y c K) : QdD C z (some (x, 0)) (some (y, 0)) K E := by
 apply Qh9
 unfold Qe9
 obtain ⟨z1, z2, z3, z4⟩ := hz
 have hask : AskN B (op.rel, op.row) z.Row := ⟨⟨z3, z4⟩, hr, hnm⟩
 intro b1 n1
 have l1 := Heap.le_put n1 (g := .row (Qk.c z)) (m := true)
 have c1 : (E.put b1 (.row (Qk.c z))) b1 = some (true, .row (Qk.c z)) := Heap.put_same ..
 generalize E.put b1 (.row (Qk.c z)) = E1 at *
 have hBE1 := u.b.le.trans l1
 refine ⟨fun x4 G => ∃ b17 tr, x4 = (b17, 0) ∧ InR E E1 G op.rel op.row b17 tr, ?_, ?_⟩
 ·refine ⟨E1, Heap.le.refl _, ⟨z.Row.Rel, by rw [Qo c1]; rfl, ⟨z.Row.L, by rw [Qo c1]; rfl, ?_, ?_⟩⟩⟩
  ·refine Qlp (z4.le hBE1) (Heap.le.refl _) (by have := hr.z; omega) fun tr G hM => ⟨hM.le, ?_⟩
   intro b17 n17
   have l17 := Heap.le_put n17 (g := .row (Qb.c (⟨op.rel, tr⟩ : Qb))) (m := true)
   refine ⟨hM.le.trans (Heap.le_put n17), nwT rfl ?_⟩
   rw [z3]
   refine ⟨b17, tr, rfl, hM.le.trans l17, Heap.put_same .., (l1.trans hM.le).none n17, hM.row.le (QdN l1 l17), ?_⟩
   obtain ⟨kk, hk⟩ := hM.sp
   exact ⟨kk, hk.to fun b e hb he => ⟨⟨hb, Qnq l17 (by rw [he]; simp)⟩, l17 _ _ he⟩⟩
  ·intro b17 n17
   have l17 := Heap.le_put n17 (g := .row (Qb.c Qb.zero)) (m := true)
   have c17 : (E1.put b17 (.row (Qb.c Qb.zero))) b17 = some (true, .row (Qb.c Qb.zero)) := Heap.put_same ..
   refine ⟨l17, ?_⟩
   generalize E1.put b17 (.row (Qb.c Qb.zero)) = E2 at *
   refine Qlp (z4.le (hBE1.trans l17)) (Heap.le.refl _) (by have := hr.z; omega) fun tr G hM => ⟨l17.trans hM.le, ?_⟩
   refine ⟨_, hM.le _ _ c17, by simp [Qb.c], ?_⟩
   rw [show splice (Qb.c Qb.zero) (b17, 0).2 (Qb.c (⟨z.Row.Rel, tr⟩ : Qb)) = Qb.c (⟨z.Row.Rel, tr⟩ : Qb) from rfl, z3]
   have hkeep : ∀ c e, c ≠ b17 → G c = some e → (G.put b17 (.row (Qb.c (⟨op.rel, tr⟩ : Qb)))) c = some e := fun c e hc he => by rw [Heap.put_ne _ _ _ hc]; exact he
   refine ⟨b17, tr, rfl, fun c e he => ?_, Heap.put_same .., l1.none n17, hM.row.le fun c e he => ?_, ?_⟩
   ·exact hkeep c e (fun e' => by rw [e', n17] at he; cases he) (hM.le _ _ (l17 _ _ he))
   ·obtain ⟨q1, q2⟩ := Heap.new_inv he
    exact Heap.new_some (hkeep c e (fun e' => by rw [e', c17] at q1; cases q1) q2) ((l1.trans l17).none q1)
   ·obtain ⟨kk, hk⟩ := hM.sp
    refine ⟨kk, hk.to fun b e hb he => ?_⟩
    have := hkeep b e (fun e' => by rw [e', c17] at hb; cases hb) he
    exact ⟨⟨l17.none hb, by rw [this]; simp⟩, this⟩
 rintro _ G ⟨b17, tr, rfl, hI⟩
 have l5 := l1.trans hI.le
 have u5 := u.setZ l5
 have hb : (Heap.new E G) b1 = some (true, .row (Qk.c z)) := Heap.new_some (hI.le _ _ c1) n1
 have hb2 : (Heap.new E G) b17 = some (true, .row (Qb.c (⟨op.rel, tr⟩ : Qb))) := Heap.new_some hI.b hI.nb
 have htr := hI.v
 obtain ⟨kk, hsp⟩ := hI.sp
 have hZn : ∀ c, Heap.new E G c = none → ¬ (E1 c = none ∧ G c ≠ none) := fun c hc ⟨h1, h2⟩ => by
  cases he : G c with
  | none => exact h2 he
  | some e => rw [Heap.new_some he (l1.none h1)] at hc; cases hc
 have hGe : ∀ c, G c ≠ none → E1 c = none → (Heap.new E G) c = G c := fun c hc h1 => by
  cases he : G c with
  | none => exact absurd he hc
  | some e => exact Heap.new_some he (l1.none h1)
 refine ⟨fun b F => b = true ∧ ∃ o A o' A' a Ws n N, UB B (Heap.new E G) F x y o A o' A' a Ws n n N ∧ AlW a Ws n (c + 1) ∧ Bnd N n (c + 1), ?_, ?_⟩
 ·have kJ : Go_ B (Heap.new E G) x y c (fun b F => b = true ∧ ∃ o A o' A' a Ws n N, UB B (Heap.new E G) F x y o A o' A' a Ws n n N ∧ AlW a Ws n (c + 1) ∧ Bnd N n (c + 1)) := fun o A o' A' a Ws n N E h1 h2 h3 => ⟨rfl, o, A, o', A', a, Ws, n, N, h1, h2, h3⟩
  refine fI (j := 0) (u5.zb.le _ _ hb) rfl ?_
  refine ift.of (fun _ => ?_) fun _ => ift.of (fun _ => ?_) fun _ => ift.of (fun _ => ?_) fun _ => ift.of (fun _ => ?_) fun _ => ift.of (fun _ => ?_) fun _ => ?_
  ·exact bxT (c := Qb.c) (u5.zb.le _ _ hb2) (QmF hFm u5 al bd hc htr hask hb kJ)
  ·exact bxT (c := Qb.c) (u5.zb.le _ _ hb2) (Qmp hFm u5 al bd hc htr hask hb kJ)
  ·exact Qlu u5 al bd hc hb kJ
  ·exact Qlk u5 al bd hc hb kJ
  ·exact Qkp u5 al bd hc kJ
  ·exact Ql5 hFm u5 al bd hc htr hask hb hb2 kJ
 rintro _ F ⟨rfl, o, A, o', A', a, Ws, n, N, u6, al6, bd6⟩
 refine ⟨fun b F2 => b = true ∧ F2 = F, ?_, ?_⟩
 ·refine Qs rfl (fL (j := 1) (u6.zb.le _ _ hb2) (t := tr) rfl ⟨z.Row.L, by rw [Qo (u6.zb.le _ _ hb)]; rfl, ?_⟩)
  refine Qgj (htr.le u6.zb.le) (z4.le u6.b.le) (by have := hr.len; omega) hr.b ⟨QgC.2 rfl, rfl⟩
 rintro _ F ⟨rfl, rfl⟩
 refine fL (j := 1) (u6.zb.le _ _ hb2) (t := tr) rfl ?_
 have hsp6 : Sp (fun c => E1 c = none ∧ G c ≠ none) F kk tr := hsp.to fun b e hb he => ⟨hb, u6.zb.le _ _ (by rw [hGe b hb.2 hb.1]; exact he)⟩
 refine Qjm hsp6 fun F1 f1 _ => ?_
 have u7 := u6.zone (E2 := F1) fun c hc => f1 c (hZn c hc)
 have hn7 := bd6.n
 have hbs7 := bd6.s
 refine ⟨F1, Heap.le.refl _, Qs rfl ?_⟩
 obtain ⟨s7, ts7, g1, g2, g3, g4, g5, g6⟩ := u7.r.ex
 have hsl : s7.len = n + 1 := by have := g3.1; rw [List.length_map, g5] at this; omega
 refine ⟨_, rfl, ⟨s7, by rw [Qo g1]; rfl, ?_⟩⟩
 refine Qkc u7.l ⟨Heap.le.refl _, Qs (by rw [hsl, Qz (by omega) (by omega)]; simp) ?_⟩
 have hw := al6.w n (Nat.le_refl _)
 have hwl := al6.l n (Nat.le_refl _)
 refine Qkw u7.l (by omega) fun N1 sN H8 tN hNl => ⟨tN.own.le, ?_⟩
 have u8 := u7.up tN.own.le
 refine QjF u8.r (by omega) (by omega) hw.rise fun s9 H9 l9 hN9 => ⟨tN.own.le.trans l9, ?_⟩
 have hI9 := Qi9 hw.rise (Ws n).length (Nat.le_refl _)
 rw [List.take_length] at hI9
 have e : N1 = nmF (Ws n) := Qmu tN.rise hI9.rise fun nm => by
  rw [tN.mem, hI9.mem]
  exact ⟨fun ⟨r, hr⟩ => ⟨r, (hw.mem _).2 hr⟩, fun ⟨r, hr⟩ => ⟨r, (hw.mem _).1 hr⟩⟩
 have hN1 := tN.nm (by omega)
 rw [e] at hN1
 refine Qk7 hN1 hN9 ((Heap.new_le _ _).trans l9) (Heap.le.refl _) ⟨tN.own.le.trans l9, ?_⟩
 exact k _ _ _ _ _ _ _ _ _ (u8.up l9) al6 bd6
theorem Qjt (hFm : FmtC C) {l : List OpV} {K : Bool → Heap → Prop} (hs : Ops H s l) (hB : ∀ o ∈ l, InOp o) (k : ∀ H2, K true H2) : Qai C s K H := by
 apply QfE
 unfold QcX
 refine Qmt hs hB fun b0 hb0 => ift.of (fun _ => QkB hFm fun H2 _ => k H2) fun hc => ?_
 have few := hb0 hc
 have hll := few.len
 have hlen := SlIs.len hs
 refine Qm1 fun x o H7 l7 hno7 g7 => ?_
 refine Qnk fun y o' H9 l9 hno9 d9 => ?_
 refine Qi rfl ?_
 have u0 : UB H noH H9 x y o (fun _ => none) o' (fun _ => none) (fun _ => noS) (fun _ => []) 0 0 0 := by
  refine ⟨g7.up l9, d9, ⟨fun c w hw => ⟨?_, rfl⟩, fun c w hw => rfl⟩, ⟨l7.trans l9, fun c w hw => hno7 c w hw⟩, ⟨l7.trans l9, fun c w hw => l7.none (hno9 c w hw)⟩, ⟨QkQ, fun _ _ _ => rfl⟩, ⟨QkQ, fun _ _ _ => rfl⟩, fun c hc => absurd rfl hc⟩
  cases he : o' c with
  | none => rfl
  | some w' => exact absurd (hno9 c w' he) (g7.oh.oh c w hw)
 refine ⟨fun z E => ∃ (i : Nat) (o : Own_) (A : Heap) (o' : Own_) (A' : Heap) (a : Nat → Sta) (Ws : Nat → List NR) (n N : Nat), z = (i : Int) ∧ i ≤ l.length ∧ UB H noH E x y o A o' A' a Ws n n N ∧ AlW a Ws n i ∧ Bnd N n i, fun z _ => l.length - z.toNat,
  ⟨0, o, _, o', _, _, _, 0, 0, rfl, Nat.zero_le _, u0, ⟨fun i hi => ⟨.nil, fun z => by simp [noS]⟩, fun i hi => Nat.le_refl _⟩, ⟨by omega, by omega⟩⟩, ?_⟩
 rintro _ E ⟨i, o, A, o', A', a, Ws, n, N, rfl, hi, u, al, bd⟩
 rw [hlen]
 refine ift.of (fun hlt => ?_) fun hlt => ?_
 ·have hil : i < l.length := by have := of_decide_eq_true hlt; omega
  refine SlIs.ld hs u.b.le (z := 4) (fun _ => rfl) (by omega) rfl hil fun z hz => ?_
  obtain ⟨q1, q2⟩ := few.op _ (List.getElem_mem hil)
  refine QnR hFm u al bd (by omega) hz q1 q2 fun o A o' A' a Ws n N E2 u2 al2 bd2 => ?_
  refine Qi rfl ?_
  rw [Qz (by omega) (by omega)]
  exact ⟨⟨i + 1, o, A, o', A', a, Ws, n, N, by omega, by omega, u2, al2, bd2⟩, by first | omega | (dsimp only; omega)⟩
 ·have hn := bd.n
  have hbs := bd.s
  have hw := al.w n (Nat.le_refl _)
  have hwl := al.l n (Nat.le_refl _)
  have hf := u.l.fineW (Nat.le_refl _) hw
  refine QjF u.r (by omega) (by omega) hw.rise fun s9 H9 l9 hN9 => ?_
  have hnl := SlIs.len hN9
  have hI9 := Qi9 hw.rise (Ws n).length (Nat.le_refl _)
  rw [List.take_length] at hI9
  have hnle := hI9.le
  refine ⟨fun z F => ∃ j : Nat, z = (j : Int) ∧ j ≤ (nmF (Ws n)).length ∧ H9.le F, fun z _ => (nmF (Ws n)).length - z.toNat, ⟨0, rfl, Nat.zero_le _, Heap.le.refl _⟩, ?_⟩
  rintro _ F ⟨j, rfl, hj, hF⟩
  rw [hnl]
  refine ift.of (fun hlt => ?_) fun _ => QkB hFm fun H2 _ => k H2
  have hjl : j < (nmF (Ws n)).length := by have := of_decide_eq_true hlt; omega
  have uF := u.up (l9.trans hF)
  refine ⟨F, Heap.le.refl _, ?_⟩
  refine SlIs.at_ hN9 hF (z := 1) (fun _ => rfl) (by omega) rfl hjl fun p v hv hr => ⟨v, hr 0 _ rfl, ?_⟩
  refine SlIs.at_ hN9 hF (z := 1) (fun _ => rfl) (by omega) rfl hjl fun p v2 hv2 hr => ⟨v2, hr 0 _ rfl, ?_⟩
  rw [hv, hv2]
  refine Qkd uF.l (by omega) fun T s ys H2 tT hTl => ⟨tT.og.own.le, ?_⟩
  have u2 := uF.up tT.og.own.le
  refine QkE u2.r (by omega) (by omega) fun s2 H3 l3 hv3 => ⟨tT.og.own.le.trans l3, ?_⟩
  have hTT : T = rwF (nmF (Ws n))[j] (Ws n) := Qji tT.rise (QkZ hw.rise) fun r => by rw [tT.mem, Qjj, hw.mem]
  have rr := tT.rows
  rw [hTT] at rr
  refine Qfz rr hv3 ((Heap.new_le _ _).trans l3) (Heap.le.refl _) (by rw [← hTT]; omega) (fun l hl => ?_) ⟨tT.og.own.le.trans l3, ?_⟩
  ·have := (hf _ (Qjj.1 hl)).1
   exact ⟨this.b, by have := this.tookR.len; dsimp only at this; omega⟩
  ·refine Qi rfl ?_
   rw [Qz (by omega) (by omega)]
   exact ⟨⟨j + 1, by omega, by omega, hF.trans (tT.og.own.le.trans l3)⟩, by first | omega | (dsimp only; omega)⟩
end
end
section
set_option maxRecDepth 100000
open Go Go.Proofs
def OpsIn (A : Heap) (s : Sl) (l : List OpV) : Prop := Ops A s l ∧ ∀ o ∈ l, InOp o
section
variable {P : Program} {W : World}
theorem QnS {α β : Type} {R : α → β → Prop} {c : β → List Value} {t e : TypeId} {z n : Nat} {cs : List Value} (h : TrW P W n t cs) (ht : P.underlying t = some (.slice e)) (hz : P.cellsOf e = z) (hz0 : 0 < z) (hb : 1 ≤ P.bytesOf e)
 (ih : ∀ m, m < n → ∀ cs, TrW P W m e cs → ∃ (v : α) (x : β), cs = c x ∧ R v x) : ∃ (s : Sl) (l : List α), cs = [slv s] ∧ SlIs R c (heapOf W) s l ∧ ∀ v ∈ l, ∃ x, R v x := by
 obtain ⟨s, css, m, hm, h1, h2, h3, h4, h5, h6, h7⟩ := h.slice ht hz hz0
 have key : ∀ (css : List (List Value)), (∀ c' ∈ css, ∃ (v : α) (x : β), c' = c x ∧ R v x) → ∃ (l : List α) (xs : List β), css.flatten = xs.flatMap c ∧ css.length = xs.length ∧ l.length = xs.length ∧ (∀ (i : Nat) (v : α) (x : β), l[i]? = some v → xs[i]? = some x → R v x) ∧ ∀ v ∈ l, ∃ x, R v x := by
  intro css
  induction css with
  | nil => intro _; exact ⟨[], [], rfl, rfl, rfl, fun i v x hv => by simp at hv, fun v hv => by cases hv⟩
  | cons c' css ihc =>
   intro hh
   obtain ⟨v, x, g1, g2⟩ := hh c' (List.mem_cons_self ..)
   obtain ⟨l, xs, k1, k2, k3, k4, k5⟩ := ihc fun c' hc => hh c' (List.mem_cons_of_mem _ hc)
   refine ⟨v :: l, x :: xs, by rw [List.flatten_cons, List.flatMap_cons, k1, g1], by simp [k2], by simp [k3], fun i v' x' hv hx => ?_, fun v' hv => ?_⟩
   ·cases i with
    | zero => simp at hv hx; subst hv; subst hx; exact g2
    | succ i => exact k4 i v' x' (by simpa using hv) (by simpa using hx)
   ·rcases List.mem_cons.1 hv with rfl | hv
    ·exact ⟨x, g2⟩
    ·exact k5 v' hv
 obtain ⟨l, xs, k1, k2, k3, k4, k5⟩ := key css fun c' hc => ih m hm c' (h7 c' hc).2
 have hmx : reachBytes = 140737488351232 := rfl
 rw [hmx] at h4
 have hsl : s.len ≤ 140737488351232 := Nat.le_trans (Nat.le_mul_of_pos_right _ (by omega)) h4
 exact ⟨s, l, h1, ⟨xs, by rw [← k1]; exact h6, by omega, k3, by omega, k4⟩, k5⟩
end
section
variable {W : World}
theorem valTO : ValT Tryz.prog 56 28 := ⟨⟨_, Tryz.underlying56, rfl, ⟨_, _, rfl, rfl, rfl, Tryz.underlying5, by kernel_rfl⟩, ⟨_, _, rfl, rfl, rfl, Tryz.underlying2, by kernel_rfl⟩, ⟨_, _, rfl, rfl, rfl, Tryz.underlying9, by kernel_rfl⟩, ⟨_, rfl, rfl, rfl, by kernel_rfl⟩⟩, by kernel_rfl, Tryz.underlying28⟩
def OpIn (A : Heap) (o : OpV) (x : Qk) : Prop := OpIs A o x ∧ InOp o
theorem QnE (n : Nat) {cs : List Value} (h : TrW Tryz.prog W n 30 cs) : ∃ (rel : Str) (row : List V) (x : Qb), cs = Qb.c x ∧ x.Rel = rel ∧ VRow (heapOf W) x.L row ∧ VBs row ∧ row.length ≤ 140737488355328 ∧ rel.length ≤ 140737488355328 := by
 obtain ⟨hl, m, rfl, hf⟩ := h.struct Tryz.underlying30
 rw [show Tryz.prog.cellsOf 30 = 2 by kernel_rfl] at hl
 match cs, hl with
 | [q0, q1], _ =>
 have g0 : TrW Tryz.prog W m 9 (([q0, q1].drop 0).take (Tryz.prog.cellsOf 9)) := hf 0 _ rfl
 have g1 : TrW Tryz.prog W m 28 (([q0, q1].drop 1).take (Tryz.prog.cellsOf 28)) := hf 1 _ rfl
 rw [show Tryz.prog.cellsOf 9 = 1 by kernel_rfl] at g0
 rw [show Tryz.prog.cellsOf 28 = 1 by kernel_rfl] at g1
 replace g0 : TrW Tryz.prog W m 9 [q0] := g0
 replace g1 : TrW Tryz.prog W m 28 [q1] := g1
 obtain ⟨rel, e0, _, l0⟩ := g0.str Tryz.underlying9
 have hmx : reachBytes = 140737488351232 := rfl
 rw [hmx] at l0
 obtain ⟨y1, r1, z1, v1, w1, u1⟩ := Qny valTO (of_decide_eq_true (by kernel_rfl)) g1
 exact ⟨rel, r1, ⟨rel, y1⟩, (show [q0, q1] = [q0] ++ [q1] from rfl).trans (by rw [z1, e0]; rfl), rfl, v1, w1, u1, by omega⟩
theorem QnQ (n : Nat) {cs : List Value} (h : TrW Tryz.prog W n 32 cs) : ∃ (v : OpV) (x : Qk), cs = Qk.c x ∧ OpIn (heapOf W) v x := by
 obtain ⟨hl, m, rfl, hf⟩ := h.struct Tryz.underlying32
 rw [show Tryz.prog.cellsOf 32 = 4 by kernel_rfl] at hl
 match cs, hl with
 | [q0, q1, q2, q3], _ =>
 have g0 : TrW Tryz.prog W m 5 (([q0, q1, q2, q3].drop 0).take (Tryz.prog.cellsOf 5)) := hf 0 _ rfl
 have g1 : TrW Tryz.prog W m 3 (([q0, q1, q2, q3].drop 1).take (Tryz.prog.cellsOf 3)) := hf 1 _ rfl
 have g2 : TrW Tryz.prog W m 30 (([q0, q1, q2, q3].drop 2).take (Tryz.prog.cellsOf 30)) := hf 2 _ rfl
 rw [show Tryz.prog.cellsOf 5 = 1 by kernel_rfl] at g0
 rw [show Tryz.prog.cellsOf 3 = 1 by kernel_rfl] at g1
 rw [show Tryz.prog.cellsOf 30 = 2 by kernel_rfl] at g2
 replace g0 : TrW Tryz.prog W m 5 [q0] := g0
 replace g1 : TrW Tryz.prog W m 3 [q1] := g1
 replace g2 : TrW Tryz.prog W m 30 [q2, q3] := g2
 obtain ⟨x0, e0, _⟩ := g0.int Tryz.underlying5
 obtain ⟨x1, e1, w1⟩ := g1.int Tryz.underlying3
 obtain ⟨rel, row, y, e2, r1, r2, r3, r4, r5⟩ := QnE m g2
 exact ⟨⟨x0, x1, rel, row⟩, ⟨x0, x1, y⟩, (show [q0, q1, q2, q3] = [q0] ++ ([q1] ++ [q2, q3]) from rfl).trans (by rw [e0, e1, e2]; rfl), ⟨rfl, rfl, r1, r2⟩, r3, r4, r5⟩
theorem Qk8 {H : Type} {enc : TypeId × Value → H} {base : Nat} {v : Value} {d : DataW H} {p : List MemPlace} (hv : Value.okWide Tryz.prog W .any base 22 v) (h : DataW.Trod enc Tryz.prog W 0 (fun _ => true) true 22 v d p) (hw : ∀ w ∈ d.weights Tryz.prog 22, w ≤ reachBytes) :
 ∃ (s : Sl) (a : List OpV), v = slv s ∧ OpsIn (heapOf W) s a := by
 obtain ⟨x, len, c, rfl⟩ := WideShapes.okWide_slice Tryz.underlying22 hv
 obtain ⟨n, hn⟩ := TrW.of h hw
 obtain ⟨s, a, h1, h2, h3⟩ := QnS (R := OpIn (heapOf W)) (c := Qk.c) hn Tryz.underlying22 (show Tryz.prog.cellsOf 32 = 4 by kernel_rfl) (by omega) (of_decide_eq_true (by kernel_rfl)) (fun m hm cs hc => QnQ m hc)
 refine ⟨s, a, ?_, SlIs.le (Heap.le.refl _) h2 fun _ _ _ hx => hx.1, fun o ho => (h3 o ho).elim fun _ h => h.2⟩
 simpa [Value.cells] using h1
end
theorem QiN {C : Ctx} {H : Heap} (hFm : FmtC C) {s0 : Sl} {l0 : List OpV} (h0 : OpsIn H s0 l0) : Qai C s0 (fun r _ => r = true) H := Qjt hFm h0.1 h0.2 fun _ => rfl
end
end Sx
end
noncomputable section

end

