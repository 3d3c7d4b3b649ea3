/-
  Texts of this family, one behind the other: CodeV3, CodeV4, Ix2, Ix1, Ix3, Ix4, Ix5, Ix6, Ix7, Ix8, Ix9, IxS1, IxS2, IxT, IxJ, IxN, IxL, IxM, IxW, IxV, IxU, IxQ, IxR1, IxK1, IxK2, IxA, IxHL, U, RowILooks.
-/
import Derived.Test.YtjafihegefejdaaGreatDoorAL3
import Derived.Lib.ItoaNum
import Derived.Shelf.SlSortCmp.Kit1
import Derived.Lib.ItoaLen
import Derived.Test.YtjafihegefejdaaGreatDoorRows
import Derived.JoinedCond
noncomputable section
set_option linter.unusedVariables false
set_option linter.unusedSimpArgs false
set_option maxRecDepth 10000
namespace Sx
section
open Go Go.Proofs
section
variable {C : Ctx} {H0 H : Heap}
theorem QjQ {s : Str} {K : Str → Bool → Heap → Prop} (k : K (unmin s) (isMin s) H) : QaW C s [45] K H := by
 apply Qd6
 unfold Qbz
 apply Qa2
 unfold Q6
 refine QdE ?_
 have e : ([45] : Str).isPrefixOf s = isMin s := by
  unfold isMin
  cases s with
  | nil => rfl
  | cons c t =>
   by_cases hc : c = 45
   ·subst hc; simp [List.isPrefixOf]
   ·simp [List.isPrefixOf, hc, Ne.symm hc]
 rw [e]
 cases hm : isMin s with
 | false =>
  rw [hm, QhK hm] at k
  exact QU rfl k
 | true =>
  obtain ⟨h1, h2⟩ := Qgl hm
  rw [hm, h1] at k
  generalize s.tail = t at *
  subst h2
  refine Qd rfl ⟨by simp, by simp only [List.length_cons, List.length_nil]; omega, by omega, t, ?_, k⟩
  rw [List.take_of_length_le (by omega)]; rfl
theorem Qiu {b : Nat} {bs : Str} {v : V} {x : TV} {K : Heap → Prop} (h : PenF H0 H b bs 0) (hv : VIs H0 v x) (hn : v.n = 0 ∨ v.n = 1) (hm : bs.length + 1 ≤ 140737488355328)
 (k : ∀ H2, PenF H0 H2 b (bs ++ [if v.n = 1 then 1 else 0]) 0 → K H2) : Qbs C (some (b, 0)) x K H := by
 apply Qfh
 unfold QcK
 intro b1 n1
 refine bxN (Heap.put_same ..) ?_
 rw [hv.num]
 have hh := h.beside n1 (g := .row (Qa.c x)) (m := true)
 have hd := fun {H2 : Heap} {bs : Str} {t : UInt8} (h2 : PenF (H0.put b1 (.row (Qa.c x))) H2 b bs t) => h2.down (Heap.le_put (h.le.none n1))
 rcases hn with hn | hn
 ·rw [hn] at k ⊢
  exact QW hh (cs := [0]) rfl rfl (by simpa using hm) fun H2 h2 => k H2 (by simpa using hd h2)
 ·rw [hn] at k ⊢
  exact QW hh (cs := [1]) rfl rfl (by simpa using hm) fun H2 h2 => k H2 (by simpa using hd h2)
theorem Qiw {b : Nat} {bs : Str} {v : V} {x : TV} {K : Heap → Prop} (h : PenF H0 H b bs 0) (hv : VIs H0 v x) (hB : VB v) (hm : bs.length + 9 ≤ 140737488355328)
 (k : ∀ H2, PenF H0 H2 b (bs ++ Nm v.n) 0 → K H2) : Qbt C (some (b, 0)) x K H := by
 apply Qfj
 unfold QcM
 intro b1 n1
 refine bxN (Heap.put_same ..) ?_
 rw [hv.num]
 have hb := hB.n
 refine Qjy (h.beside n1) hb.1 hb.2 hm fun H2 h2 => k H2 ?_
 rw [Qb6] at h2
 exact h2.down (Heap.le_put (h.le.none n1))
theorem Qix {b : Nat} {bs : Str} {v : V} {x : TV} {K : Heap → Prop} (h : PenF H0 H b bs 0) (hv : VIs H0 v x) (hm : bs.length + 2 * v.s.length + 2 ≤ 140737488355328)
 (k : ∀ H2, PenF H0 H2 b (bs ++ Tx v.s) 0 → K H2) : Qbu C (some (b, 0)) x K H := by
 apply Qfk
 unfold QcN
 intro b1 n1
 refine bxS (Heap.put_same ..) ?_
 rw [hv.txt]
 refine Qgw (h.beside n1) hm fun H2 h2 => k H2 ?_
 rw [Qb6] at h2
 exact h2.down (Heap.le_put (h.le.none n1))
theorem Qjx {b : Nat} {bs : Str} {v : V} {x : TV} {K : Heap → Prop} (h : PenF H0 H b bs 0) (hv : VIs H0 v x) (hs : v.s.length < 2147483648) (hm : bs.length + v.s.length + 10 ≤ 140737488355328)
 (k : ∀ H2, PenF H0 H2 b (bs ++ Bg v.s) 0 → K H2) : Qcp C (some (b, 0)) x K H := by
 apply Qf3
 unfold QdM
 intro b1 n1
 refine bxS (Heap.put_same ..) ?_
 rw [hv.txt]
 refine QjQ ?_
 have hul := Qh6 v.s
 have hk := Qlp (n := (unmin v.s).length) (by omega)
 have hh := h.beside n1 (g := .row (Qa.c x)) (m := true)
 refine Qbk hh fun H2 h2 => ?_
 refine QW h2 (cs := [128]) rfl rfl (by simp; omega) fun H3 h3 => ?_
 rw [Ql6 (by omega) (by omega)]
 refine Qdg (first := 0) h3 (by omega) (by omega) (by simp; omega) fun H4 h4 => ?_
 refine Qmt fun b2 cap H5 hb2 hH5 hcap hr5 => ?_
 subst hH5
 have h5 := h4.beside hb2 (g := .row (bytesV (unmin v.s) ++ List.replicate (cap - (unmin v.s).length) (.int .u8 0))) (m := true)
 refine Qhe h5 (.inr ⟨rfl, (b2, 0), rfl, QdK (Heap.put_same ..) fun j v' hj => ?_⟩) rfl (by simp [Qf0]; omega) fun H6 h6 => ?_
 ·have := (List.getElem?_eq_some_iff.1 hj).1
  rw [Nat.zero_add, List.getElem?_append_left this]; exact hj
 refine Qbk h6 fun H7 h7 => k H7 ?_
 have h8 := (h7.down (Heap.le_put (h4.le.none hb2))).down (Heap.le_put (h.le.none n1))
 unfold Bg
 cases hmn : isMin v.s with
 | false => rw [hmn] at h8; simpa using h8
 | true => rw [hmn] at h8; simpa using h8
/-- the pen writes a value -/
def PenV (C : Ctx) (b : Nat) (w : V) : Prop := ∀ {H0 H : Heap} {bs : Str} {x : TV} {K : Heap → Prop}, PenF H0 H b bs 0 → VIs H0 w x → VB w → formV w = true → vtot w < 2147483648 → bs.length + vtot w ≤ 140737488355328 → (∀ H2, PenF H0 H2 b (bs ++ encV w) 0 → K H2) → QaQ C (some (b, 0)) x K H
theorem Qgv {b : Nat} {bs : Str} {v : V} {x : TV} {K : Heap → Prop} (ih : ∀ w ∈ v.l, PenV C b w) (h : PenF H0 H b bs 0) (hv : VIs H0 v x) (hB : VB v) (hF : formVs v.l = true) (hs : vtot v < 2147483648) (hm : bs.length + vtots v.l + 10 ≤ 140737488355328)
 (k : ∀ H2, PenF H0 H2 b (bs ++ encVs v.l) 0 → K H2) : Qa6 C (some (b, 0)) x K H := by
 apply QfO
 unfold Qds
 intro b1 n1
 have hh := h.beside n1 (g := .row (Qa.c x)) (m := true)
 have hle0 := Heap.le_put (h.le.none n1) (g := .row (Qa.c x)) (m := true)
 refine bxL (Heap.put_same ..) ?_
 have hr := hv.row
 have hl := hr.len
 have hbl := hB.l
 rw [QgI] at hs
 generalize H0.put b1 (.row (Qa.c x)) = B at *
 generalize H.put b1 (.row (Qa.c x)) = H1 at *
 refine ⟨fun y H' => ∃ i : Nat, y = (i : Int) ∧ i ≤ v.l.length ∧ PenF B H' b (bs ++ encLs (v.l.take i)) 0, fun y _ => v.l.length - y.toNat, ⟨0, rfl, Nat.zero_le _, by simpa [encLs] using hh⟩, ?_⟩
 rintro y H2 ⟨i, rfl, hi, h2⟩
 have hlt3 := Qgg (v.l.take i) fun w hw => Qi6 w (hB.ls.mem (List.mem_of_mem_take hw)) (by have := QcS (List.mem_of_mem_take hw); omega)
 have hvt := Qhq v.l i
 rw [hl]
 refine ift.of (fun hc => ?_) (fun hc => ?_)
 ·have hlt : i < v.l.length := by have := of_decide_eq_true hc; omega
  have hmem := List.getElem_mem hlt
  have hmv := QcS hmem
  have hets := Qjt hlt
  have hvt1 : vtots (v.l.take i) + vtot v.l[i] ≤ vtots v.l := by
   have h1 := Qhq v.l (i + 1)
   have h3 : v.l.take (i + 1) = v.l.take i ++ [v.l[i]] := by rw [List.take_add_one, List.getElem?_eq_getElem hlt]; rfl
   rw [h3, QdY] at h1
   simpa [vtots] using h1
  refine hr.ld (hle0.trans h2.le) rfl hlt fun z hz => ?_
  intro b6 n6
  refine ⟨_, Heap.put_same .., by simp [Qa.c], ?_⟩
  rw [Heap.put_put]
  have esp : splice (Qa.c Qa.zero) (b6, 0).2 (Qa.c z) = Qa.c z := rfl
  rw [esp]
  have h3 := h2.beside n6 (g := .row (Qa.c z)) (m := true)
  have hle6 := Heap.le_put (h2.le.none n6) (g := .row (Qa.c z)) (m := true)
  refine QW h3 (cs := [1]) rfl rfl (by simp; omega) fun H4 h4 => ?_
  refine bxV (h4.le _ _ (Heap.put_same ..)) ?_
  refine ih _ hmem h4 (hz.le (hle0.trans hle6)) (hB.at hlt) (QbF hmem hF) (by omega) (by simp; omega) fun H5 h5 => ?_
  rw [Qu (by omega) (by omega)]
  refine ⟨⟨i + 1, by omega, by omega, ?_⟩, by first | omega | (dsimp only; omega)⟩
  rw [hets]
  simpa using h5.down hle6
 ·have hie : i = v.l.length := by have := of_decide_eq_false hc; omega
  subst hie
  rw [List.take_length] at h2 hlt3
  refine QW h2 (cs := [0]) rfl rfl (by simp; omega) fun H4 h4 => k H4 ?_
  rw [QhH]
  simpa using h4.down hle0
theorem QiW {b : Nat} {bs : Str} {v : V} {x : TV} {K : Heap → Prop} (ih : ∀ w ∈ v.l, PenV C b w) (h : PenF H0 H b bs 0) (hv : VIs H0 v x) (hB : VB v) (hF : formVs v.l = true) (hs : vtot v < 2147483648) (hm : bs.length + vtots v.l + 2 * v.s.length + 12 ≤ 140737488355328)
 (k : ∀ H2, PenF H0 H2 b (bs ++ (Tx v.s ++ encVs v.l)) 0 → K H2) : QbJ C (some (b, 0)) x K H := by
 apply QfM
 unfold Qdq
 intro b1 n1
 have hh := h.beside n1 (g := .row (Qa.c x)) (m := true)
 have hle0 := Heap.le_put (h.le.none n1) (g := .row (Qa.c x)) (m := true)
 have hvt := QgI v
 have htl := Qlk v.s
 have hzc := Qmu v.s
 refine bxS (Heap.put_same ..) ?_
 rw [hv.txt]
 refine Qgw hh (by omega) fun H2 h2 => ?_
 rw [Qb6] at h2
 refine bxV (h2.le _ _ (Heap.put_same ..)) ?_
 refine Qgv ih h2 (hv.le hle0) hB hF hs (by rw [List.length_append]; omega) fun H3 h3 => k H3 ?_
 rw [← List.append_assoc]
 exact h3.down hle0
theorem Qiv {b : Nat} : ∀ v : V, PenV C b v := by
 refine V.rec_ fun v ih => ?_
 intro H0 H bs x K h hv hB hF hs hm k
 obtain ⟨hok, hfl⟩ := mayN v hF
 have hkk := hB.k
 have hk6 := Qmo hok
 have hvt := QgI v
 apply Qfi
 unfold QcL
 intro b1 n1
 have hh := h.beside n1 (g := .row (Qa.c x)) (m := true)
 have hle1 := Heap.le_put (h.le.none n1) (g := .row (Qa.c x)) (m := true)
 have hb1 : (H0.put b1 (.row (Qa.c x))) b1 = some (true, .row (Qa.c x)) := Heap.put_same ..
 intro b3 n3
 refine ⟨rfl, rfl, _, Heap.put_same .., by simp, ?_⟩
 rw [Heap.put_put]
 have esp : ∀ vs : List Value, vs.length = 7 → splice (List.replicate 7 (.nilFunc : Value)) (b3, 0).2 vs = vs := fun vs hl => by unfold splice; simp [hl]
 rw [esp _ rfl]
 generalize hfs : ([.nilFunc, .func (.func 78) (List.toArray []) (List.toArray []), .func (.func 79) (List.toArray []) (List.toArray []), .func (.func 80) (List.toArray []) (List.toArray []), .func (.func 81) (List.toArray []) (List.toArray []), .func (.func 82) (List.toArray []) (List.toArray []), .func (.func 83) (List.toArray []) (List.toArray [])] : List Value) = fs
 have hh3 := hh.beside n3 (g := .row fs) (m := true)
 have hle3 := Heap.le_put (hh.le.none n3) (g := .row fs) (m := true)
 have hb13 := hle3 _ _ hb1
 have hb3 : ((H0.put b1 (.row (Qa.c x))).put b3 (.row fs)) b3 = some (true, .row fs) := Heap.put_same ..
 generalize H0.put b1 (.row (Qa.c x)) = B1 at *
 generalize B1.put b3 (.row fs) = B at *
 have hleB := hle1.trans hle3
 refine bxK (hh3.le _ _ hb13) ?_
 rw [hv.kind]
 have hkc : v.k = ((UInt8.ofNat v.k.toNat).toNat : Int) := by rw [UInt8.toNat_ofNat']; omega
 refine QW hh3 (cs := [UInt8.ofNat v.k.toNat]) (by simp only [bytesV, List.map_cons, List.map_nil]; rw [← hkc]) rfl (by simp; omega) fun H4 h4 => ?_
 rw [Qb6] at h4
 refine ⟨B, h4.le, bxK hb13 ?_⟩
 rw [hv.kind]
 refine ⟨by omega, by omega, ?_⟩
 have hvB := hv.le hleB
 have hfin : ∀ {e : Str} {H2 : Heap}, PenF B H2 b (bs ++ [UInt8.ofNat v.k.toNat] ++ e) 0 → encV v = UInt8.ofNat v.k.toNat :: e → Heap.le B H2 ∧ K H2 := fun {e H2} h2 he => ⟨h2.le, k H2 (by rw [he]; simpa using h2.down hleB)⟩
 have hev := Qgh v
 have hrd : ∀ {o : Nat} {u : Value}, fs[o]? = some u → rd B ((b3, 0).1, (b3, 0).2 + (o : Int).toNat * 1) = some u := fun {o u} hu => by
  rw [Qbf hb3]; simpa using hu
 have hl1 : (bs ++ [UInt8.ofNat v.k.toNat]).length = bs.length + 1 := by simp
 rcases hk6 with h1 | h1 | h1 | h1 | h1 | h1
 ·rw [h1] at hev ⊢
  refine ⟨_, hrd (o := 1) (by rw [← hfs]; rfl), bxV hb13 ?_⟩
  have hc : Qbs C (some (b, 0)) x (fun H24 => Heap.le B H24 ∧ K H24) H4 := Qiu h4 hvB (QhR hok h1) (by omega) fun H2 h2 => hfin h2 (by rw [hev, h1]; rfl)
  exact ⟨_, [], [], rfl, Qfn, hc⟩
 ·rw [h1] at hev ⊢
  refine ⟨_, hrd (o := 2) (by rw [← hfs]; rfl), bxV hb13 ?_⟩
  have hc : Qbt C (some (b, 0)) x (fun H24 => Heap.le B H24 ∧ K H24) H4 := Qiw h4 hvB hB (by omega) fun H2 h2 => hfin h2 (by rw [hev, h1]; rfl)
  exact ⟨_, [], [], rfl, Qfo, hc⟩
 ·rw [h1] at hev ⊢
  refine ⟨_, hrd (o := 3) (by rw [← hfs]; rfl), bxV hb13 ?_⟩
  have hc : Qcp C (some (b, 0)) x (fun H24 => Heap.le B H24 ∧ K H24) H4 := Qjx h4 hvB (by omega) (by omega) fun H2 h2 => hfin h2 (by rw [hev, h1]; rfl)
  exact ⟨_, [], [], rfl, Qgm, hc⟩
 ·rw [h1] at hev ⊢
  refine ⟨_, hrd (o := 4) (by rw [← hfs]; rfl), bxV hb13 ?_⟩
  have hc : Qbu C (some (b, 0)) x (fun H24 => Heap.le B H24 ∧ K H24) H4 := Qix h4 hvB (by omega) fun H2 h2 => hfin h2 (by rw [hev, h1]; rfl)
  exact ⟨_, [], [], rfl, Qfp, hc⟩
 ·rw [h1] at hev ⊢
  refine ⟨_, hrd (o := 5) (by rw [← hfs]; rfl), bxV hb13 ?_⟩
  have hc : Qa6 C (some (b, 0)) x (fun H24 => Heap.le B H24 ∧ K H24) H4 := Qgv ih h4 hvB hB hfl hs (by omega) fun H2 h2 => hfin h2 (by rw [hev, h1]; rfl)
  exact ⟨_, [], [], rfl, Qdm, hc⟩
 ·rw [h1] at hev ⊢
  refine ⟨_, hrd (o := 6) (by rw [← hfs]; rfl), bxV hb13 ?_⟩
  have hc : QbJ C (some (b, 0)) x (fun H24 => Heap.le B H24 ∧ K H24) H4 := QiW ih h4 hvB hB hfl hs (by omega) fun H2 h2 => hfin h2 (by rw [hev, h1]; rfl)
  exact ⟨_, [], [], rfl, QfU, hc⟩
theorem QhE {s : Sl} {a : Str} {v : V} {x : TV} {K : Sl → Heap → Prop} (hr : rdsl H s (bytesV a)) (hl : s.len = a.length) (hv : VIs H v x) (hB : VB v) (hs : mayV v = true → vtot v < 2147483648) (hm : a.length ≤ 1000000000000)
 (k : ∀ r H2, OwnF H H2 1 r (bytesV (a ++ if mayV v then encV v else [])) → K r H2) : QdB C s x K H := by
 apply Qht
 unfold Qe4
 intro b1 n1
 have hb1 : (H.put b1 (.row (Qa.c x))) b1 = some (true, .row (Qa.c x)) := Heap.put_same ..
 have hle1 := Heap.le_put n1 (g := .row (Qa.c x)) (m := true)
 generalize H.put b1 (.row (Qa.c x)) = H1 at *
 refine QgY (Qba hle1 hr) hl (by omega) fun b H2 h2 => ?_
 refine ⟨fun _ H3 => PenF H1 H3 b (a ++ if mayV v then encV v else []) 0, ?_, ?_⟩
 ·refine bxV (h2.le _ _ hb1) ?_
  refine QcE (hv.le (hle1.trans h2.le)) hB ?_
  rw [QhP]
  refine ift.of (fun h => ?_) (fun h => ?_)
  ·rw [if_pos h]
   exact bxV (h2.le _ _ hb1) (Qiv v h2 (hv.le hle1) hB (QbO h) (hs h) (by have := hs h; omega) fun H3 h3 => h3)
  ·rw [if_neg (by rw [h]; decide), List.append_nil]; exact h2
 ·rintro _ H3 h3
  obtain ⟨r, h4, h5⟩ := h3.take
  exact ⟨_, rfl, r, h4, k r H3 (h5.down hle1)⟩
end
end
section
open Go Go.Proofs
/-- c tells how s and t stand, at a place that both have; 0: P -/
def Ord (c : Int) (s t : Str) (P : Prop) : Prop := (c = -1 ∧ Lt s t) ∨ (c = 1 ∧ Lt t s) ∨ (c = 0 ∧ P)
theorem Ord.pre {c : Int} {s t : Str} {P : Prop} (p : Str) (h : Ord c s t P) : Ord c (p ++ s) (p ++ t) P := by
 rcases h with ⟨h1, h2⟩ | ⟨h1, h2⟩ | h
 ·exact .inl ⟨h1, h2.pre p⟩
 ·exact .inr (.inl ⟨h1, h2.pre p⟩)
 ·exact .inr (.inr h)
theorem Ord.cons {c : Int} {s t : Str} {P : Prop} (p : UInt8) (h : Ord c s t P) : Ord c (p :: s) (p :: t) P := h.pre [p]
theorem Ord.mono {c : Int} {s t : Str} {P Q : Prop} (h : Ord c s t P) (hpq : P → Q) : Ord c s t Q := by
 rcases h with h | h | ⟨h1, h2⟩
 ·exact .inl h
 ·exact .inr (.inl h)
 ·exact .inr (.inr ⟨h1, hpq h2⟩)
theorem Qjq : ∀ s t : Str, vcmpS s t = cmpS s t
 | [], [] => rfl
 | [], _ :: _ => rfl
 | _ :: _, [] => rfl
 | a :: s, b :: t => by
  simp only [vcmpS, cmpS]
  rcases Qhm a b with h | h | rfl
  ·have hne : a ≠ b := fun e => by subst e; exact QcR _ h
   have : a.toNat < b.toNat := h
   rw [if_neg hne, if_pos h]; unfold sgn; rw [if_pos (by omega)]
  ·have hne : a ≠ b := fun e => by subst e; exact QcR _ h
   have h' : b.toNat < a.toNat := h
   rw [if_neg hne, if_neg (Qfv h), if_pos h]; unfold sgn; rw [if_neg (by omega), if_pos (by omega)]
  ·rw [if_pos rfl, if_neg (QcR a), if_neg (QcR a)]; exact Qjq s t
theorem QkL (s t : Str) : cmpS s t = -1 ∨ cmpS s t = 1 ∨ cmpS s t = 0 := by
 induction s generalizing t with
 | nil => cases t <;> simp [cmpS]
 | cons a s ih =>
  cases t with
  | nil => simp [cmpS]
  | cons b t =>
   simp only [cmpS]
   split
   ·simp
   ·split
    ·simp
    ·exact ih t
theorem Qls (s t : Str) : Ord (vcmpS s t) (Tx s) (Tx t) (s = t) := by
 rw [Qjq]
 rcases QkL s t with h | h | h
 ·exact .inl ⟨h, QlB s t (by omega)⟩
 ·exact .inr (.inl ⟨h, QlB t s (by rw [Qih]; omega)⟩)
 ·exact .inr (.inr ⟨h, (Qh1 s t).2.1 h⟩)
theorem Qkb : ∀ {s t : Str}, s.length = t.length → Ord (vcmpS s t) s t (s = t)
 | [], [], _ => .inr (.inr ⟨rfl, rfl⟩)
 | a :: s, b :: t, h => by
  have ih := Qkb (s := s) (t := t) (by simpa using h)
  simp only [vcmpS]
  rcases Qhm a b with h | h | rfl
  ·have hne : a ≠ b := fun e => by subst e; exact QcR _ h
   have h' : a.toNat < b.toNat := h
   rw [if_neg hne]
   exact .inl ⟨by unfold sgn; rw [if_pos (by omega)], .head h⟩
  ·have hne : a ≠ b := fun e => by subst e; exact QcR _ h
   have h' : b.toNat < a.toNat := h
   rw [if_neg hne]
   exact .inr (.inl ⟨by unfold sgn; rw [if_neg (by omega), if_pos (by omega)], .head h⟩)
  ·rw [if_pos rfl]
   exact (ih.cons a).mono fun e => by rw [e]
theorem QhU {a b : Int} {s t : Str} (h1 : a < b → Lt s t) (h2 : b < a → Lt t s) : Ord (sgn a b) s t (a = b) := by
 unfold sgn
 by_cases h : a < b
 ·rw [if_pos h]; exact .inl ⟨rfl, h1 h⟩
 ·rw [if_neg h]
  by_cases h' : b < a
  ·rw [if_pos h']; exact .inr (.inl ⟨rfl, h2 h'⟩)
  ·rw [if_neg h']; exact .inr (.inr ⟨rfl, by omega⟩)
/-- digits behind how many they are -/
theorem Qmr {a b : Str} (ha : a.length < 2147483648) (hb : b.length < 2147483648) : Ord (cmpD a b) (numB 0 a.length ++ a) (numB 0 b.length ++ b) (a = b) := by
 unfold cmpD
 by_cases h : a.length = b.length
 ·rw [if_pos h, h]
  exact (Qkb h).pre _
 ·rw [if_neg h]
  have := QhU (a := (a.length : Int)) (b := (b.length : Int)) (s := numB 0 a.length ++ a) (t := numB 0 b.length ++ b) (fun hl => (QhQ (by omega) (by omega) (by omega)).app a b) (fun hl => (QhQ (by omega) (by omega) (by omega)).app b a)
  exact this.mono fun e => absurd e (by omega)
theorem Qmq {a b : Str} (ha : a.length < 2147483648) (hb : b.length < 2147483648) : Ord (cmpB a b) (Bg a) (Bg b) (a = b) := by
 unfold cmpB Bg
 have hua := Qh6 a
 have hub := Qh6 b
 cases hma : isMin a with
 | false =>
  cases hmb : isMin b with
  | false =>
   rw [QhK hma, QhK hmb]
   exact (Qmr ha hb).cons 128
  | true => exact .inr (.inl ⟨rfl, .head (by decide)⟩)
 | true =>
  cases hmb : isMin b with
  | false => exact .inl ⟨rfl, .head (by decide)⟩
  | true =>
   obtain ⟨h1, h2⟩ := Qgl hma
   obtain ⟨h3, h4⟩ := Qgl hmb
   rw [h1] at hua ⊢
   rw [h3] at hub ⊢
   have := (Qmr (a := b.tail) (b := a.tail) (by omega) (by omega)).cons 128
   rcases this with ⟨g1, g2⟩ | ⟨g1, g2⟩ | ⟨g1, g2⟩
   ·exact .inl ⟨g1, g2.flip⟩
   ·exact .inr (.inl ⟨g1, g2.flip⟩)
   ·exact .inr (.inr ⟨g1, by rw [h2, h4, g2]⟩)
theorem QiQ (v : V) : encV v ≠ [] := by rw [Qgh]; simp
theorem Qjf : ∀ (l m : List V), (∀ v ∈ l, ∀ w ∈ m, Ord (cmpV v w) (encV v) (encV w) (v = w)) → Ord (cmpVs l m) (encVs l) (encVs m) (l = m)
 | [], [], _ => .inr (.inr ⟨rfl, rfl⟩)
 | [], w :: m, _ => .inl ⟨rfl, .head (by decide)⟩
 | v :: l, [], _ => .inr (.inl ⟨rfl, .head (by decide)⟩)
 | v :: l, w :: m, h => by
  have h1 := h v (List.mem_cons_self ..) w (List.mem_cons_self ..)
  have h2 := Qjf l m fun a ha b hb => h a (List.mem_cons_of_mem _ ha) b (List.mem_cons_of_mem _ hb)
  simp only [cmpVs, encVs]
  rcases h1 with ⟨g1, g2⟩ | ⟨g1, g2⟩ | ⟨g1, g2⟩
  ·rw [g1]; exact .inl ⟨by simp, .tail (g2.app _ _)⟩
  ·rw [g1]; exact .inr (.inl ⟨by simp, .tail (g2.app _ _)⟩)
  ·subst g2
   rw [g1]
   simp only [ne_eq, not_true_eq_false, if_false]
   exact ((h2.pre (encV v)).cons 1).mono fun e => by rw [e]
theorem V.ext {v w : V} (h1 : v.k = w.k) (h2 : v.n = w.n) (h3 : v.s = w.s) (h4 : v.l = w.l) : v = w := by
 obtain ⟨k, n, s, l⟩ := v
 obtain ⟨k', n', s', l'⟩ := w
 simp only [V.k, V.n, V.s, V.l] at h1 h2 h3 h4
 rw [h1, h2, h3, h4]
theorem Qlr {k n : Int} {s : Str} {m : Nat} (h : okN k n s m = true) : (k = 1 ∨ k = 2 → s = [] ∧ m = 0) ∧ (k = 3 ∨ k = 4 → n = 0 ∧ m = 0) ∧ (k = 5 → n = 0 ∧ s = []) ∧ (k = 6 → n = 0) := by
 unfold okN at h
 refine ⟨fun hk => ?_, fun hk => ?_, fun hk => ?_, fun hk => ?_⟩
 ·rcases hk with rfl | rfl
  ·simp at h; exact ⟨h.1.2, h.2⟩
  ·simp at h; exact h
 ·rcases hk with rfl | rfl
  ·simp at h; exact ⟨h.1.2, h.2⟩
  ·simp at h; exact h
 ·subst hk; simp at h; exact h.1
 ·subst hk; simp at h; exact h.1
theorem Qmz (v w : V) (hB : VB v) (hB2 : VB w) (hF : formV v = true) (hF2 : formV w = true) (hs : vtot v < 2147483648) (hs2 : vtot w < 2147483648) : Ord (cmpV v w) (encV v) (encV w) (v = w) := by
 refine V.rec_ (P := fun v => ∀ w, VB v → VB w → formV v = true → formV w = true → vtot v < 2147483648 → vtot w < 2147483648 → Ord (cmpV v w) (encV v) (encV w) (v = w)) (fun v ih => ?_) v w hB hB2 hF hF2 hs hs2
 clear hB hB2 hF hF2 hs hs2
 intro w hB hB2 hF hF2 hs hs2
 obtain ⟨ok1, fl1⟩ := mayN v hF
 obtain ⟨ok2, fl2⟩ := mayN w hF2
 obtain ⟨a1, a2, a3, a4⟩ := Qlr ok1
 obtain ⟨b1, b2, b3, b4⟩ := Qlr ok2
 have hk1 := hB.k
 have hk2 := hB2.k
 rw [QgI] at hs hs2
 rw [QhD, Qgh, Qgh]
 by_cases hkk : v.k = w.k
 rotate_left
 ·rw [if_pos hkk]
  refine (QhU (fun h => .head ?_) (fun h => .head ?_)).mono fun e => absurd e hkk
  ·show (UInt8.ofNat _).toNat < (UInt8.ofNat _).toNat
   rw [UInt8.toNat_ofNat', UInt8.toNat_ofNat']; omega
  ·show (UInt8.ofNat _).toNat < (UInt8.ofNat _).toNat
   rw [UInt8.toNat_ofNat', UInt8.toNat_ofNat']; omega
 rw [if_neg (by simp [hkk]), ← hkk]
 refine Ord.cons _ ?_
 have hl : Ord (cmpVs v.l w.l) (encVs v.l) (encVs w.l) (v.l = w.l) := Qjf v.l w.l fun p hp q hq => ih p hp q (hB.ls.mem hp) (hB2.ls.mem hq) (QbF hp fl1) (QbF hq fl2) (by have := QcS hp; omega) (by have := QcS hq; omega)
 have nil0 : ∀ {l : List V}, l.length = 0 → l = [] := fun h => List.length_eq_zero_iff.1 h
 rcases Qmo ok1 with h | h | h | h | h | h
 ·obtain ⟨c1, c2⟩ := a1 (.inl h)
  obtain ⟨d1, d2⟩ := b1 (.inl (by omega))
  rw [if_neg (by omega), if_neg (by omega), if_neg (by omega), if_neg (by omega), if_pos h, if_pos h]
  have n1 := QhR ok1 h
  have n2 := QhR ok2 (by omega)
  refine (QhU (fun hh => ?_) (fun hh => ?_)).mono fun e => V.ext hkk e (by rw [c1, d1]) (by rw [nil0 c2, nil0 d2])
  ·have e1 : v.n = 0 := by omega
   have e2 : w.n = 1 := by omega
   rw [e1, e2]; exact .head (by decide)
  ·have e1 : v.n = 1 := by omega
   have e2 : w.n = 0 := by omega
   rw [e1, e2]; exact .head (by decide)
 ·obtain ⟨c1, c2⟩ := a1 (.inr h)
  obtain ⟨d1, d2⟩ := b1 (.inr (by omega))
  rw [if_neg (by omega), if_neg (by omega), if_neg (by omega), if_neg (by omega), if_neg (by omega), if_pos h, if_neg (by omega), if_pos h]
  exact (QhU (fun hh => Qmc hB.n.1 hB2.n.2 hh) (fun hh => Qmc hB2.n.1 hB.n.2 hh)).mono fun e => V.ext hkk e (by rw [c1, d1]) (by rw [nil0 c2, nil0 d2])
 ·obtain ⟨c1, c2⟩ := a2 (.inl h)
  obtain ⟨d1, d2⟩ := b2 (.inl (by omega))
  rw [if_pos h, if_neg (by omega), if_neg (by omega), if_pos h, if_neg (by omega), if_neg (by omega), if_pos h]
  exact (Qmq (by omega) (by omega)).mono fun e => V.ext hkk (by rw [c1, d1]) e (by rw [nil0 c2, nil0 d2])
 ·obtain ⟨c1, c2⟩ := a2 (.inr h)
  obtain ⟨d1, d2⟩ := b2 (.inr (by omega))
  rw [if_neg (by omega), if_pos h, if_neg (by omega), if_neg (by omega), if_neg (by omega), if_pos h, if_neg (by omega), if_neg (by omega), if_neg (by omega), if_pos h]
  exact (Qls v.s w.s).mono fun e => V.ext hkk (by rw [c1, d1]) e (by rw [nil0 c2, nil0 d2])
 ·obtain ⟨c1, c2⟩ := a3 h
  obtain ⟨d1, d2⟩ := b3 (by omega)
  rw [if_neg (by omega), if_neg (by omega), if_pos h, if_neg (by omega), if_neg (by omega), if_neg (by omega), if_neg (by omega), if_pos h, if_neg (by omega), if_neg (by omega), if_neg (by omega), if_neg (by omega), if_pos h]
  exact hl.mono fun e => V.ext hkk (by rw [c1, d1]) (by rw [c2, d2]) e
 ·have c1 := a4 h
  have d1 := b4 (by omega)
  rw [h]
  show Ord (if vcmpS v.s w.s ≠ 0 then vcmpS v.s w.s else cmpVs v.l w.l) (Tx v.s ++ encVs v.l) (Tx w.s ++ encVs w.l) (v = w)
  rcases Qls v.s w.s with ⟨g1, g2⟩ | ⟨g1, g2⟩ | ⟨g1, g2⟩
  ·rw [g1]; exact .inl ⟨by simp, g2.app _ _⟩
  ·rw [g1]; exact .inr (.inl ⟨by simp, g2.app _ _⟩)
  ·rw [g1, g2]
   simp only [ne_eq, not_true_eq_false, if_false]
   exact (hl.pre _).mono fun e => V.ext hkk (by rw [c1, d1]) g2 e
/-- how the bytes stand, whatever stands behind -/
theorem Ord.cmp {c : Int} {s t : Str} {P : Prop} (h : Ord c s t P) (hp : P → s = t) : cmpS s t = c ∧ (c ≠ 0 → ∀ x y, cmpS (s ++ x) (t ++ y) = c) := by
 rcases h with ⟨rfl, h⟩ | ⟨rfl, h⟩ | ⟨rfl, h⟩
 ·exact ⟨h.cmp.1, fun _ x y => (h.app x y).cmp.1⟩
 ·exact ⟨h.cmp.2, fun _ x y => (h.app y x).cmp.2⟩
 ·exact ⟨(Qh1 s t).2.2 (hp h), fun h => absurd rfl h⟩
end
section
open Go Go.Proofs
section
variable {C : Ctx} {H : Heap}
theorem QlT {A D : Heap} {v : V} {x : TV} {K : TV → Heap → Prop} (ho : ∀ (t : Sl) (H : Heap) (K : Sl → Heap → Prop), VRow A t v.l → A.le H → (∀ t2 H2, Made H H2 v.l t2 → K t2 H2) → Q0 C t K H) (hx : VIs A v x) (hA : A.le D)
 (k : ∀ t2 H2, Made D H2 v.l t2 → K { x with L := t2 } H2) : QaV C x K D := by
 apply QaV.gh
 apply Qia
 unfold QfG
 intro b1 n1 b3 n3
 have ne : b3 ≠ b1 := fun e => by rw [e, Heap.put_same] at n3; cases n3
 have n3' : D b3 = none := by rw [Heap.put_ne _ _ _ ne] at n3; exact n3
 have l1 := Heap.le_put n1 (g := .row (Qa.c x)) (m := true)
 have l3 := Heap.le_put n3 (g := .row (Qa.c Qa.zero)) (m := true)
 have lE := l1.trans l3
 have c1 : ((D.put b1 (.row (Qa.c x))).put b3 (.row (Qa.c Qa.zero))) b1 = some (true, .row (Qa.c x)) := by rw [Heap.put_ne _ _ _ ne.symm, Heap.put_same]
 have c3 : ((D.put b1 (.row (Qa.c x))).put b3 (.row (Qa.c Qa.zero))) b3 = some (true, .row (Qa.c Qa.zero)) := Heap.put_same ..
 generalize (D.put b1 (.row (Qa.c x))).put b3 (.row (Qa.c Qa.zero)) = E at *
 refine fL c1 (t := x.L) rfl ?_
 refine ho _ _ _ (Qdy.1 hx).2.2.2 (hA.trans lE) fun t2 H2 hm => ?_
 refine ⟨_, hm.le _ _ c1, by show 0 + 3 < 4; omega, ?_⟩
 show ldT (H2.put b1 (.row ((Qa.c x).set (0 + 3) (slv t2)))) Qa.c (b1, 0) _
 have hc2 : (Qa.c x).set (0 + 3) (slv t2) = Qa.c { x with L := t2 } := rfl
 rw [hc2]
 refine bxT (c := Qa.c) (x := { x with L := t2 }) (Heap.put_same ..) ?_
 refine ⟨Qa.c Qa.zero, by rw [Heap.put_ne _ _ _ ne]; exact hm.le _ _ c3, by simp [Qa.c], ?_⟩
 have hc3 : splice (Qa.c Qa.zero) (b3, 0).2 (Qa.c { x with L := t2 }) = Qa.c { x with L := t2 } := rfl
 rw [hc3]
 refine bxT (c := Qa.c) (x := { x with L := t2 }) (Heap.put_same ..) ?_
 have keep : ∀ {z : Nat} {e : Bool × GO}, z ≠ b1 → z ≠ b3 → H2 z = some e → ((H2.del b1).del b3) z = some e := fun h1 h3 hz => by
  rw [Heap.del_ne _ h3, Heap.del_ne _ h1]; exact hz
 have neE : ∀ {z : Nat}, E z = none → z ≠ b1 ∧ z ≠ b3 := fun hz => ⟨fun e => (by rw [e, c1] at hz; cases hz), fun e => (by rw [e, c3] at hz; cases hz)⟩
 have neD : ∀ {z : Nat} {e : Bool × GO}, D z = some e → z ≠ b1 ∧ z ≠ b3 := fun hz => ⟨fun e => (by rw [e, n1] at hz; cases hz), fun e => (by rw [e, n3'] at hz; cases hz)⟩
 refine ⟨(H2.del b1).del b3, Gh.le fun z e hz => ?_, k t2 _ ⟨fun z e hz => ?_, hm.row.le fun z e hz => ?_, ?_, hm.cp⟩⟩
 ·have h3 : z ≠ b3 := fun e => by rw [e, Heap.del_same] at hz; cases hz
  rw [Heap.del_ne _ h3] at hz
  have h1 : z ≠ b1 := fun e => by rw [e, Heap.del_same] at hz; cases hz
  rw [Heap.del_ne _ h1] at hz
  rw [Heap.put_ne _ _ _ h3, Heap.put_ne _ _ _ h1]; exact hz
 ·obtain ⟨h1, h3⟩ := neD hz
  exact keep h1 h3 (hm.le _ _ (lE _ _ hz))
 ·obtain ⟨q1, q2⟩ := Heap.new_inv hz
  obtain ⟨h1, h3⟩ := neE q1
  exact Heap.new_some (keep h1 h3 q2) (lE.none q1)
 ·obtain ⟨j, hj⟩ := hm.sp
  refine ⟨j, hj.to fun z e hz he => ?_⟩
  obtain ⟨h1, h3⟩ := neE hz
  exact ⟨lE.none hz, keep h1 h3 he⟩
theorem Qjg {A : Heap} {l : List V} {t : Sl} {H : Heap} {K : Sl → Heap → Prop} (hv : VRow A t l) (hle : A.le H) (hz : vsizes l ≤ 1000000) (k : ∀ t2 H2, Made H H2 l t2 → K t2 H2) : Q0 C t K H := by
 have main : ∀ v : V, ∀ (A : Heap) (t : Sl) (H : Heap) (K : Sl → Heap → Prop), VRow A t v.l → A.le H → vsizes v.l ≤ 1000000 → (∀ t2 H2, Made H H2 v.l t2 → K t2 H2) → Q0 C t K H := by
  refine fun v => V.rec_ (P := fun v => ∀ (A : Heap) (t : Sl) (H : Heap) (K : Sl → Heap → Prop), VRow A t v.l → A.le H → vsizes v.l ≤ 1000000 → (∀ t2 H2, Made H H2 v.l t2 → K t2 H2) → Q0 C t K H) (fun v ih => ?_) v
  intro A t H K hv hle hz k
  apply QgO
  unfold Qej
  have hl := hv.len
  have hll := Qhp v.l
  refine ⟨fun x D => ∃ (s : Sl) (ys : List TV), x = (s, (ys.length : Int)) ∧ Od H D v.l s ys, fun x _ => v.l.length - x.2.toNat,
   ⟨Sl.nil, [], rfl, Od.nil⟩, ?_⟩
  rintro _ D ⟨s, ys, rfl, ho⟩
  rw [hl]
  refine ift.of (fun h => ?_) (fun h => ?_)
  ·have hlt : ys.length < v.l.length := by have := of_decide_eq_true h; dsimp only at this; omega
   have hleD := hle.trans ho.own.le
   refine hv.ld hleD rfl hlt fun x hx => ?_
   have hmem := List.getElem_mem hlt
   have hsz := QdX hmem
   have hszl : vsize v.l[ys.length] = vsizes v.l[ys.length].l + 1 := by cases v.l[ys.length]; rfl
   have hxi := Qdy.1 hx
   intro b12 n12
   refine nwT rfl ?_
   have l12 := Heap.le_put n12 (g := .row (Qa.c x)) (m := true)
   refine bxT (c := Qa.c) (x := x) (Heap.put_same ..) ?_
   refine QlT (A := A) (fun t H K q1 q2 q3 => ih _ hmem A t H K q1 q2 (by omega) q3) hx (hleD.trans l12) fun t2 H2 hm => ?_
   have hown : Own H2 4 s (ys.flatMap Qa.c) := ho.own.own.le (l12.trans hm.le)
   have hf := flat4 ys
   have hsl : s.len = ys.length := by have := ho.own.own.1; omega
   refine QcY (zc := Qa.c Qa.zero) hown.off rfl (by dsimp only; omega) (by dsimp only; omega) fun r H3 h4 hr => ?_
   rw [Qu (by omega) (by omega)]
   have hs := ho.step n12 hlt hm (x := { x with L := t2 }) ⟨hxi.1, hxi.2.1, hxi.2.2.1⟩ rfl (Heap.but.refl _ _) (by rw [List.append_nil] at h4; exact h4)
   refine ⟨⟨r, ys ++ [{ x with L := t2 }], ?_, hs⟩, by first | omega | (dsimp only; omega)⟩
   rw [List.length_append, List.length_singleton]; rfl
  ·have hn : ys.length = v.l.length := by
    have := of_decide_eq_false h; dsimp only at this
    have := ho.le
    omega
   exact k _ _ (ho.fin hn (by omega))
 exact main (.mk 0 0 [] l) A t H K hv hle hz k
end
end
section
open Go Go.Proofs
/-- the bytes of a row's values, one behind the other -/
def keyB (l : List V) : Str := l.flatMap encV
theorem Qj4 {l : List V} {i : Nat} (h : i < l.length) : keyB (l.take (i + 1)) = keyB (l.take i) ++ encV l[i] := by
 unfold keyB
 rw [List.take_add_one, List.getElem?_eq_getElem h, Option.toList_some, List.flatMap_append, List.flatMap_singleton]
theorem Qjb {m : Nat} : ∀ (l : List V), (∀ v ∈ l, (encV v).length ≤ m) → (keyB l).length ≤ l.length * m
 | [], _ => by simp [keyB]
 | v :: l, h => by
  have h1 := h v (List.mem_cons_self ..)
  have h2 := Qjb l fun w hw => h w (List.mem_cons_of_mem _ hw)
  unfold keyB at *
  rw [List.flatMap_cons, List.length_append, List.length_cons, Nat.add_mul]; omega
/-- values that a key may be made of -/
def fineV (l : List V) : Prop := VBs l ∧ l.length ≤ 10000 ∧ ∀ v ∈ l, vtot v ≤ 14000000
section
variable {C : Ctx} {H A : Heap}
theorem Qj5 {s : Sl} {l : List V} {K : Str → Bool → Heap → Prop} (hv : VRow A s l) (hA : A.le H) (hf : fineV l) (k1 : mayR l = true → ∀ H2, H.le H2 → K (keyB l) true H2) (k0 : mayR l = false → ∀ H2, H.le H2 → K [] false H2) : QbL C s K H := by
 obtain ⟨hB, hn, hz⟩ := hf
 apply Qh9
 unfold QfF
 have henc : ∀ v, VB v → vtot v ≤ 14000000 → (encV v).length ≤ 14000000 := fun v hv h => by have := Qi6 v hv (by omega); omega
 have hcl : ∀ i, (keyB (l.take i)).length ≤ 140000000000 := fun i => by
  have h1 := Qjb (m := 14000000) (l.take i) fun w hw => henc w (hB.mem (List.mem_of_mem_take hw)) (hz w (List.mem_of_mem_take hw))
  have h2 : (l.take i).length ≤ 10000 := by rw [List.length_take]; omega
  have h3 := Nat.mul_le_mul_right 14000000 h2
  omega
 refine ⟨fun y D => ∃ i : Nat, y.2 = (i : Int) ∧ i ≤ l.length ∧ OwnF H D 1 y.1 (bytesV (keyB (l.take i))) ∧ (l.take i).all mayV = true, fun y _ => l.length - y.2.toNat, ⟨0, rfl, Nat.zero_le _, OwnF.nil H 1, rfl⟩, ?_⟩
 rintro ⟨a, _⟩ D ⟨i, rfl, hi, ho, hmay⟩
 have hAD := hA.trans ho.le
 rw [hv.len]
 refine ift.of (fun h => ?_) (fun h => ?_)
 ·have hlt : i < l.length := by have := of_decide_eq_true h; dsimp only at this; omega
  have hmem := List.getElem_mem hlt
  have hzi := hz _ hmem
  have hBi := hB.mem hmem
  have hct := Qj4 hlt
  have hll := hcl i
  refine hv.ld hAD rfl hlt fun z hz => ?_
  intro b6 n6
  refine nwT rfl ?_
  have hle6 := Heap.le_put n6 (g := .row (Qa.c z)) (m := true)
  have hb6 : (D.put b6 (.row (Qa.c z))) b6 = some (true, .row (Qa.c z)) := Heap.put_same ..
  have hz6 := hz.le (hAD.trans hle6)
  have ho6 := ho.up hle6
  generalize D.put b6 (.row (Qa.c z)) = H3 at *
  refine bxV hb6 (QcE hz6 hBi ?_)
  have hck : ((checkV l[i] : Int) != 0) = !(mayV l[i]) := by unfold mayV; rfl
  rw [hck]
  refine ift.of (fun h2 => ?_) (fun h2 => ?_)
  ·have h2 : mayV l[i] = false := by simpa using h2
   refine k0 ?_ H3 ho6.le
   unfold mayR
   rw [List.all_eq_false]
   exact ⟨l[i], hmem, by simp [h2]⟩
  ·have hmv : mayV l[i] = true := by simpa using h2
   refine bxV hb6 (QhE ho6.own.rdsl ho6.lenB hz6 hBi (fun _ => by omega) (by omega) fun r H4 h4 => ?_)
   rw [if_pos hmv, ← hct] at h4
   rw [Qu (by dsimp only; omega) (by dsimp only; omega)]
   refine ⟨⟨i + 1, by dsimp only; omega, by omega, h4.down ho6.le, ?_⟩, by first | omega | (dsimp only; omega)⟩
   rw [List.take_add_one, List.getElem?_eq_getElem hlt, List.all_append, hmay]
   simp [hmv]
 ·have hie : i = l.length := by have := of_decide_eq_false h; dsimp only at this; omega
  subst hie
  rw [List.take_length] at ho hmay
  exact Qmh ho.own.rdsl ho.lenB (k1 hmay D ho.le)
end
end
section
open Go Go.Proofs
theorem QjS {v w : V} {x y : Str} (hB : VB v) (hB2 : VB w) (hF : formV v = true) (hF2 : formV w = true) (hs : vtot v < 2147483648) (hs2 : vtot w < 2147483648) (h : encV v ++ x = encV w ++ y) : v = w ∧ x = y := by
 have ho := Qmz v w hB hB2 hF hF2 hs hs2
 by_cases hc : cmpV v w = 0
 ·have hvw : v = w := by
   rcases ho with ⟨h1, _⟩ | ⟨h1, _⟩ | ⟨_, h1⟩
   ·omega
   ·omega
   ·exact h1
  subst hvw
  exact ⟨rfl, List.append_cancel_left h⟩
 ·have h1 := (ho.cmp fun e => by rw [e]).2 hc x y
  rw [h, (Qh1 (encV w ++ y) (encV w ++ y)).2.2 rfl] at h1
  exact absurd h1.symm hc
theorem QhM : ∀ {l m : List V}, VBs l → VBs m → mayR l = true → mayR m = true → (∀ v ∈ l, vtot v ≤ 14000000) → (∀ v ∈ m, vtot v ≤ 14000000) → keyB l = keyB m → l = m
 | [], [], _, _, _, _, _, _, _ => rfl
 | [], w :: m, _, _, _, _, _, _, h => by
  have := congrArg List.length h
  have h2 : 0 < (encV w).length := List.length_pos_iff.2 (QiQ w)
  simp [keyB] at this
  omega
 | v :: l, [], _, _, _, _, _, _, h => by
  have := congrArg List.length h
  have h2 : 0 < (encV v).length := List.length_pos_iff.2 (QiQ v)
  simp [keyB] at this
  exact absurd this.1 (QiQ v)
 | v :: l, w :: m, hB, hB2, hm, hm2, hz, hz2, h => by
  have e : ∀ (v : V) (l : List V), keyB (v :: l) = encV v ++ keyB l := fun v l => by simp [keyB]
  rw [e, e] at h
  unfold mayR at hm hm2
  rw [List.all_cons, Bool.and_eq_true] at hm hm2
  have z1 := hz v (List.mem_cons_self ..)
  have z2 := hz2 w (List.mem_cons_self ..)
  obtain ⟨e1, e2⟩ := QjS hB.1 hB2.1 (QbO hm.1) (QbO hm2.1) (by omega) (by omega) h
  rw [e1, QhM hB.2 hB2.2 hm.2 hm2.2 (fun x hx => hz x (List.mem_cons_of_mem _ hx)) (fun x hx => hz2 x (List.mem_cons_of_mem _ hx)) e2]
end
section
open Go Go.Proofs
def pick (row : List V) (p : Int) : Option V := if p < 0 then none else row[p.toNat]?
def picks (row : List V) : List Int → Option (List V)
 | [] => some []
 | p :: ps => match pick row p, picks row ps with
  | some v, some vs => some (v :: vs)
  | _, _ => none
theorem Qd1 {row : List V} {p : Int} : ∀ {ps : List Int}, picks row (ps ++ [p]) = (match picks row ps, pick row p with
 | some vs, some v => some (vs ++ [v])
 | _, _ => none)
 | [] => by simp only [List.nil_append, picks]; cases pick row p <;> rfl
 | q :: ps => by
  simp only [List.cons_append, picks, Qd1 (ps := ps)]
  cases pick row q <;> cases picks row ps <;> cases pick row p <;> rfl
theorem Qhf {row : List V} {p : Int} : ∀ {ps : List Int}, p ∈ ps → pick row p = none → picks row ps = none
 | q :: ps, h, hn => by
  rcases List.mem_cons.1 h with rfl | h
  ·simp only [picks, hn]
  ·simp only [picks, Qhf h hn]
   cases pick row q <;> rfl
theorem QdJ {row : List V} : ∀ {ps : List Int} {vs : List V}, picks row ps = some vs → vs.length = ps.length ∧ ∀ v ∈ vs, v ∈ row
 | [], vs, h => by simp [picks] at h; subst h; exact ⟨rfl, fun v hv => by simp at hv⟩
 | p :: ps, vs, h => by
  simp only [picks] at h
  split at h
  ·rename_i w ws h1 h2
   injection h with h; subst h
   obtain ⟨q1, q2⟩ := QdJ h2
   refine ⟨by simp [q1], fun v hv => ?_⟩
   rcases List.mem_cons.1 hv with rfl | hv
   ·unfold pick at h1
    split at h1
    ·cases h1
    ·exact List.mem_of_getElem? h1
   ·exact q2 v hv
  ·cases h
def cI (x : Int) : List Value := [.int .i64 x]
def IL (A : Heap) := SlIs (fun v x : Int => x = v) cI A
theorem Qho {A : Heap} {v : V} {y : TV} : ∀ {l : List V} {xs : List TV}, VsAre A l xs → VIs A v y → VsAre A (l ++ [v]) (xs ++ [y])
 | [], [], _, h => ⟨h, trivial⟩
 | a :: l, x :: xs, h1, h2 => ⟨h1.1, Qho h1.2 h2⟩
 | [], x :: xs, h1, _ => h1.elim
 | a :: l, [], h1, _ => h1.elim
theorem Qi8 {l q : List V} (h : fineV l) (hq : ∀ v ∈ q, v ∈ l) (hn : q.length ≤ 10000) : fineV q :=
 ⟨VBs.of fun v hv => h.1.mem (hq v hv), hn, fun v hv => h.2.2 v (hq v hv)⟩
/-- the key of some places, where all are there and may be -/
def keyAt (ps : List Int) (l : List V) : Option Str := match picks l ps with
 | some q => if mayR q then some (keyB q) else none
 | none => none
section
variable {C : Ctx} {H A : Heap}
theorem Qmw {b : Nat × Nat} {t s : Sl} {ps : List Int} {l : List V} {K : Str → Bool → Heap → Prop} (hb : rd H (b.1, b.2 + 0) = some (slv t)) (hp : IL A t ps) (hv : VRow A s l) (hA : A.le H) (hf : fineV l) (hn : ps.length ≤ 10000)
 (k1 : ∀ key, keyAt ps l = some key → ∀ H2, H.le H2 → K key true H2) (k0 : keyAt ps l = none → ∀ H2, H.le H2 → K [] false H2) : Qc1 C (some b) s K H := by
 apply QgN
 unfold Qei
 refine ⟨b, rfl, t, hb, ?_⟩
 have hl := hv.len
 have hln := hf.2.1
 refine ⟨fun y D => ∃ (i : Nat) (q : List V) (ys : List TV), y.2 = (i : Int) ∧ i ≤ ps.length ∧ picks l (ps.take i) = some q ∧ VsAre A q ys ∧ OwnF H D 4 y.1 (ys.flatMap Qa.c), fun y _ => ps.length - y.2.toNat, ⟨0, [], [], rfl, Nat.zero_le _, rfl, trivial, OwnF.nil H 4⟩, ?_⟩
 rintro ⟨r, _⟩ D ⟨i, q, ys, rfl, hi, hq, hys, ho⟩
 have hAD := hA.trans ho.le
 obtain ⟨hql, hqm⟩ := QdJ hq
 rw [List.length_take, Nat.min_eq_left hi] at hql
 have hyl := hys.len
 have hf4 := flat4 ys
 have hrl : r.len = i := by have h1 : (ys.flatMap Qa.c).length = r.len * 4 := ho.own.1; omega
 rw [SlIs.len hp]
 refine ift.of (fun hc => ?_) (fun hc => ?_)
 ·have hlt : i < ps.length := by have := of_decide_eq_true hc; dsimp only at this; omega
  refine SlIs.fI hp hAD (z := 1) (fun _ => rfl) (by omega) rfl hlt (j := 0) (f := fun x => x) (fun _ => rfl) fun y hy => ?_
  rw [hy, hl]
  have hkn : pick l ps[i] = none → keyAt ps l = none := fun h => by unfold keyAt; rw [Qhf (List.getElem_mem hlt) h]
  refine ift.of (fun h2 => ?_) (fun h2 => ?_)
  ·refine k0 (hkn ?_) D ho.le
   rw [Bool.or_eq_true] at h2
   unfold pick
   rcases h2 with h2 | h2
   ·rw [if_pos (of_decide_eq_true h2)]
   ·have := of_decide_eq_true h2
    rw [if_neg (by omega)]
    exact List.getElem?_eq_none (by omega)
  ·rw [Bool.or_eq_false_iff] at h2
   have h3 := of_decide_eq_false h2.1
   have h4 := of_decide_eq_false h2.2
   have hil : ps[i].toNat < l.length := by omega
   have hpk : pick l ps[i] = some l[ps[i].toNat] := by unfold pick; rw [if_neg h3, List.getElem?_eq_getElem hil]
   refine hv.ld hAD (i := ps[i].toNat) (by omega) hil fun z hz => ?_
   refine QcY (zc := Qa.c Qa.zero) ho rfl (by dsimp only; omega) (by dsimp only; omega) fun r2 D2 q1 q2 => ?_
   rw [Qu (by dsimp only; omega) (by dsimp only; omega)]
   refine ⟨⟨i + 1, q ++ [l[ps[i].toNat]], ys ++ [z], by dsimp only; omega, by omega, ?_, Qho hys hz, ?_⟩, by first | omega | (dsimp only; omega)⟩
   ·rw [List.take_add_one, List.getElem?_eq_getElem hlt, Option.toList_some, Qd1, hq, hpk]
   ·rw [List.flatMap_append, List.flatMap_singleton]
    rw [List.append_nil] at q1
    exact q1
 ·have hie : i = ps.length := by have := of_decide_eq_false hc; dsimp only at this; omega
  subst hie
  rw [List.take_length] at hq
  have hr : VRow D r q := ⟨ys, ho.own.rdsl, by omega, hys.le hAD⟩
  refine Qj5 hr (Heap.le.refl _) (Qi8 hf hqm (by omega)) (fun hm H2 h2 => k1 _ ?_ H2 (ho.le.trans h2)) fun hm H2 h2 => k0 ?_ H2 (ho.le.trans h2)
  ·unfold keyAt; rw [hq]; simp [hm]
  ·unfold keyAt; rw [hq]; simp [hm]
end
end
section
open Go Go.Proofs
/-- whose a map's block is -/
inductive Wh where
 | rows : Wh
 | bys : Wh
 | inn : Str → Wh
 | leaf : Str → Str → Wh
def Wh.of : Wh → Option Str
 | .rows => none
 | .bys => none
 | .inn s => some s
 | .leaf s _ => some s
abbrev Own_ := Nat → Option Wh
theorem QiR {α : Type} {l : List (Str × α)} (h : l.Pairwise fun p q => p.1 ≠ q.1) {p : Str × α} : p ∈ l ↔ lkL p.1 l = some p.2 :=
 ⟨fun hp => Qb5 h hp, fun hp => Qa8 hp⟩
/-- a map of rows by their keys -/
def RM (A H : Heap) (m : Nat) (R : List (List V)) : Prop := ∃ l : List (Str × Sl), MapS slv H m l ∧ (∀ p ∈ l, ∃ r ∈ R, p.1 = keyB r ∧ VRow A p.2 r) ∧ ∀ r ∈ R, ∃ s, (keyB r, s) ∈ l
section
variable {A B H H2 : Heap} {m : Nat} {R R2 : List (List V)}
theorem RM.same (h : RM A H m R) (hb : H2 m = H m) : RM A H2 m R := by
 obtain ⟨l, h1, h2, h3⟩ := h
 exact ⟨l, h1.same hb, h2, h3⟩
theorem RM.up (h : RM A H m R) (hle : A.le B) : RM B H m R := by
 obtain ⟨l, h1, h2, h3⟩ := h
 exact ⟨l, h1, fun p hp => (h2 p hp).imp fun r ⟨q1, q2, q3⟩ => ⟨q1, q2, q3.le hle⟩, h3⟩
theorem RM.congr (h : RM A H m R) (he : ∀ r, r ∈ R ↔ r ∈ R2) : RM A H m R2 := by
 obtain ⟨l, h1, h2, h3⟩ := h
 exact ⟨l, h1, fun p hp => (h2 p hp).imp fun r ⟨q1, q2⟩ => ⟨(he r).1 q1, q2⟩, fun r hr => h3 r ((he r).2 hr)⟩
theorem RM.isS (h : RM A H m R) : ∃ g, H m = some (true, g) := by
 obtain ⟨l, ⟨es, ck, h1⟩, _⟩ := h
 exact ⟨_, h1.at_⟩
theorem RM.new {b : Nat} : RM A (H.put b (.obj (.map #[] 0))) b [] := ⟨[], MapS.new, (fun p hp => by cases hp), fun r hr => by cases hr⟩
theorem RM.put {r : List V} {s : Sl} {K : Heap → Prop} (h : RM A H m R) (hs : VRow A s r) (k : ∀ g, RM A (H.put m g) m (R ++ [r]) → K (H.put m g)) : upS slv (some m) (keyB r) s K H := by
 obtain ⟨l, h1, h2, h3⟩ := h
 refine ⟨m, l, rfl, h1, fun g l2 q1 q2 _ => k g ⟨l2, q1, fun p hp => ?_, fun r' hr' => ?_⟩⟩
 ·have hl := (QiR q1.is.nd).1 hp
  rw [q2] at hl
  split at hl
  ·rename_i he
   injection hl with hl
   exact ⟨r, by simp, he, hl ▸ hs⟩
  ·obtain ⟨r', a, b⟩ := h2 p (Qa8 hl)
   exact ⟨r', List.mem_append_left _ a, b⟩
 ·by_cases he : keyB r' = keyB r
  ·exact ⟨s, Qa8 (by rw [q2, if_pos he])⟩
  ·have hr : r' ∈ R := by
    rcases List.mem_append.1 hr' with hr | hr
    ·exact hr
    ·rw [List.mem_singleton] at hr; exact absurd (by rw [hr]) he
   obtain ⟨s', hs'⟩ := h3 r' hr
   exact ⟨s', Qa8 (by rw [q2, if_neg he]; exact Qb5 h1.is.nd hs')⟩
/-- rows whose keys are one to one -/
def Fine (R : List (List V)) : Prop := ∀ r ∈ R, fineV r ∧ mayR r = true
theorem Fine.inj (h : Fine R) {r r' : List V} (hr : r ∈ R) (hf : fineV r') (hm : mayR r' = true) (e : keyB r = keyB r') : r = r' :=
 QhM (h r hr).1.1 hf.1 (h r hr).2 hm (h r hr).1.2.2 hf.2.2 e
theorem RM.look {r : List V} {K : Sl → Bool → Prop} (h : RM A H m R) (hF : Fine R) (hf : fineV r) (hm : mayR r = true) (k1 : r ∈ R → ∀ s, VRow A s r → K s true) (k0 : r ∉ R → K Sl.nil false) : lkM slv Sl.nil (some m) (keyB r) K H := by
 obtain ⟨l, h1, h2, h3⟩ := h
 refine h1.is.lk (fun x hx => ?_) (fun hx => k0 fun hr => ?_)
 ·obtain ⟨r', a, b, c⟩ := h2 _ (Qa8 hx)
  have := hF.inj a hf hm b.symm
  subst this
  exact k1 a x c
 ·obtain ⟨s, hs⟩ := h3 r hr
  rw [Qb5 h1.is.nd hs] at hx; cases hx
theorem RM.perm (h : RM A H m R) (hn : R.Nodup) (hF : Fine R) {l : List (Str × Sl)} (h1 : MapS slv H m l) (h2 : ∀ p ∈ l, ∃ r ∈ R, p.1 = keyB r ∧ VRow A p.2 r) (h3 : ∀ r ∈ R, ∃ s, (keyB r, s) ∈ l) : (l.map fun p => p.1).Perm (R.map keyB) := by
 refine (List.perm_ext_iff_of_nodup ?_ ?_).2 fun k => ⟨fun hk => ?_, fun hk => ?_⟩
 ·have := h1.is.nd
  rw [List.Nodup, List.pairwise_map]; exact this
 ·rw [List.Nodup, List.pairwise_map]
  refine List.Pairwise.imp_of_mem (fun {a b} ha hb hab e => hab (hF.inj ha (hF b hb).1 (hF b hb).2 e)) hn
 ·obtain ⟨p, hp, rfl⟩ := List.mem_map.1 hk
  obtain ⟨r, hr, e, _⟩ := h2 p hp
  exact List.mem_map.2 ⟨r, hr, e.symm⟩
 ·obtain ⟨r, hr, rfl⟩ := List.mem_map.1 hk
  obtain ⟨s, hs⟩ := h3 r hr
  exact List.mem_map.2 ⟨_, hs, rfl⟩
theorem RM.ln {K : Nat → Prop} (h : RM A H m R) (hn : R.Nodup) (hF : Fine R) (k : K R.length) : lnM (some m) K H := by
 obtain ⟨l, h1, h2, h3⟩ := h
 have := (RM.perm ⟨l, h1, h2, h3⟩ hn hF h1 h2 h3).length_eq
 rw [List.length_map, List.length_map] at this
 exact h1.is.ln (by rw [this]; exact k)
end
/-- what has changed: blocks of some owners, and new ones -/
structure Chg (P : Wh → Prop) (o : Own_) (H : Heap) (o2 : Own_) (H2 : Heap) : Prop where
 kp : ∀ c e, H c = some e → (∀ w, o c = some w → ¬ P w) → H2 c = some e
 up : ∀ c w, o c = some w → o2 c = some w
 dn : ∀ c w, o2 c = some w → o c = some w ∨ (H c = none ∧ P w ∧ H2 c ≠ none)
 li : ∀ c, H c ≠ none → H2 c ≠ none
section
variable {P : Wh → Prop} {o o2 o3 : Own_} {A H H2 H3 : Heap}
theorem Chg.of_le (h : H.le H2) : Chg P o H o H2 := ⟨fun c e hc _ => h c e hc, fun _ _ h => h, fun _ _ h => .inl h, fun c hc => by
 cases he : H c with
 | none => exact absurd he hc
 | some e => rw [h c e he]; simp⟩
theorem Chg.trans (h : Chg P o H o2 H2) (h' : Chg P o2 H2 o3 H3) : Chg P o H o3 H3 := by
 refine ⟨fun c e hc hn => h'.kp c e (h.kp c e hc hn) fun w hw => ?_, fun c w hw => h'.up c w (h.up c w hw), fun c w hw => ?_, fun c hc => h'.li c (h.li c hc)⟩
 ·rcases h.dn c w hw with h1 | ⟨h1, h2⟩
  ·exact hn w h1
  ·rw [h1] at hc; cases hc
 ·rcases h'.dn c w hw with h1 | ⟨h1, h2⟩
  ·exact (h.dn c w h1).imp id fun ⟨a, b, d⟩ => ⟨a, b, h'.li c d⟩
  ·refine .inr ⟨?_, h2⟩
   cases he : H c with
   | none => rfl
   | some e => exact absurd h1 (h.li c (by rw [he]; simp))
theorem Chg.imp {Q : Wh → Prop} (h : Chg P o H o2 H2) (hi : ∀ w, P w → Q w) : Chg Q o H o2 H2 :=
 ⟨fun c e hc hn => h.kp c e hc fun w hw hp => hn w hw (hi w hp), h.up, fun c w hw => (h.dn c w hw).imp id fun ⟨a, b, d⟩ => ⟨a, hi w b, d⟩, h.li⟩
/-- a block of an owner written -/
theorem Chg.put {c : Nat} {w : Wh} {g : GO} (ho : o c = some w) (hP : P w) : Chg P o H o (H.put c g) := by
 refine ⟨fun x e hx hn => ?_, fun _ _ h => h, fun _ _ h => .inl h, fun x hx => ?_⟩
 ·have : x ≠ c := fun e' => by subst e'; exact hn w ho hP
  rw [Heap.put_ne _ _ _ this]; exact hx
 ·by_cases hxc : x = c
  ·subst hxc; rw [Heap.put_same]; simp
  ·rw [Heap.put_ne _ _ _ hxc]; exact hx
def Own_.set (o : Own_) (b : Nat) (w : Wh) : Own_ := fun c => if c = b then some w else o c
theorem Own_.set_same {b : Nat} {w : Wh} : o.set b w b = some w := by simp [Own_.set]
theorem Own_.set_ne {b c : Nat} {w : Wh} (h : c ≠ b) : o.set b w c = o c := by simp [Own_.set, h]
/-- a new block of an owner -/
theorem Chg.new {b : Nat} {w : Wh} {g : GO} {m : Bool} (hb : H b = none) (ho : ∀ w, o b = some w → False) (hP : P w) : Chg P o H (o.set b w) (H.put b g m) := by
 refine ⟨fun x e hx hn => Heap.le_put hb x e hx, fun c w' hc => ?_, fun c w' hc => ?_, fun x hx => ?_⟩
 ·have : c ≠ b := fun e => by subst e; exact ho w' hc
  rw [Own_.set_ne this]; exact hc
 ·by_cases hcb : c = b
  ·subst hcb; rw [Own_.set_same] at hc; injection hc with hc; subst hc
   exact .inr ⟨hb, hP, by rw [Heap.put_same]; simp⟩
  ·rw [Own_.set_ne hcb] at hc; exact .inl hc
 ·have : x ≠ b := fun e => by subst e; exact hx hb
  rw [Heap.put_ne _ _ _ this]; exact hx
/-- owners and rows' memory -/
structure OH (o : Own_) (A H : Heap) : Prop where
 le : A.le H
 ap : ∀ c w, o c = some w → A c = none
 oh : ∀ c w, o c = some w → H c ≠ none
theorem OH.no (h : OH o A H) {b : Nat} (hb : H b = none) : ∀ w, o b = some w → False := fun w hw => h.oh b w hw hb
theorem OH.chg (h : OH o A H) (hc : Chg P o H o2 H2) : OH o2 A H2 := by
 refine ⟨fun c e hc2 => hc.kp c e (h.le c e hc2) (fun w hw _ => by rw [h.ap c w hw] at hc2; cases hc2), fun c w hw => ?_, fun c w hw => ?_⟩
 ·rcases hc.dn c w hw with h1 | ⟨h1, _⟩
  ·exact h.ap c w h1
  ·exact h.le.none h1
 ·rcases hc.dn c w hw with h1 | ⟨_, _, h1⟩
  ·exact hc.li c (h.oh c w h1)
  ·exact h1
end
/-- the maps of some places' rows -/
def BM (o : Own_) (A H : Heap) (n : Str) (ps : List Int) (q : Nat) (R : List (List V)) (L : List (Str × Option Nat)) : Prop :=
 o q = some (.inn n) ∧ MapS mv H q L ∧ (∀ p ∈ L, ∃ e, p.2 = some e ∧ o e = some (.leaf n p.1) ∧ RM A H e (R.filter fun r => decide (keyAt ps r = some p.1))) ∧ ∀ r ∈ R, ∀ k, keyAt ps r = some k → ∃ e, (k, e) ∈ L
/-- rows by some places -/
def By (o : Own_) (A H : Heap) (n : Str) (ps : List Int) (b : Nat) (R : List (List V)) : Prop :=
 ∃ (mu : Bool) (t : Sl) (q : Nat) (L : List (Str × Option Nat)), A b = some (mu, .row [slv t, mv (some q)]) ∧ IL A t ps ∧ BM o A H n ps q R L
section
variable {o o2 : Own_} {A B H H2 : Heap} {n : Str} {ps : List Int} {q b : Nat} {R R2 : List (List V)} {L : List (Str × Option Nat)}
theorem BM.keep (h : BM o A H n ps q R L) (hk : ∀ c w, o c = some w → w.of = some n → o2 c = some w ∧ H2 c = H c) : BM o2 A H2 n ps q R L := by
 obtain ⟨h1, h2, h3, h4⟩ := h
 obtain ⟨k1, k2⟩ := hk q _ h1 rfl
 refine ⟨k1, h2.same k2, fun p hp => ?_, h4⟩
 obtain ⟨e, q1, q2, q3⟩ := h3 p hp
 obtain ⟨k1, k2⟩ := hk e _ q2 rfl
 exact ⟨e, q1, k1, q3.same k2⟩
theorem BM.blk (h : BM o A H n ps q R L) : (∃ g, H q = some (true, g)) ∧ ∀ p ∈ L, ∃ e g, p.2 = some e ∧ H e = some (true, g) := by
 obtain ⟨h1, ⟨es, ck, h2⟩, h3, h4⟩ := h
 refine ⟨⟨_, h2.at_⟩, fun p hp => ?_⟩
 obtain ⟨e, q1, q2, q3⟩ := h3 p hp
 obtain ⟨g, hg⟩ := q3.isS
 exact ⟨e, g, q1, hg⟩
theorem QfT {f : List V → Bool} (he : ∀ r, r ∈ R ↔ r ∈ R2) (r : List V) : r ∈ R.filter f ↔ r ∈ R2.filter f := by rw [List.mem_filter, List.mem_filter, he]
theorem BM.congr (h : BM o A H n ps q R L) (he : ∀ r, r ∈ R ↔ r ∈ R2) : BM o A H n ps q R2 L := by
 obtain ⟨h1, h2, h3, h4⟩ := h
 refine ⟨h1, h2, fun p hp => ?_, fun r hr => h4 r ((he r).2 hr)⟩
 obtain ⟨e, q1, q2, q3⟩ := h3 p hp
 exact ⟨e, q1, q2, q3.congr (QfT he)⟩
theorem BM.up (h : BM o A H n ps q R L) (hle : A.le B) : BM o B H n ps q R L := by
 obtain ⟨h1, h2, h3, h4⟩ := h
 refine ⟨h1, h2, fun p hp => ?_, h4⟩
 obtain ⟨e, q1, q2, q3⟩ := h3 p hp
 exact ⟨e, q1, q2, q3.up hle⟩
theorem By.keep (h : By o A H n ps b R) (hk : ∀ c w, o c = some w → w.of = some n → o2 c = some w ∧ H2 c = H c) : By o2 A H2 n ps b R := by
 obtain ⟨mu, t, q, L, h1, h2, h3⟩ := h
 exact ⟨mu, t, q, L, h1, h2, h3.keep hk⟩
theorem By.up (h : By o A H n ps b R) (hle : A.le B) : By o B H n ps b R := by
 obtain ⟨mu, t, q, L, h1, h2, h3⟩ := h
 exact ⟨mu, t, q, L, hle _ _ h1, SlIs.le hle h2 fun _ _ _ h => h, h3.up hle⟩
theorem By.congr (h : By o A H n ps b R) (he : ∀ r, r ∈ R ↔ r ∈ R2) : By o A H n ps b R2 := by
 obtain ⟨mu, t, q, L, h1, h2, h3⟩ := h
 exact ⟨mu, t, q, L, h1, h2, h3.congr he⟩
/-- another's change -/
theorem Chg.by_ {P : Wh → Prop} (h : Chg P o H o2 H2) (hB : By o A H n ps b R) (hP : ∀ w, P w → w.of ≠ some n) : By o2 A H2 n ps b R := by
 obtain ⟨mu, t, q, L, h1, h2, h3⟩ := hB
 obtain ⟨⟨g, hq⟩, hl⟩ := h3.blk
 obtain ⟨p1, p2, p3, p4⟩ := h3
 refine ⟨mu, t, q, L, h1, h2, h.up _ _ p1, p2.same ?_, fun p hp => ?_, p4⟩
 ·rw [hq]; exact h.kp _ _ hq fun w hw hPw => by rw [p1] at hw; injection hw with hw; subst hw; exact hP _ hPw rfl
 ·obtain ⟨e, q1, q2, q3⟩ := p3 p hp
  obtain ⟨e', g', r1, r2⟩ := hl p hp
  rw [q1] at r1; injection r1 with r1; subst r1
  refine ⟨e, q1, h.up _ _ q2, q3.same ?_⟩
  rw [r2]; exact h.kp _ _ r2 fun w hw hPw => by rw [q2] at hw; injection hw with hw; subst hw; exact hP _ hPw rfl
end
end
section
open Go Go.Proofs
section
variable {C : Ctx} {o o2 : Own_} {A H H2 : Heap} {n : Str} {ps : List Int} {q b : Nat} {R : List (List V)} {L : List (Str × Option Nat)}
theorem Qi7 {f : List V → Bool} {r : List V} : (R ++ [r]).filter f = if f r then R.filter f ++ [r] else R.filter f := by
 rw [List.filter_append]
 cases h : f r <;> simp [h]
theorem BM.ne (h : BM o A H n ps q R L) {p : Str × Option Nat} {e : Nat} (hp : p ∈ L) (he : p.2 = some e) : e ≠ q ∧ (∃ g, H e = some (true, g)) ∧ o e = some (.leaf n p.1) := by
 obtain ⟨h1, h2, h3, h4⟩ := h
 obtain ⟨e', q1, q2, q3⟩ := h3 p hp
 rw [he] at q1; injection q1 with q1; subst q1
 exact ⟨(fun e' => by subst e'; rw [h1] at q2; cases q2), q3.isS, q2⟩
/-- a new map for a key -/
theorem BM.key {k : Str} {K : Heap → Prop} (h : BM o A H n ps q R L) (hO : OH o A H) (hl : lkL k L = none)
 (kk : ∀ b2 o2 H2 L2, Chg (fun w => w.of = some n) o H o2 H2 → BM o2 A H2 n ps q R L2 → (k, some b2) ∈ L2 → K H2) : mkM (fun b2 H3 => upS mv (some q) k (some b2) K H3) H := by
 intro b2 n2
 obtain ⟨⟨gq, hq⟩, hbl⟩ := h.blk
 have hne := fun p e => h.ne (p := p) (e := e)
 obtain ⟨h1, h2, h3, h4⟩ := h
 have hle := Heap.le_put n2 (g := .obj (.map #[] 0)) (m := true)
 have hqb : q ≠ b2 := fun e => by subst e; rw [n2] at hq; cases hq
 refine ⟨q, L, rfl, h2.le hle, fun g l2 q1 q2 _ => kk b2 (o.set b2 (.leaf n k)) _ l2 ((Chg.new (P := fun w => w.of = some n) (w := .leaf n k) n2 (hO.no n2) rfl).trans (Chg.put (P := fun w => w.of = some n) (w := .inn n) (by rw [Own_.set_ne hqb]; exact h1) rfl)) ⟨by rw [Own_.set_ne hqb]; exact h1, q1, fun p hp => ?_, fun r hr k2 hk2 => ?_⟩ (Qa8 (by rw [q2, if_pos rfl]))⟩
 ·have hl2 := (QiR q1.is.nd).1 hp
  rw [q2] at hl2
  split at hl2
  ·rename_i he
   injection hl2 with hl2
   refine ⟨b2, hl2.symm, by rw [Own_.set_same, he], ?_⟩
   have hf : (R.filter fun r => decide (keyAt ps r = some p.1)) = [] := by
    rw [List.filter_eq_nil_iff]
    intro r hr hk
    obtain ⟨e, hm⟩ := h4 r hr p.1 (of_decide_eq_true hk)
    rw [he] at hm
    rw [Qb5 h2.is.nd hm] at hl; cases hl
   rw [hf]
   exact (RM.new (A := A) (H := H) (b := b2)).same (by rw [Heap.put_ne _ _ _ hqb.symm])
  ·have hpL := Qa8 hl2
   obtain ⟨e, r1, r2, r3⟩ := h3 _ hpL
   obtain ⟨s1, ⟨g', s2⟩, s3⟩ := hne _ e hpL r1
   have hb2 : e ≠ b2 := fun e' => by subst e'; rw [n2] at s2; cases s2
   exact ⟨e, r1, by rw [Own_.set_ne hb2]; exact r2, r3.same (by rw [Heap.put_ne _ _ _ s1, Heap.put_ne _ _ _ hb2])⟩
 ·obtain ⟨e, he⟩ := h4 r hr k2 hk2
  by_cases hk : k2 = k
  ·exact ⟨some b2, Qa8 (by rw [q2, if_pos hk])⟩
  ·exact ⟨e, Qa8 (by rw [q2, if_neg hk]; exact Qb5 h2.is.nd he)⟩
/-- a row put to a key's map -/
theorem BM.put {k : Str} {e : Nat} {r : List V} {s : Sl} {K : Heap → Prop} (h : BM o A H n ps q R L) (hm : (k, some e) ∈ L) (hk : keyAt ps r = some k) (hs : VRow A s r)
 (kk : ∀ g, Chg (fun w => w.of = some n) o H o (H.put e g) → BM o A (H.put e g) n ps q (R ++ [r]) L → K (H.put e g)) : upS slv (some e) (keyB r) s K H := by
 have hne := fun p e => h.ne (p := p) (e := e)
 obtain ⟨⟨gq, hq⟩, hbl⟩ := h.blk
 obtain ⟨h1, h2, h3, h4⟩ := h
 obtain ⟨e', r1, r2, r3⟩ := h3 _ hm
 injection r1 with r1; subst r1
 obtain ⟨s1, _, _⟩ := hne _ e hm rfl
 refine r3.put hs fun g hR => kk g (Chg.put r2 rfl) ⟨h1, h2.same (by rw [Heap.put_ne _ _ _ s1.symm]), fun p hp => ?_, fun r' hr' k' hk' => ?_⟩
 ·obtain ⟨e', t1, t2, t3⟩ := h3 p hp
  refine ⟨e', t1, t2, ?_⟩
  rw [Qi7]
  by_cases hpk : p.1 = k
  ·rw [if_pos (by rw [hk, hpk]; simp)]
   rw [hpk] at t2 t3 ⊢
   have : p = (k, some e') := by rw [← hpk, ← t1]
   rw [this] at hp
   have h5 := Qb5 h2.is.nd hp
   rw [Qb5 h2.is.nd hm] at h5
   injection h5 with h5; injection h5 with h5; subst h5
   exact hR
  ·rw [if_neg (by rw [hk]; simpa using fun e => hpk e.symm)]
   refine t3.same (Heap.put_ne _ _ _ fun e2 => ?_)
   subst e2
   rw [r2] at t2; injection t2 with t2; injection t2 with _ t2
   exact hpk t2.symm
 ·rcases List.mem_append.1 hr' with hr' | hr'
  ·exact h4 r' hr' k' hk'
  ·rw [List.mem_singleton] at hr'; subst hr'
   rw [hk] at hk'; injection hk' with hk'; subst hk'
   exact ⟨_, hm⟩
theorem Qif {r : List V} {s : Sl} {K : Heap → Prop} (h : By o A H n ps b R) (hO : OH o A H) (hs : VRow A s r) (hf : fineV r) (hps : ps.length ≤ 10000)
 (k : ∀ o2 H2, Chg (fun w => w.of = some n) o H o2 H2 → By o2 A H2 n ps b (R ++ [r]) → K H2) : Q9 C (some (b, 0)) (keyB r) s K H := by
 obtain ⟨mu, t, q, L, hb, hp, hB⟩ := h
 have hbH := hO.le _ _ hb
 apply Qf6
 unfold QdP
 refine Qmw (b := (b, 0)) (t := t) (ps := ps) (A := A) (by rw [Qbf hbH]; rfl) hp hs hO.le hf hps (fun key hkey H3 h3 => ?_) fun hkey H3 h3 => ?_
 ·refine Qd rfl ?_
  have hB3 : BM o A H3 n ps q R L := hB.keep fun c w hc _ => ⟨hc, by
   cases he : H c with
   | none => exact absurd he (hO.oh c w hc)
   | some e => exact h3 c e he⟩
  have c3 : Chg (fun w => w.of = some n) o H o H3 := Chg.of_le h3
  have hO3 := hO.chg c3
  have hb3 := hO3.le _ _ hb
  refine ⟨fun _ D => ∃ o2 L2 e, Chg (fun w => w.of = some n) o H o2 D ∧ BM o2 A D n ps q R L2 ∧ (key, some e) ∈ L2, ?_, ?_⟩
  ·refine ⟨_, rfl, some q, by rw [Qbf hb3]; rfl, ?_⟩
   refine hB3.2.1.is.lk (fun x hx => ?_) fun hx => ?_
   ·have hm := Qa8 hx
    obtain ⟨e, q1, q2, q3⟩ := hB3.2.2.1 _ hm
    dsimp only at q1; subst q1
    exact Qd rfl ⟨o, L, e, c3, hB3, hm⟩
   ·refine QU rfl ⟨_, rfl, some q, by rw [Qbf hb3]; rfl, ?_⟩
    exact hB3.key hO3 hx fun b2 o2 H4 L2 q1 q2 q3 => ⟨o2, L2, b2, c3.trans q1, q2, q3⟩
  ·rintro _ D ⟨o2, L2, e, c4, hB4, hm⟩
   have hO4 := hO.chg c4
   have hb4 := hO4.le _ _ hb
   refine ⟨_, rfl, some q, by rw [Qbf hb4]; rfl, ?_⟩
   refine hB4.2.1.is.lk (fun x hx => ?_) fun hx => ?_
   ·rw [Qb5 hB4.2.1.is.nd hm] at hx
    injection hx with hx; subst hx
    exact hB4.put hm hkey hs fun g q1 q2 => k o2 _ (c4.trans q1) ⟨mu, t, q, L2, hb, hp, q2⟩
   ·rw [Qb5 hB4.2.1.is.nd hm] at hx; cases hx
 ·refine QU rfl (k o H3 (Chg.of_le h3) ⟨mu, t, q, L, hb, hp, ?_⟩)
  have hB3 : BM o A H3 n ps q R L := hB.keep fun c w hc _ => ⟨hc, by
   cases he : H c with
   | none => exact absurd he (hO.oh c w hc)
   | some e => exact h3 c e he⟩
  obtain ⟨q1, q2, q3, q4⟩ := hB3
  refine ⟨q1, q2, fun p hp => ?_, fun r' hr' k' hk' => ?_⟩
  ·obtain ⟨e, r1, r2, r3⟩ := q3 p hp
   refine ⟨e, r1, r2, ?_⟩
   rw [Qi7, if_neg (by rw [hkey]; simp)]
   exact r3
  ·rcases List.mem_append.1 hr' with hr' | hr'
   ·exact q4 r' hr' k' hk'
   ·rw [List.mem_singleton] at hr'; subst hr'
    rw [hkey] at hk'; cases hk'
end
end
section
open Go Go.Proofs
/-- the name of places -/
def nmOf : List Int → Str
 | [] => []
 | p :: ps => Lib.itoa p ++ ps.flatMap fun q => 32 :: Lib.itoa q
def PsOk (ps : List Int) : Prop := ps.length ≤ 10000 ∧ ∀ p ∈ ps, -9223372036854775808 ≤ p ∧ p ≤ 9223372036854775807
/-- an index: its object, its maps -/
structure IxP (o : Own_) (A H : Heap) (x m g : Nat) (L : List (Str × Option (Nat × Nat))) (R : List (List V)) (Rb : Str → List (List V)) : Prop where
 oh : OH o A H
 hx : ∃ mu, A x = some (mu, .row [mv (some m), mv (some g)])
 om : o m = some .rows
 og : o g = some .bys
 rm : RM A H m R
 mg : MapS pv H g L
 bs : ∀ p ∈ L, ∃ b ps, p.2 = some (b, 0) ∧ p.1 = nmOf ps ∧ PsOk ps ∧ By o A H p.1 ps b (Rb p.1)
def Heap.or (A N : Heap) : Heap := fun c => match A c with | some e => some e | none => N c
section
variable {A N H : Heap}
theorem Heap.le_or : A.le (A.or N) := fun c e h => by unfold Heap.or; rw [h]
theorem Heap.or_le (h1 : A.le H) (h2 : N.le H) : (A.or N).le H := fun c e h => by
 unfold Heap.or at h
 cases ha : A c with
 | some e' => rw [ha] at h; injection h with h; subst h; exact h1 c _ ha
 | none => rw [ha] at h; exact h2 c e h
theorem Heap.or_some {c : Nat} (h : A.or N c ≠ none) : A c ≠ none ∨ N c ≠ none := by
 unfold Heap.or at h
 cases ha : A c with
 | some e' => exact .inl (by simp)
 | none => rw [ha] at h; exact .inr h
theorem Heap.or_none {c : Nat} (h1 : A c = none) (h2 : N c = none) : A.or N c = none := by unfold Heap.or; rw [h1]; exact h2
theorem Heap.le_or3 (h1 : A.le H) (h2 : N.le H) : N.le (A.or N) := fun c e hc => by
 unfold Heap.or
 cases ha : A c with
 | none => exact hc
 | some e' => have := h1 c _ ha; rw [h2 c _ hc] at this; exact this.symm
theorem Heap.le_or2 (h : ∀ c e, N c = some e → A c = none) : N.le (A.or N) := fun c e hc => by unfold Heap.or; rw [h c e hc]; exact hc
end
section
variable {C : Ctx} {o o2 : Own_} {A B H H2 : Heap} {x m g : Nat} {L : List (Str × Option (Nat × Nat))} {R R2 : List (List V)} {Rb Rb2 : Str → List (List V)}
theorem OH.up (h : OH o A H) (hle : H.le H2) : OH o A H2 := ⟨h.le.trans hle, h.ap, fun c w hw => by
 have := h.oh c w hw
 cases he : H c with
 | none => exact absurd he this
 | some e => rw [hle c e he]; simp⟩
theorem OH.eq (h : OH o A H) {P : Wh → Prop} (hle : H.le H2) {c : Nat} {w : Wh} (hw : o c = some w) : H2 c = H c := by
 cases he : H c with
 | none => exact absurd he (h.oh c w hw)
 | some e => exact hle c e he
theorem IxP.keep (h : IxP o A H x m g L R Rb) (hA : A.le H2) (hk : ∀ c w, o c = some w → H2 c = H c) : IxP o A H2 x m g L R Rb := by
 refine ⟨⟨hA, h.oh.ap, fun c w hw => by rw [hk c w hw]; exact h.oh.oh c w hw⟩, h.hx, h.om, h.og, h.rm.same (hk _ _ h.om), h.mg.same (hk _ _ h.og), fun p hp => ?_⟩
 obtain ⟨b, ps, q1, q2, q3, q4⟩ := h.bs p hp
 exact ⟨b, ps, q1, q2, q3, q4.keep fun c w hc _ => ⟨hc, hk c w hc⟩⟩
theorem IxP.up (h : IxP o A H x m g L R Rb) (hle : H.le H2) : IxP o A H2 x m g L R Rb :=
 h.keep (h.oh.le.trans hle) fun c w hw => by
  cases he : H c with
  | none => exact absurd he (h.oh.oh c w hw)
  | some e => exact hle c e he
theorem IxP.ld0 (h : IxP o A H x m g L R Rb) {K : Option Nat → Prop} (k : K (some m)) : ldM H ((x, 0).1, (x, 0).2 + 0) K := by
 obtain ⟨mu, hx⟩ := h.hx
 exact ⟨some m, by rw [Qbf (h.oh.le _ _ hx)]; rfl, k⟩
theorem IxP.ld1 (h : IxP o A H x m g L R Rb) {K : Option Nat → Prop} (k : K (some g)) : ldM H ((x, 0).1, (x, 0).2 + 1) K := by
 obtain ⟨mu, hx⟩ := h.hx
 exact ⟨some g, by rw [Qbf (h.oh.le _ _ hx)]; rfl, k⟩
theorem It.same {α : Type} {enc : α → Value} {it m : Nat} {l vs : List (Str × α)} (h : It enc H it m l vs) (h1 : H2 it = H it) (h2 : H2 m = H m) : It enc H2 it m l vs := by
 obtain ⟨⟨es, ck, seen, q1, q2, q3⟩, h4, h5⟩ := h
 exact ⟨⟨es, ck, seen, ⟨by rw [h2]; exact q1.at_, q1.ents, q1.st⟩, by rw [h1]; exact q2, q3⟩, h4, h5⟩
theorem It.at_ {α : Type} {enc : α → Value} {it m : Nat} {l vs : List (Str × α)} (h : It enc H it m l vs) : (∃ ob, H it = some (true, .obj ob)) ∧ ∃ ob, H m = some (true, .obj ob) := by
 obtain ⟨⟨es, ck, seen, q1, q2, q3⟩, h4, h5⟩ := h
 exact ⟨⟨_, q2⟩, _, q1.at_⟩
theorem Qmm {α : Type} {L vs : List (Str × α)} (hnd : L.Pairwise fun p q => p.1 ≠ q.1) (hs : ∀ p ∈ vs, p ∈ L) {p : Str × α} (hp : p ∈ L) (hn : p ∉ vs) : p.1 ∉ vs.map fun q => q.1 := fun h => by
 obtain ⟨q, hq, e⟩ := List.mem_map.1 h
 have := Qj8 hnd (hs q hq) hp e
 rw [this] at hq; exact hn hq
theorem Chg.tmp {P : Wh → Prop} {D : Heap} {it : Nat} {g : GO} {m : Bool} (h : Chg P o H o2 D) (hn : H it = none) (ho : ∀ w, o2 it = some w → False) : Chg P o H o2 (D.put it g m) := by
 refine ⟨fun c e hc hw => ?_, h.up, fun c w hw => ?_, fun c hc => ?_⟩
 ·have : c ≠ it := fun e' => by rw [e', hn] at hc; cases hc
  rw [Heap.put_ne _ _ _ this]; exact h.kp c e hc hw
 ·have : c ≠ it := fun e' => ho w (by rw [← e']; exact hw)
  rw [Heap.put_ne _ _ _ this]; exact h.dn c w hw
 ·have : c ≠ it := fun e' => hc (by rw [e']; exact hn)
  rw [Heap.put_ne _ _ _ this]; exact h.li c hc
/-- what is done to each list of rows by places: a range over them -/
theorem Qmj {K : Heap → Prop} {f : Option (Nat × Nat) → (Heap → Prop) → Heap → Prop} (h : IxP o A H x m g L R Rb)
 (step : ∀ o' D n b ps (J : Heap → Prop), Chg (fun _ => True) o H o' D → OH o' A D → PsOk ps → By o' A D n ps b (Rb n) → (∀ o2 D2, Chg (fun w => w.of = some n) o' D o2 D2 → By o2 A D2 n ps b (Rb2 n) → J D2) → f (some (b, 0)) J D)
 (k : ∀ o2 D, Chg (fun _ => True) o H o2 D → IxP o2 A D x m g L R Rb2 → K D) :
 rgM pv (some g) (fun b25 H26 => lp (α := Unit) () H26 fun x27 J28 H29 => nxB (enc := pv) b25 (fun b30 H31 => ift b30 (enM pv b25 (fun k33 x34 => f x34 (fun H36 => J28 () H36) H31) H31) (K H31)) H29) H := by
 refine .inr ⟨g, L, rfl, h.mg, fun it ob hn hI => ?_⟩
 have hle := Heap.le_put hn (g := .obj ob) (m := true)
 have hAit : A it = none := h.oh.le.none hn
 refine ⟨fun _ D => ∃ o2 vs, Chg (fun _ => True) o H o2 D ∧ It pv D it g L vs ∧ (∀ w, o2 it = some w → False) ∧ IxP o2 A D x m g L R (fun n => if n ∈ vs.map (fun q => q.1) then Rb2 n else Rb n), fun _ D => L.length - itN D it, ⟨o, [], Chg.of_le hle, hI, h.oh.no hn, ?_⟩, ?_⟩
 ·have h2 := h.up hle
  exact ⟨h2.oh, h2.hx, h2.om, h2.og, h2.rm, h2.mg, h2.bs⟩
 ·rintro _ D ⟨o2, vs, hc, hIt, hit, hP⟩
  refine .inr ⟨g, L, vs, hIt, fun hall => ?_, fun p hp hnv ob2 hI2 => ?_⟩
  ·refine Qd rfl (k o2 D hc ⟨hP.oh, hP.hx, hP.om, hP.og, hP.rm, hP.mg, fun p hp => ?_⟩)
   have := hP.bs p hp
   rw [if_pos (List.mem_map.2 ⟨p, hall p hp, rfl⟩)] at this
   exact this
  ·refine QU rfl ⟨p.1, p.2, ⟨g, L, vs, hI2⟩, ?_⟩
   have hgn : g ≠ it := fun e => hit _ (by rw [← e]; exact hP.og)
   have hne : ∀ c w, o2 c = some w → c ≠ it := fun c w hw e => hit w (by rw [← e]; exact hw)
   have hP2 : IxP o2 A (D.put it (.obj ob2)) x m g L R _ := hP.keep (fun c e hc2 => by
    have : c ≠ it := fun e' => by rw [e', hAit] at hc2; cases hc2
    rw [Heap.put_ne _ _ _ this]; exact hP.oh.le c e hc2) fun c w hw => Heap.put_ne _ _ _ (hne c w hw)
   have hc2 := hc.tmp (g := .obj ob2) (m := true) hn hit
   obtain ⟨b, ps, q1, q2, q3, q4⟩ := hP2.bs p hp
   have hnm := Qmm h.mg.is.nd hIt.sub hp hnv
   rw [if_neg hnm] at q4
   rw [q1]
   refine step o2 _ p.1 b ps _ hc2 hP2.oh q3 q4 fun o3 D2 c3 b3 => ?_
   obtain ⟨⟨_, a1⟩, _, a2⟩ := hI2.at_
   have hog := hP2.og
   have hom := hP2.om
   have k1 := c3.kp it _ a1 fun w hw => (hit w hw).elim
   have k2 := c3.kp g _ a2 fun w hw hq => by rw [hog] at hw; injection hw with hw; subst hw; cases hq
   have hI3 := hI2.same (k1.trans a1.symm) (k2.trans a2.symm)
   refine ⟨⟨o3, vs ++ [p], hc2.trans (c3.imp fun _ _ => trivial), hI3, fun w hw => ?_, ⟨hP2.oh.chg c3, hP2.hx, c3.up _ _ hom, c3.up _ _ hog, ?_, hP2.mg.same (k2.trans a2.symm), fun p' hp' => ?_⟩⟩, ?_⟩
   ·rcases c3.dn _ _ hw with h1 | ⟨h1, _⟩
    ·exact hit w h1
    ·rw [Heap.put_same] at h1; cases h1
   ·obtain ⟨gm, hgm⟩ := hP2.rm.isS
    refine hP2.rm.same ((c3.kp m _ hgm fun w hw hq => ?_).trans hgm.symm)
    rw [hom] at hw; injection hw with hw; subst hw; cases hq
   ·by_cases hpp : p'.1 = p.1
    ·have := Qj8 h.mg.is.nd hp' hp hpp
     subst this
     refine ⟨b, ps, q1, q2, q3, ?_⟩
     rw [if_pos (List.mem_map.2 ⟨_, List.mem_append_right _ (List.mem_singleton.2 rfl), rfl⟩)]
     exact b3
    ·obtain ⟨b', ps', r1, r2, r3, r4⟩ := hP2.bs p' hp'
     refine ⟨b', ps', r1, r2, r3, c3.by_ (n := p'.1) ?_ fun w hw e => hpp ?_⟩
     ·have he : (p'.1 ∈ (vs ++ [p]).map fun q => q.1) ↔ p'.1 ∈ vs.map fun q => q.1 := by
       rw [List.map_append, List.mem_append]
       exact ⟨fun h => h.elim id fun h => by simp at h; exact absurd h hpp, .inl⟩
      simp only [he]
      exact r4
     ·rw [hw] at e; injection e with e; exact e.symm
   ·have e1 := hI3.cnt
    have e2 := hI3.few
    have e3 := hIt.cnt
    simp only [List.length_append, List.length_singleton] at e1 e2
    dsimp only
    omega
end
end
section
open Go Go.Proofs
section
variable {C : Ctx} {o o2 : Own_} {A B H H2 : Heap} {x m g : Nat} {L : List (Str × Option (Nat × Nat))} {R R2 : List (List V)} {r : List V} {t : Sl}
def cR (l : List (List V)) : Str → List (List V) := fun _ => l
theorem IxP.grow (h : IxP o A H x m g L R (cR R)) (hle : A.le B) (hB : B.le H) (hap : ∀ c w, o c = some w → B c = none) : IxP o B H x m g L R (cR R) := by
 refine ⟨⟨hB, hap, h.oh.oh⟩, ?_, h.om, h.og, h.rm.up hle, h.mg, fun p hp => ?_⟩
 ·obtain ⟨mu, hx⟩ := h.hx
  exact ⟨mu, hle _ _ hx⟩
 ·obtain ⟨b, ps, q1, q2, q3, q4⟩ := h.bs p hp
  exact ⟨b, ps, q1, q2, q3, q4.up hle⟩
theorem Qmd {K : Bool → Int → Heap → Prop} (h : IxP o A H x m g L R (cR R)) (hF : Fine R) (hv : VRow B t r) (hB : B.le H) (hf : fineV r) (hz : vsizes r ≤ 1000000)
 (k0 : mayR r = false → ∀ H2, H.le H2 → K false 4 H2)
 (k1 : mayR r = true → r ∈ R → ∀ H2, H.le H2 → K false 0 H2)
 (k2 : mayR r = true → r ∉ R → ∀ o2 A2 H2, Chg (fun _ => True) o H o2 H2 → A.le A2 → (∀ c, A2 c ≠ none → A c ≠ none ∨ H c = none) → IxP o2 A2 H2 x m g L (R ++ [r]) (cR (R ++ [r])) → K true 0 H2) : QV C (some (x, 0)) t K H := by
 apply QeG
 unfold Qci
 refine Qd rfl (Qj5 hv hB hf (fun hm H4 h4 => Qd rfl ?_) fun hm H4 h4 => QU rfl (k0 hm H4 h4))
 have hP4 := h.up h4
 refine ⟨_, rfl, hP4.ld0 ?_⟩
 refine hP4.rm.look hF hf hm (fun hr s hs => QU rfl (k1 hm hr H4 h4)) fun hr => Qd rfl ?_
 refine Qjg hv (hB.trans h4) hz fun t2 H5 hM => ?_
 have hP5 := hP4.up hM.le
 refine ⟨_, rfl, hP5.ld0 ?_⟩
 have hle5 : (A.or (Heap.new H4 H5)).le H5 := Heap.or_le hP5.oh.le (Heap.new_le _ _)
 have hP5 : IxP o (A.or (Heap.new H4 H5)) H5 x m g L R (cR R) := hP5.grow Heap.le_or hle5 fun c w hw => Heap.or_none (h.oh.ap c w hw) (by
  cases hn : Heap.new H4 H5 c with
  | none => rfl
  | some e => exact absurd (Heap.new_inv hn).1 (hP4.oh.oh c w hw))
 have hN : (Heap.new H4 H5).le (A.or (Heap.new H4 H5)) := Heap.le_or2 fun c e hc => hP4.oh.le.none (Heap.new_inv hc).1
 have hAn : ∀ c, (A.or (Heap.new H4 H5)) c ≠ none → A c ≠ none ∨ H c = none := fun c hc => (Heap.or_some hc).imp id fun h => by
  cases hn : Heap.new H4 H5 c with
  | none => exact absurd hn h
  | some e => exact h4.none (Heap.new_inv hn).1
 have hrow := hM.row.le hN
 have hA2 : A.le (A.or (Heap.new H4 H5)) := Heap.le_or
 have hc5 : Chg (fun _ => True) o H o H5 := Chg.of_le (h4.trans hM.le)
 generalize A.or (Heap.new H4 H5) = A2 at *
 refine hP5.rm.put hrow fun g2 hR => ?_
 have hne : ∀ c w, o c = some w → w ≠ .rows → c ≠ m := fun c w hw e e' => by subst e'; rw [hP5.om] at hw; injection hw with hw; exact e hw.symm
 have hP6 : IxP o A2 (H5.put m g2) x m g L (R ++ [r]) (cR R) := by
  refine ⟨⟨fun c e hc => ?_, hP5.oh.ap, fun c w hw => ?_⟩, hP5.hx, hP5.om, hP5.og, hR, hP5.mg.same (Heap.put_ne _ _ _ (hne _ _ hP5.og (by intro h; cases h))), fun p hp => ?_⟩
  ·have : c ≠ m := fun e' => by rw [e', hP5.oh.ap _ _ hP5.om] at hc; cases hc
   rw [Heap.put_ne _ _ _ this]; exact hP5.oh.le c e hc
  ·by_cases hcm : c = m
   ·rw [hcm, Heap.put_same]; simp
   ·rw [Heap.put_ne _ _ _ hcm]; exact hP5.oh.oh c w hw
  ·obtain ⟨b, ps, q1, q2, q3, q4⟩ := hP5.bs p hp
   refine ⟨b, ps, q1, q2, q3, q4.keep fun c w hc hw => ⟨hc, Heap.put_ne _ _ _ (hne c w hc fun e => by subst e; cases hw)⟩⟩
 have hc6 : Chg (fun _ => True) o H o (H5.put m g2) := hc5.trans (Chg.put hP5.om trivial)
 refine ⟨_, rfl, hP6.ld1 ?_⟩
 refine Qmj (Rb2 := cR (R ++ [r])) (f := fun q J D => Q9 C q (keyB r) t2 J D) hP6 (fun o' D n b ps J hcD hO hps hBy kk => ?_) fun o2 D hc hP => k2 hm hr o2 A2 D (hc6.trans hc) hA2 hAn hP
 exact Qif hBy hO hrow hf hps.1 fun o2 D2 q1 q2 => kk o2 D2 q1 q2
theorem Ql9 {K : Int → Heap → Prop} (h : IxP o A H x m g L R (cR R)) (hF : Fine R) (hn : R.Nodup) (k : K R.length H) : QaI C (some (x, 0)) K H := by
 apply QeF
 unfold Qch
 exact Qd rfl ⟨_, rfl, h.ld0 (h.rm.ln hn hF k)⟩
theorem Qma {K : Option (Nat × Nat) → Heap → Prop} (k : ∀ x m g o A H2, H.le H2 → (∀ c w, o c = some w → H c = none) → (∀ c, A c ≠ none → H c = none) → IxP o A H2 x m g [] [] (cR []) → K (some (x, 0)) H2) : QbK C K H := by
 apply Qh8
 unfold QfE
 intro m nm g ng x nx
 have l1 := Heap.le_put nm (g := .obj (.map #[] 0)) (m := true)
 have l2 := Heap.le_put ng (g := .obj (.map #[] 0)) (m := true)
 have l3 := Heap.le_put nx (g := .row (Qo.c (⟨some m, some g⟩ : Qo))) (m := true)
 have hmg : g ≠ m := fun e => by subst e; rw [Heap.put_same] at ng; cases ng
 have hxg : x ≠ g := fun e => by subst e; rw [Heap.put_same] at nx; cases nx
 have hxm : x ≠ m := fun e => by subst e; rw [Heap.put_ne _ _ _ hmg.symm, Heap.put_same] at nx; cases nx
 have hHg : H g = none := l1.none ng
 have hHx : H x = none := l1.none (l2.none nx)
 refine k x m g (fun c => if c = m then some .rows else if c = g then some .bys else none) (fun c => if c = x then some (true, .row (Qo.c (⟨some m, some g⟩ : Qo))) else none) _ (l1.trans (l2.trans l3)) (fun c w hw => ?_) (fun c hc => ?_) ⟨⟨fun c e hc => ?_, fun c w hw => ?_, fun c w hw => ?_⟩, ⟨true, by rw [if_pos rfl]; rfl⟩, by rw [if_pos rfl], by rw [if_neg hmg, if_pos rfl], ?_, ?_, fun p hp => by cases hp⟩
 ·split at hw
  ·rename_i e; rw [e]; exact nm
  ·split at hw
   ·rename_i e; rw [e]; exact hHg
   ·cases hw
 ·by_cases hcx : c = x
  ·rw [hcx]; exact hHx
  ·rw [if_neg hcx] at hc; exact absurd rfl hc
 ·split at hc
  ·rename_i e; rw [e, Heap.put_same, hc]
  ·cases hc
 ·split at hw
  ·rename_i e; rw [if_neg (by rw [e]; exact hxm.symm)]
  ·split at hw
   ·rename_i e; rw [if_neg (by rw [e]; exact hxg.symm)]
   ·cases hw
 ·split at hw
  ·rename_i e; rw [e, Heap.put_ne _ _ _ hxm.symm, Heap.put_ne _ _ _ hmg.symm, Heap.put_same]; simp
  ·split at hw
   ·rename_i e; rw [e, Heap.put_ne _ _ _ hxg.symm, Heap.put_same]; simp
   ·cases hw
 ·exact (RM.new (H := H) (b := m)).same (by rw [Heap.put_ne _ _ _ hxm.symm, Heap.put_ne _ _ _ hmg.symm])
 ·exact (MapS.new (H := H.put m (.obj (.map #[] 0))) (b := g)).same (by rw [Heap.put_ne _ _ _ hxg.symm])
end
end
section
open Go Go.Proofs
section
variable {C : Ctx} {o o2 : Own_} {A B H H2 : Heap} {n : Str} {ps : List Int} {q b : Nat} {x m g : Nat} {L : List (Str × Option (Nat × Nat))} {LQ : List (Str × Option Nat)} {R R2 : List (List V)} {r : List V} {t : Sl}
end
end
section
open Go Go.Proofs
/-- what is called behind keeps the world's blocks: it has grown -/
theorem QlJ {w1 w' : World} {H' : Heap} (h : St (ctxOf w1) w' H') : ∃ q os', w' = Go.Sort.grow (w1.drewN q) os' := by
 have h1 : w'.os = w1.os := congrArg (fun q : Os × (Nat → Question → Nat) => q.1) h.os.1
 have h2 : w'.tape = w1.tape := congrArg (fun q : Os × (Nat → Question → Nat) => q.2) h.os.1
 have h3 : w1.drawn ≤ w'.drawn := h.os.2
 have h4 : w'.output = w1.output := h.out
 have h5 : w1.heap.size ≤ w'.heap.size := h.old_le
 have h6 : ∀ i, i < w1.heap.size → w'.heap[i]? = w1.heap[i]? := fun i hi => h.old i hi
 refine ⟨w'.drawn - w1.drawn, w'.heap.extract w1.heap.size w'.heap.size, ?_⟩
 have hh : w'.heap = w1.heap ++ w'.heap.extract w1.heap.size w'.heap.size := by
  apply Array.ext_getElem?
  intro i
  rw [Array.getElem?_append]
  split
  ·exact h6 i ‹_›
  ·rw [Array.getElem?_extract]
   have e : w1.heap.size + (i - w1.heap.size) = i := by omega
   rw [e]
   split
   ·rfl
   ·rw [Array.getElem?_eq_none (by omega)]
 have hd : w'.drawn = w1.drawn + (w'.drawn - w1.drawn) := by omega
 unfold Go.Sort.grow World.drewN
 generalize w'.drawn - w1.drawn = q at *
 generalize w'.heap.extract w1.heap.size w'.heap.size = es at *
 obtain ⟨a1, a2, a3, a4, a5⟩ := w'
 obtain ⟨b1, b2, b3, b4, b5⟩ := w1
 simp only at *
 subst h1; subst h2; subst h4; subst hd; subst hh
 rfl
theorem Qlw {A B : Heap} (h : ∀ p v, rd A p = some v → rd B p = some v) : ∀ {cs : List Value} {p : Nat × Nat}, rds A p cs → rds B p cs
 | [], _, _ => trivial
 | v :: r, p, ⟨h1, h2⟩ => ⟨h _ _ h1, Qlw h h2⟩
theorem Qkp {A B : Heap} (h : ∀ p v, rd A p = some v → rd B p = some v) {s : Sl} {cs : List Value} (hr : rdsl A s cs) : rdsl B s cs := by
 rcases hr with hr | ⟨a, p, b, c⟩
 ·exact .inl hr
 ·exact .inr ⟨a, p, b, Qlw h c⟩
mutual
theorem VIs.to {A B : Heap} (h : ∀ p v, rd A p = some v → rd B p = some v) : ∀ {v : V} {x : TV}, VIs A v x → VIs B v x
 | .mk k n s l, x, ⟨h1, h2, h3, xs, h4, h5, h6⟩ => ⟨h1, h2, h3, xs, Qkp h h4, h5, VsAre.to h h6⟩
theorem VsAre.to {A B : Heap} (h : ∀ p v, rd A p = some v → rd B p = some v) : ∀ {l : List V} {xs : List TV}, VsAre A l xs → VsAre B l xs
 | [], [], _ => trivial
 | v :: l, x :: xs, ⟨h1, h2⟩ => ⟨VIs.to h h1, VsAre.to h h2⟩
end
theorem VRow.to {A B : Heap} (h : ∀ p v, rd A p = some v → rd B p = some v) {t : Sl} {l : List V} (hr : VRow A t l) : VRow B t l := by
 obtain ⟨xs, h1, h2, h3⟩ := hr
 exact ⟨xs, Qkp h h1, h2, h3.to h⟩
/-- what is read in a part of the heap is read in a world that keeps its blocks -/
theorem Qk3 {C : Ctx} {w w1 : World} {A H : Heap} (hs : St C w H) (hA : A.le H) (hb : ∀ c, A c ≠ none → w1.heap[c]? = w.heap[c]?) (p : Nat × Nat) (v : Value) (h : rd A p = some v) : rd (heapOf w1) p = some v := by
 unfold rd at h
 split at h
 ·rename_i m g hg
  obtain ⟨ob, ho, hr⟩ := hs.blk _ _ _ (hA _ _ hg)
  have hw1 := (hb p.1 (by rw [hg]; simp)).trans ho
  cases hc : g.cells? with
  | none => rw [hc] at h; cases h
  | some c =>
   rw [hc] at h
   have : ∃ t fr, ob = .cells c.toArray t fr := by
    cases g <;> simp only [GO.cells?, Option.some.injEq, reduceCtorEq] at hc <;> cases ob <;> simp only [GO.rel] at hr
    ·subst hc; exact ⟨_, _, by rw [hr.1]⟩
    ·subst hc; exact ⟨_, _, by rw [hr.1]⟩
   obtain ⟨t, fr, e⟩ := this
   subst e
   unfold rd heapOf
   rw [hw1]
   exact h
 ·cases h
end
section
open Go Go.Proofs
/-- a row that can be compared, in a part of memory -/
def ZR (A : Heap) : Type := {z : Sl × List V // VRow A z.1 z.2 ∧ VBs z.2 ∧ z.2.length ≤ 140737488355328}
instance (A : Heap) : Inhabited (ZR A) := ⟨⟨(Sl.nil, []), ⟨[], .inl rfl, rfl, trivial⟩, trivial, Nat.zero_le _⟩⟩
def ZR.cf {A : Heap} (a b : ZR A) : Int := cmpR a.1.2 b.1.2
theorem Ql1 (A : Heap) : Go.Sort.SWO (ltOf (ZR.cf (A := A))) := by
 have hL := Lin.row
 refine ⟨fun x => ?_, fun x y z h1 h2 => ?_, fun x y z h1 h2 => ?_⟩
 ·have := hL.refl (a := x.1.2) trivial
  unfold ltOf ZR.cf; rw [this]; rfl
 ·have h1 := of_decide_eq_true h1
  have h2 := of_decide_eq_true h2
  have := (hL.tr x.1.2 y.1.2 z.1.2 trivial trivial trivial (by unfold ZR.cf at h1; omega) (by unfold ZR.cf at h2; omega)).2 (.inl h1)
  exact decide_eq_true this
 ·have h1 := of_decide_eq_false h1
  have h2 := of_decide_eq_false h2
  refine decide_eq_false ?_
  unfold ZR.cf at *
  have a1 := hL.anti x.1.2 y.1.2 trivial trivial
  have a2 := hL.anti y.1.2 z.1.2 trivial trivial
  have a3 := hL.anti x.1.2 z.1.2 trivial trivial
  have := (hL.tr z.1.2 y.1.2 x.1.2 trivial trivial trivial (by omega) (by omega)).1
  omega
theorem QiE {α : Type} [Inhabited α] {enc : α → Value} {w : World} {blk m c : Nat} {dk : Array α} {os : Array Obj} (hc : c ≠ blk) (hl : c < w.heap.size) : (sortWorld enc w blk 0 m dk os).heap[c]? = w.heap[c]? := by
 unfold sortWorld Go.Sort.grow Go.Sort.putRow Go.Sort.mapBlock Go.Sort.ahead
 simp only
 rw [Array.getElem?_append_left (by simpa using hl), Array.getElem?_modify, if_neg hc.symm]
theorem QkM {C : Ctx} {w : World} {H A : Heap} {blk size : Nat} (hs : St C w H) (hA : A.le H) (hb : A blk = none) : CmpLays1 Tryz.prog 53 #[] (fun z : ZR A => slv z.1.1) ZR.cf blk 0 size w := by
 intro m os dk hd x y
 have hrd : ∀ p v, rd A p = some v → rd (heapOf (sortWorld (fun z : ZR A => slv z.1.1) w blk 0 m dk os)) p = some v := fun p v h =>
  Qk3 hs hA (fun c hc => QiE (fun e => hc (by rw [e]; exact hb)) (by
   cases hac : A c with
   | none => exact absurd hac hc
   | some e => exact hs.lt (hA _ _ hac))) p v h
 have hspec : QbN (ctxOf (sortWorld (fun z : ZR A => slv z.1.1) w blk 0 m dk os)) x.1.1 y.1.1 (fun r _ => r = cmpR x.1.2 y.1.2) (heapOf (sortWorld (fun z : ZR A => slv z.1.1) w blk 0 m dk os)) :=
  QiT (x.2.1.to hrd) (y.2.1.to hrd) x.2.2.2 y.2.2.2 x.2.2.1 y.2.2.1 rfl
 have hcall := hspec _ (QiF _)
 refine hcall.mono ?_
 rintro e w' ⟨v, H', rfl, hst, r, rfl, hr⟩
 subst hr
 exact ⟨rfl, QlJ hst⟩
theorem Qj0 {C : Ctx} {w : World} {H A : Heap} {blk : Nat} {d : Array (ZR A)} {sp : List Value} (hs : St C w H) (hb : H blk = some (true, .row ((d.toList.map fun z => slv z.1.1) ++ sp))) : Go.Sort.Holds (fun z : ZR A => slv z.1.1) w blk 0 d := by
 intro j hj
 obtain ⟨ob, ho, hr⟩ := hs.blk _ _ _ hb
 cases ob <;> simp only [GO.rel] at hr
 rename_i c t fr
 obtain ⟨rfl, hfr⟩ := hr
 have hfr := hfr trivial
 have hl : 0 + j < ((d.toList.map fun z : ZR A => slv z.1.1) ++ sp).length := by simp; omega
 constructor
 ·unfold World.cell?
  simp only [ho]
  rw [if_neg (by simp), List.getElem?_toArray, Nat.zero_add, List.getElem?_append_left (by simpa using hj), List.getElem?_map, Array.getElem?_toList, Array.getElem?_eq_getElem hj]
  simp [hj]
 ·unfold World.frozen?
  simp only [ho]
  obtain ⟨lo, hi⟩ := fr
  simp only at hfr ⊢
  rcases hfr with h | h
  ·subst h; simp; try omega
  ·simp; try omega
theorem St.putR {α : Type} [Inhabited α] {enc : α → Value} {C : Ctx} {w : World} {H : Heap} {b : Nat} {cs sp : List Value} {d : Array α} (hs : St C w H) (hb : H b = some (true, .row (cs ++ sp))) (hl : cs.length = d.size) : St C (Go.Sort.putRow enc w b 0 d) (H.put b (.row ((d.toList.map enc) ++ sp))) := by
 obtain ⟨ob, ho, hr⟩ := hs.blk _ _ _ hb
 cases ob <;> simp only [GO.rel] at hr
 rename_i c t fr
 obtain ⟨rfl, hfr⟩ := hr
 have hfr := hfr trivial
 refine hs.set hb (o' := .cells (Go.Sort.putCells enc 0 d (cs ++ sp).toArray) t fr) ⟨rfl, rfl, ?_, fun x hx => ?_⟩ ⟨?_, fun _ => ?_⟩
 ·unfold Go.Sort.putRow Go.Sort.mapBlock
  simp only
  rw [Array.getElem?_modify, if_pos rfl, ho]
  rfl
 ·unfold Go.Sort.putRow Go.Sort.mapBlock
  simp only
  rw [Array.getElem?_modify, if_neg hx.symm]
 ·apply Array.ext_getElem?
  intro k
  unfold Go.Sort.putCells
  rw [Array.getElem?_mapIdx, List.getElem?_toArray, List.getElem?_toArray, Nat.zero_add]
  by_cases hk : k < d.size
  ·have hk1 : k < cs.length := by omega
   have hk2 : k < (d.toList.map enc).length := by simpa using hk
   have e1 : (cs ++ sp)[k]? = some cs[k] := by rw [List.getElem?_append_left hk1, List.getElem?_eq_getElem hk1]
   have e2 : (d.toList.map enc ++ sp)[k]? = some (enc d[k]) := by rw [List.getElem?_append_left hk2, List.getElem?_map, Array.getElem?_toList, Array.getElem?_eq_getElem hk]; rfl
   rw [e1, e2]
   simp [hk]
  ·have e1 : (cs ++ sp)[k]? = sp[k - d.size]? := by rw [List.getElem?_append_right (by omega), hl]
   have e2 : (d.toList.map enc ++ sp)[k]? = sp[k - d.size]? := by rw [List.getElem?_append_right (by simp; omega)]; simp
   rw [e1, e2]
   cases hsp : sp[k - d.size]? with
   | none => rfl
   | some v => simp [hk]
 ·simp only [List.length_append, List.length_map, Array.length_toList] at hfr ⊢
  omega
theorem St.sortW {α : Type} [Inhabited α] {enc : α → Value} {C : Ctx} {w : World} {H : Heap} {b n : Nat} {cs sp : List Value} {d : Array α} {os : Array Obj} (hs : St C w H) (hb : H b = some (true, .row (cs ++ sp))) (hl : cs.length = d.size) : St C (sortWorld enc w b 0 n d os) (H.put b (.row ((d.toList.map enc) ++ sp))) := by
 have h1 := St.putR (enc := enc) (hs.drewN n) hb hl
 have h2 := St.growL os.toList h1
 rw [Array.toArray_toList] at h2
 exact h2
theorem QkC {A : Heap} : ∀ (zs : List (Sl × List V)), (∀ z ∈ zs, VRow A z.1 z.2 ∧ VBs z.2 ∧ z.2.length ≤ 140737488355328) → ∃ dl : List (ZR A), dl.map (fun z => z.1) = zs
 | [], _ => ⟨[], rfl⟩
 | z :: zs, h => by
  obtain ⟨dl, e⟩ := QkC zs fun z hz => h z (List.mem_cons_of_mem _ hz)
  exact ⟨⟨z, h z (List.mem_cons_self ..)⟩ :: dl, congrArg (fun l => z :: l) e⟩
theorem Qjo {C : Ctx} {H0 H : Heap} {s : Sl} {zs : List (Sl × List V)} {K : Heap → Prop} (ho : OwnF H0 H 1 s (zs.map fun z => slv z.1)) (hz : ∀ z ∈ zs, VRow (H.off s) z.1 z.2 ∧ VBs z.2 ∧ z.2.length ≤ 140737488355328) (hn : zs.length ≤ 1000000000)
 (k : ∀ (ws : List (Sl × List V)) H2, ws.Perm zs → ws.Pairwise (fun a b => cmpR a.2 b.2 ≤ 0) → OwnF H0 H2 1 s (ws.map fun z => slv z.1) → H2.off s = H.off s → K H2) : QO C s (.func (.func 53) (List.toArray []) (List.toArray [])) K H := by
 intro w hw
 obtain ⟨hle, ⟨hlen, hx, hcap, hcase⟩, hfr⟩ := ho
 have hlen : s.len = zs.length := by simpa using hlen.symm
 by_cases h0 : zs = []
 ·have hl0 : s.len = 0 := by rw [hlen, h0]; rfl
  have hall := AnyF.slices_SortFunc_none (P := Tryz.prog) (ρ := Tryz.laysSrt_ren) (by have L := Tryz.laysSrt; exact { L with }) s.ad s.cap (.func (.func 53) #[] #[]) w
  have harg : (#[.slice s.ad 0 s.cap, .func (.func 53) #[] #[]] : Array Value) = [slv s, .func (.func 53) (List.toArray []) (List.toArray [])].toArray := by
   unfold slv; rw [hl0]
  rw [← harg]
  refine hall.mono ?_
  rintro e w' ⟨rfl, rfl⟩
  exact ⟨.tuple #[], H, rfl, hw, rfl, k zs H (List.Perm.refl _) (by rw [h0]; exact .nil) ⟨hle, ⟨by simpa using hlen.symm, hx, hcap, hcase⟩, hfr⟩ rfl⟩
 ·rcases hcase with ⟨_, hc0⟩ | ⟨b, sp, hp, hb, hsz⟩
  ·have : zs.length = 0 := by omega
   exact absurd (List.length_eq_zero_iff.1 this) h0
  ·have hoff : (H.off s) b = none := Heap.off_fresh s H _ hp
   have had : s.ad = some ⟨b, 0, none⟩ := by unfold Sl.ad; rw [hp, hx]; rfl
   obtain ⟨dl, hdl⟩ := QkC zs hz
   have hdv : dl.toArray.toList.map (fun z : ZR (H.off s) => z.1) = zs := hdl
   have hdm : (dl.toArray.toList.map fun z : ZR (H.off s) => slv z.1.1) = zs.map fun z => slv z.1 := by
    rw [← hdv, List.map_map]; rfl
   have hds : dl.toArray.size = zs.length := by rw [← hdv]; simp
   generalize dl.toArray = d at *
   have hall := Any.slices_SortFunc Tryz.laysSrt (fun z : ZR (H.off s) => slv z.1.1) (fun z => rfl) ZR.cf (Ql1 _) 53 #[] b 0 s.cap d w (QdL QfW) (QkM hw (Heap.off_le s H) hoff) (Qj0 (sp := sp) hw (by rw [hdm]; exact hb)) (hw.lt hb) (by omega)
   have harg : (#[.slice (some ⟨b, 0, none⟩) d.size s.cap, .func (.func 53) #[] #[]] : Array Value) = [slv s, .func (.func 53) (List.toArray []) (List.toArray [])].toArray := by
    unfold slv; rw [had, hds, hlen]
   rw [← harg]
   refine hall.mono ?_
   rintro e w' ⟨rfl, d', n, os, hperm, hsort, rfl⟩
   obtain ⟨p1, _, p3⟩ := hperm
   have hP : d'.toList.Perm d.toList := by
    have e1 : d'.extract 0 d.size = d' := by rw [← p1]; simp
    have e2 : d.extract 0 d.size = d := by simp
    rw [e1, e2] at p3; exact p3
   have hwp : (d'.toList.map fun z : ZR (H.off s) => z.1).Perm zs := by
    have := hP.map (fun z : ZR (H.off s) => z.1)
    rw [hdv] at this; exact this
   have hst := St.sortW (enc := fun z : ZR (H.off s) => slv z.1.1) (n := n) (os := os) (d := d') hw hb (by rw [List.length_map, p1, hds])
   refine ⟨.tuple #[], _, rfl, hst, rfl, k (d'.toList.map fun z => z.1) _ hwp ?_ ⟨?_, ⟨?_, hx, hcap, .inr ⟨b, sp, hp, ?_, ?_⟩⟩, hfr⟩ ?_⟩
   ·rw [List.pairwise_map, List.pairwise_iff_getElem]
    intro i j hi hj hij
    have hj2 : j < d'.size := by simpa using hj
    have hi2 : i < d'.size := by omega
    have h1 := of_decide_eq_false (hsort i j (Nat.zero_le _) hij (by omega))
    have e1 : d'[i]! = d'[i] := by simp [hi2]
    have e2 : d'[j]! = d'[j] := by simp [hj2]
    rw [e1, e2] at h1
    unfold ZR.cf at h1
    have := Lin.row.anti d'[i].1.2 d'[j].1.2 trivial trivial
    simp only [Array.getElem_toList]
    omega
   ·intro c e hc
    have : c ≠ b := fun e' => by rw [e'] at hc; have := hfr _ hp; rw [this] at hc; cases hc
    rw [Heap.put_ne _ _ _ this]; exact hle _ _ hc
   ·rw [List.length_map, hwp.length_eq]; omega
   ·rw [Heap.put_same, List.map_map]; rfl
   ·rw [List.map_map] at *
    simp only [List.length_append, List.length_map, Array.length_toList] at hsz ⊢
    omega
   ·funext c
    unfold Heap.off
    split
    ·rfl
    ·rename_i hc
     have : c ≠ b := fun e => hc (by rw [hp, e]; rfl)
     rw [Heap.put_ne _ _ _ this]
end
section
open Go Go.Proofs
/-- rising rows -/
def Rise (T : List (List V)) : Prop := T.Pairwise fun a b => cmpR a b < 0
/-- rows told: rising, those of R, each in new memory -/
structure Told (H H2 : Heap) (R T : List (List V)) (s : Sl) (ys : List Sl) : Prop where
 og : Og H H2 T s ys
 len : ys.length = T.length
 rise : Rise T
 perm : T.Perm R
section
variable {C : Ctx} {A H H2 D : Heap} {m it : Nat} {R : List (List V)}
theorem OwnF.del {H0 H : Heap} {z : Nat} {s : Sl} {cs : List Value} {e : Bool × GO} (h : OwnF H0 H z s cs) (hi : H0 it = some e) : OwnF (H0.del it) (H.del it) z s cs := by
 obtain ⟨h1, ⟨h2, h3, h4, h5⟩, h6⟩ := h
 refine ⟨fun c e' hc => ?_, ⟨h2, h3, h4, ?_⟩, h6.le (Heap.del_le _ _)⟩
 ·by_cases hci : c = it
  ·rw [hci, Heap.del_same] at hc; cases hc
  ·rw [Heap.del_ne _ hci] at hc ⊢; exact h1 _ _ hc
 ·rcases h5 with h5 | ⟨b, sp, q1, q2, q3⟩
  ·exact .inl h5
  ·refine .inr ⟨b, sp, q1, ?_, q3⟩
   have : b ≠ it := fun e' => by have := h6 _ q1; rw [e', hi] at this; cases this
   rw [Heap.del_ne _ this]; exact q2
theorem QjR {s : Sl} : (H.del it).off s = (H.off s).del it := by
 funext c
 unfold Heap.off Heap.del
 by_cases h1 : c = it
 ·rw [if_pos h1, if_pos h1]; split <;> rfl
 ·rw [if_neg h1, if_neg h1]
theorem Qki {g : GO} {mu : Bool} : (H.put it g mu).del it = H.del it := by
 funext c
 by_cases h1 : c = it
 ·rw [h1, Heap.del_same, Heap.del_same]
 ·rw [Heap.del_ne _ h1, Heap.del_ne _ h1, Heap.put_ne _ _ _ h1]
theorem Made.del {r : List V} {t : Sl} {e : Bool × GO} (h : Made D H2 r t) (hi : D it = some e) : Made (D.del it) (H2.del it) r t := by
 have hn : ∀ c, D c = none → c ≠ it := fun c hc e' => by rw [e', hi] at hc; cases hc
 refine ⟨fun c e' hc => ?_, h.row.le fun c e' hc => ?_, ?_, h.cp⟩
 ·by_cases hci : c = it
  ·rw [hci, Heap.del_same] at hc; cases hc
  ·rw [Heap.del_ne _ hci] at hc ⊢; exact h.le _ _ hc
 ·obtain ⟨q1, q2⟩ := Heap.new_inv hc
  exact Heap.new_some (by rw [Heap.del_ne _ (hn c q1)]; exact q2) (by rw [Heap.del_ne _ (hn c q1)]; exact q1)
 ·obtain ⟨j, hj⟩ := h.sp
  exact ⟨j, hj.to fun c e' hc he => ⟨by rw [Heap.del_ne _ (hn c hc)]; exact hc, by rw [Heap.del_ne _ (hn c hc)]; exact he⟩⟩
theorem Og.more {B : Heap} {ls : List (List V)} {s : Sl} {ys : List Sl} {r : List V} (h : Og H B ls s ys) (hl : ys.length = ls.length) : Og H B (ls ++ [r]) s ys :=
 ⟨h.own, by simp; omega, fun j l y hj hy => h.done j l y (by
  have := (List.getElem?_eq_some_iff.1 hy).1
  rw [List.getElem?_append_left (by omega)] at hj; exact hj) hy⟩
theorem Qfz (hF : Fine R) (hn : R.Nodup) {ls : List (List V)} (hs : ∀ r ∈ ls, r ∈ R) (hp : (ls.map keyB).Perm (R.map keyB)) : ls.Perm R := by
 have h1 : (R.map keyB).Nodup := by
  rw [List.Nodup, List.pairwise_map]
  exact List.Pairwise.imp_of_mem (fun {a b} ha hb hab e => hab (hF.inj ha (hF b hb).1 (hF b hb).2 e)) hn
 have h2 : (ls.map keyB).Nodup := hp.symm.nodup h1
 have h3 : ls.Nodup := by
  rw [List.Nodup, List.pairwise_map] at h2
  exact h2.imp fun {a b} hab e => hab (by rw [e])
 refine (List.perm_ext_iff_of_nodup h3 hn).2 fun r => ⟨hs r, fun hr => ?_⟩
 have : keyB r ∈ ls.map keyB := hp.symm.subset (List.mem_map.2 ⟨r, hr, rfl⟩)
 obtain ⟨r', hr', e⟩ := List.mem_map.1 this
 rw [← hF.inj (hs r' hr') (hF r hr).1 (hF r hr).2 e]; exact hr'
theorem QkB : ∀ {ys : List Sl} {ls : List (List V)}, ys.length = ls.length → (ys.zip ls).map (fun z => z.1) = ys ∧ (ys.zip ls).map (fun z => z.2) = ls
 | [], [], _ => ⟨rfl, rfl⟩
 | y :: ys, l :: ls, h => by
  obtain ⟨h1, h2⟩ := QkB (ys := ys) (ls := ls) (by simpa using h)
  simp [h1, h2]
theorem Qmv {ys : List Sl} {ls : List (List V)} {z : Sl × List V} (h : z ∈ ys.zip ls) : ∃ j : Nat, ls[j]? = some z.2 ∧ ys[j]? = some z.1 := by
 obtain ⟨j, hj⟩ := List.mem_iff_getElem?.1 h
 rw [List.getElem?_zip_eq_some] at hj
 exact ⟨j, hj.2, hj.1⟩
theorem Qky {K : Sl → Heap → Prop} (h : RM A H m R) (hA : A.le H) (hF : Fine R) (hn : R.Nodup) (hz : ∀ r ∈ R, vsizes r ≤ 1000000) (hlen : R.length ≤ 1000000)
 (k : ∀ T s ys H2, Told H H2 R T s ys → K s H2) : Qaf C (some m) K H := by
 apply QeH
 unfold Qdi
 obtain ⟨l, h1, h2, h3⟩ := h
 have hll : l.length = R.length := by
  have := (RM.perm ⟨l, h1, h2, h3⟩ hn hF h1 h2 h3).length_eq
  rwa [List.length_map, List.length_map] at this
 obtain ⟨gm, hgm⟩ := RM.isS (A := A) (R := R) ⟨l, h1, h2, h3⟩
 refine .inr ⟨m, l, rfl, h1, fun it ob hit hI => ?_⟩
 refine ⟨fun s D => ∃ vs ls ys, It slv D it m l vs ∧ Og H (D.del it) ls s ys ∧ ys.length = ls.length ∧ ls.map keyB = vs.map (fun p => p.1) ∧ ∀ r ∈ ls, r ∈ R, fun _ D => l.length - itN D it, ⟨[], [], [], hI, ?_, rfl, rfl, fun r hr => by cases hr⟩, ?_⟩
 ·rw [Qki]
  have : H.del it = H := by
   funext c
   by_cases hc : c = it
   ·rw [hc, Heap.del_same, hit]
   ·rw [Heap.del_ne _ hc]
  rw [this]; exact Og.nil
 ·rintro s D ⟨vs, ls, ys, hIt, hO, hyl, hk, hR⟩
  have hlsl : ls.length = vs.length := by have := congrArg List.length hk; simpa using this
  refine .inr ⟨m, l, vs, hIt, fun hall => ?_, fun p hp hnv ob2 hI2 => ?_⟩
  ·refine Qd rfl ?_
   have hperm : ls.Perm R := by
    refine Qfz hF hn hR ?_
    rw [hk]
    refine List.Perm.trans ?_ (RM.perm ⟨l, h1, h2, h3⟩ hn hF h1 h2 h3)
    refine (List.perm_ext_iff_of_nodup ?_ ?_).2 fun q => ?_
    ·rw [List.Nodup, List.pairwise_map]; exact hIt.nd
    ·rw [List.Nodup, List.pairwise_map]; exact h1.is.nd
    ·constructor
     ·intro hq
      obtain ⟨p, hp, e⟩ := List.mem_map.1 hq
      exact List.mem_map.2 ⟨p, hIt.sub p hp, e⟩
     ·intro hq
      obtain ⟨p, hp, e⟩ := List.mem_map.1 hq
      exact List.mem_map.2 ⟨p, hall p hp, e⟩
   obtain ⟨z1, z2⟩ := QkB hyl
   have hdone : ∀ z ∈ ys.zip ls, Made H ((D.del it).off s) z.2 z.1 := fun z hz => by
    obtain ⟨j, a, b⟩ := Qmv hz
    exact hO.done j _ _ a b
   have hoffle : ((D.del it).off s).le (D.off s) := by rw [QjR]; exact Heap.del_le _ _
   refine Qjo (H0 := H) (zs := ys.zip ls) ?_ (fun z hz => ?_) ?_ fun ws H3 hw hs hown hoff => ?_
   ·rw [show (ys.zip ls).map (fun z => slv z.1) = ((ys.zip ls).map (fun z => z.1)).map slv by rw [List.map_map]; rfl, z1]
    exact hO.own.up (Heap.del_le _ _)
   ·have hr : z.2 ∈ R := hR _ (by rw [← z2]; exact List.mem_map.2 ⟨z, hz, rfl⟩)
    have hf := (hF _ hr).1
    refine ⟨(hdone z hz).row2.le hoffle, hf.1, by have := hf.2.1; omega⟩
   ·rw [List.length_zip, hyl, Nat.min_self, hperm.length_eq]; omega
   ·have hTp : (ws.map fun z => z.2).Perm R := by
     refine List.Perm.trans ?_ hperm
     have := hw.map fun z : Sl × List V => z.2
     rw [z2] at this; exact this
    have hTn : (ws.map fun z => z.2).Nodup := hTp.symm.nodup hn
    refine k (ws.map fun z => z.2) s (ws.map fun z => z.1) H3 ⟨⟨?_, by simp, fun j l' y hj hy => ?_⟩, by simp, ?_, hTp⟩
    ·rw [List.map_map]; exact hown
    ·rw [List.getElem?_map] at hj hy
     cases hwj : ws[j]? with
     | none => rw [hwj] at hj; cases hj
     | some z =>
      rw [hwj] at hj hy
      simp only [Option.map_some, Option.some.injEq] at hj hy
      subst hj; subst hy
      rw [hoff]
      exact (hdone z (hw.subset (List.mem_of_getElem? hwj))).up hoffle
    ·have hs2 : (ws.map fun z => z.2).Pairwise fun a b => cmpR a b ≤ 0 := by rw [List.pairwise_map]; exact hs
     refine List.Pairwise.imp_of_mem (fun {a b} ha hb hab => ?_) (hs2.and hTn)
     have ra := (hF _ (hTp.subset ha)).2
     have rb := (hF _ (hTp.subset hb)).2
     have hne : cmpR a b ≠ 0 := fun e => hab.2 ((QjN ra rb).1 e)
     have := hab.1
     omega
  ·refine QU rfl ⟨p.1, p.2, ⟨m, l, vs, hI2⟩, ?_⟩
   obtain ⟨r, hr, hpk, hv⟩ := h2 p hp
   obtain ⟨⟨ob3, a1⟩, ob4, a2⟩ := hI2.at_
   have hAit : A it = none := hA.none hit
   have hHD : H.le (D.del it) := hO.own.le
   have hDel : ((D.put it (.obj ob2)).del it) = D.del it := Qki
   have hle : (D.del it).le (D.put it (.obj ob2)) := by rw [← hDel]; exact Heap.del_le _ _
   refine Qjg hv ((hA.trans hHD).trans hle) (hz r hr) fun t2 H3 hM => ?_
   have hM2 := hM.del a1
   rw [hDel] at hM2
   have hOwn3 : Own H3 1 s (ys.map slv) := (hO.own.own.le hle).le hM.le
   have hsit : ∀ q, s.p = some q → q.1 ≠ it := fun q hq e => by
    obtain ⟨g, hg⟩ := hO.own.own.mine hq
    rw [e, Heap.del_same] at hg; cases hg
   have hsm : ∀ q, s.p = some q → q.1 ≠ m := fun q hq e => by
    have := hO.own.fresh q hq
    rw [e, hgm] at this; cases this
   have hit3 : (H3.off s) it = some (true, .obj ob3) := Heap.off_some (hM.le _ _ a1) hsit
   have hm3 : (H3.off s) m = some (true, .obj ob4) := Heap.off_some (hM.le _ _ a2) hsm
   have hsl : s.len = ys.length := by have := hOwn3.1; simpa using this.symm
   have hfew := hIt.few
   refine QcY (zc := [slv Sl.nil]) hOwn3.off rfl (by omega) (by omega) fun r2 H4 q1 q2 => ?_
   have e1 := hI2.cnt
   have e2 := hI2.few
   have e3 := hIt.cnt
   have hI4 : It slv H4 it m l (vs ++ [p]) := hI2.same ((q1.le _ _ hit3).trans a1.symm) ((q1.le _ _ hm3).trans a2.symm)
   have e4 := hI4.cnt
   simp only [List.length_append, List.length_singleton] at e1 e2 e4
   refine ⟨⟨vs ++ [p], ls ++ [r], ys ++ [t2], hI4, ?_, by simp [hyl], by rw [List.map_append, List.map_append, hk]; simp [hpk], fun r' hr' => ?_⟩, by dsimp only; omega⟩
   ·have hq : OwnF ((H3.del it).off s) (H4.del it) 1 r2 (ys.map slv ++ [slv t2]) := by rw [QjR]; exact q1.del hit3
    have hi : ys.length < (ls ++ [r]).length := by simp; omega
    refine Og.step (hO.more hyl) hi ?_ hq
    have : (ls ++ [r])[ys.length] = r := by
     rw [List.getElem_append_right (by omega)]; simp
    rw [this]; exact hM2
   ·rcases List.mem_append.1 hr' with hr' | hr'
    ·exact hR r' hr'
    ·rw [List.mem_singleton] at hr'; rw [hr']; exact hr
theorem Told.nil : Told H H [] [] Sl.nil [] := ⟨Og.nil, rfl, .nil, List.Perm.refl _⟩
theorem Qkx {K : Sl → Heap → Prop} (k : ∀ T s ys H2, Told H H2 [] T s ys → K s H2) : Qaf C none K H := by
 apply QeH
 unfold Qdi
 refine .inl ⟨rfl, fun it hit => ?_⟩
 refine ⟨fun s D => s = Sl.nil ∧ D = H.put it (.obj (.mapIter none 0 #[] 0)), fun _ _ => 0, ⟨rfl, rfl⟩, ?_⟩
 rintro _ D ⟨rfl, rfl⟩
 refine .inl ⟨Heap.put_same .., Qd rfl ?_⟩
 refine Qjo (H0 := H) (zs := []) ⟨Heap.le_put hit, Own.nil _ 1, Fresh.nil _⟩ (fun z hz => by cases hz) (by simp) fun ws H3 hw hs hown hoff => ?_
 have : ws = [] := List.Perm.eq_nil hw
 subst this
 exact k [] Sl.nil [] H3 ⟨⟨hown, Nat.le_refl _, fun j l y hj => by simp at hj⟩, rfl, .nil, List.Perm.refl _⟩
end
end
section
open Go Go.Proofs
def bk (x : Str) : Str := 32 :: x
def jS : List Str → Str
 | [] => []
 | a :: l => a ++ l.flatMap bk
theorem QlR : ∀ ps : List Int, nmOf ps = jS (ps.map Lib.itoa)
 | [] => rfl
 | p :: ps => by simp only [nmOf, List.map_cons, jS, List.flatMap_map]; rfl
def cS (x : Str) : List Value := [sv x]
def SL (A : Heap) := SlIs (fun v x : Str => x = v) cS A
theorem SL.tail {A : Heap} {s : Sl} {a : Str} {l : List Str} {K : Sl → Prop} (h : SL A s (a :: l)) (hc : s.len ≤ s.cap) (hl : l ≠ []) (k : ∀ t, SL A t l → K t) : slL s 1 (s.len : Int) (s.cap : Int) 1 K := by
 have hlen := SlIs.len h
 have hl0 : 0 < l.length := List.length_pos_iff.2 hl
 simp only [List.length_cons] at hlen
 refine ⟨by omega, by omega, by omega, Int.le_refl _, _, rfl, k _ ?_⟩
 obtain ⟨xs, h1, h2, h3, h4, h5⟩ := h
 cases xs with
 | nil => simp at h3
 | cons x xs =>
  rcases h1 with h1 | ⟨hx, p, hp, hr⟩
  ·simp [cS] at h1
  ·have hne : ¬ ((s.cap : Int) = 1) := by omega
   refine ⟨xs, .inr ⟨?_, (p.1, p.2 + 1), ?_, ?_⟩, ?_, ?_, ?_, ?_⟩
   ·simp only; rw [if_neg (by simp; omega)]
   ·simp only; rw [if_neg hne, hp]; rfl
   ·rw [List.flatMap_cons] at hr
    exact hr.2
   ·simp only [List.length_cons] at h2 ⊢; omega
   ·simpa using h3
   ·simp only [List.length_cons] at h4 ⊢; omega
   ·intro i v y hv hy
    exact h5 (i + 1) v y (by simpa using hv) (by simpa using hy)
theorem Ql3 {m : Int} (h1 : 1 ≤ m) (h2 : m ≤ 1000000) : 2 ≤ Int.tdiv 9223372036854775807 m ∧ Int.tdiv 9223372036854775807 m ≤ 9223372036854775807 := by
 rw [Int.tdiv_eq_ediv_of_nonneg (by omega)]
 refine ⟨Int.le_ediv_of_mul_le (by omega) (by omega), Int.ediv_le_self _ (by omega)⟩
theorem Qkw {l : List Str} {i : Nat} (h : i < l.length) (f : Str → Str) : (l.take (i + 1)).flatMap f = (l.take i).flatMap f ++ f l[i] := by
 rw [List.take_add_one, List.getElem?_eq_getElem h, Option.toList_some, List.flatMap_append, List.flatMap_singleton]
theorem QkP {l : List Str} {z : Nat} {f : Str → Str} (h : ∀ x ∈ l, (f x).length ≤ z) : (l.flatMap f).length ≤ l.length * z := by
 induction l with
 | nil => simp
 | cons a l ih =>
  have h1 := h a (List.mem_cons_self ..)
  have h2 := ih fun x hx => h x (List.mem_cons_of_mem _ hx)
  rw [List.flatMap_cons, List.length_append, List.length_cons, Nat.add_mul]; omega
theorem QlK {C : Ctx} {A H : Heap} {s : Sl} {ns : List Str} {K : Str → Heap → Prop} (h : SL A s ns) (hA : A.le H) (hc : s.len ≤ s.cap) (hn : ns.length ≤ 10000) (hz : ∀ x ∈ ns, x.length ≤ 100) (k : ∀ H2, H.le H2 → K (jS ns) H2) : Qct C s [32] K H := by
 apply Qga
 unfold QdT
 have hlen := SlIs.len h
 refine ift.of (fun h0 => ?_) fun h0 => ift.of (fun h1 => ?_) fun h1 => ?_
 ·have : ns = [] := List.length_eq_zero_iff.1 (by simp at h0; omega)
  subst this; exact k H (Heap.le.refl _)
 ·have hl : ns.length = 1 := by simp at h1; omega
  match ns, hl with
  | [a], _ =>
   refine SlIs.fS h hA (i := 0) (j := 0) (z := 1) (fun _ => rfl) (by omega) rfl (by simp) (f := fun y => y) (fun y => rfl) fun y hy => ?_
   subst hy
   have := k H (Heap.le.refl _)
   simpa [jS] using this
 ·have hl2 : 2 ≤ ns.length := by
   have a1 : ns.length ≠ 0 := fun e => by rw [hlen, e] at h0; simp at h0
   have a2 : ns.length ≠ 1 := fun e => by rw [hlen, e] at h1; simp at h1
   omega
  have hsl : s.len = ns.length := hlen
  obtain ⟨a, l, rfl⟩ : ∃ a l, ns = a :: l := by cases ns with
   | nil => simp at hl2
   | cons a l => exact ⟨a, l, rfl⟩
  have hlne : l ≠ [] := fun e => by subst e; simp at hl2
  simp only [List.length_cons] at hsl hn hl2
  refine ⟨fun x B => x = ((l.length : Nat) : Int) ∧ B = H, ?_, ?_⟩
  ·have e1 : w .i64 ((s.len : Int) - 1) = (l.length : Int) := by rw [Qu (by omega) (by omega)]; omega
   rw [e1]
   refine QU (by simp) ⟨by omega, ?_⟩
   obtain ⟨t1, t2⟩ := Ql3 (m := (l.length : Int)) (by omega) (by omega)
   rw [Qu (by omega) (by omega)]
   refine Qd (decide_eq_false (by simp; omega)) ⟨?_, rfl⟩
   have e2 : w .i64 ((([32] : Str).length : Int) * (l.length : Int)) = (l.length : Int) := by
    rw [Qu (by simp) (by simp; omega)]; simp
   rw [e2, Qu (by omega) (by omega)]; omega
  ·rintro x0 B0 ⟨rfl, e0⟩
   have e0 := e0.symm
   subst e0
   refine ⟨fun y B => B = H ∧ ∃ i m : Nat, y.2 = (i : Int) ∧ i ≤ l.length + 1 ∧ y.1 = (m : Int) ∧ m ≤ l.length + i * 100, fun y _ => l.length + 1 - y.2.toNat, ⟨rfl, 0, l.length, rfl, by omega, rfl, by omega⟩, ?_⟩
   rintro ⟨y1, y2⟩ B0 ⟨e0, i, m, rfl, hi, rfl, hm⟩
   have e0 := e0.symm
   subst e0
   refine ift.of (fun hlt => ?_) fun hlt => ?_
   ·have hil : i < l.length + 1 := by have := of_decide_eq_true hlt; dsimp only at this; omega
    refine SlIs.fS h hA (i := i) (j := 0) (z := 1) (fun _ => rfl) (by omega) rfl (by simpa using hil) (f := fun y => y) (fun y => rfl) fun y hy => ?_
    have hyz : y.length ≤ 100 := by rw [hy]; exact hz _ (List.getElem_mem _)
    refine Qd (decide_eq_false ?_) ⟨⟨rfl, i + 1, m + y.length, ?_, by omega, ?_, by omega⟩, ?_⟩
    ·dsimp only
     rw [Qu (by omega) (by omega)]; omega
    ·dsimp only; rw [Qu (by omega) (by omega)]; omega
    ·dsimp only; rw [Qu (by omega) (by omega)]; omega
    ·dsimp only; rw [Qu (by omega) (by omega)]; omega
   ·intro b nb
    have lb := Heap.le_put nb (g := .trow 84 0 [pv none, slv Sl.nil]) (m := true)
    refine QkD (Heap.put_same ..) (by omega) ?_
    have hbase : H.le ((H.put b (.trow 84 0 [pv none, slv Sl.nil])).put b (Bd [])) := lb.put _ _ nb
    have hib : IsB tyB tyE ((H.put b (.trow 84 0 [pv none, slv Sl.nil])).put b (Bd [])) b [] := IsB.put
    generalize (H.put b (.trow 84 0 [pv none, slv Sl.nil])).put b (Bd []) = E at *
    refine SlIs.fS h (hA.trans hbase) (i := 0) (j := 0) (z := 1) (fun _ => rfl) (by omega) rfl (by simp) (f := fun y => y) (fun y => rfl) fun y hy => ?_
    have hya : y = a := hy
    subst hya
    have hy100 : y.length ≤ 100 := hz _ (List.mem_cons_self ..)
    refine Qcl hib (by simp; omega) ?_
    refine SL.tail h hc hlne fun t ht => ?_
    have hE1 : H.le (E.put b (Bd ([] ++ y))) := hbase.put _ _ nb
    have hI1 : IsB tyB tyE (E.put b (Bd ([] ++ y))) b y := IsB.put
    have hfl : ∀ j, ((l.take j).flatMap bk).length ≤ 1010000 := fun j => by
     have h1 := QkP (l := l.take j) (f := bk) (z := 101) fun x hx => by
      have := hz x (List.mem_cons_of_mem _ (List.mem_of_mem_take hx))
      simp only [bk, List.length_cons]; omega
     have h2 : (l.take j).length ≤ 10000 := by rw [List.length_take]; omega
     have := Nat.mul_le_mul_right 101 h2
     omega
    refine ⟨fun x B => ∃ j : Nat, x = (j : Int) ∧ j ≤ l.length ∧ H.le B ∧ IsB tyB tyE B b (y ++ (l.take j).flatMap bk), fun x _ => l.length - x.toNat, ⟨0, rfl, Nat.zero_le _, hE1, by simpa using hI1⟩, ?_⟩
    rintro _ B ⟨j, rfl, hj, hB, hI⟩
    have htl := SlIs.len ht
    have hf := hfl j
    refine ift.of (fun hlt => ?_) fun hlt => ?_
    ·have hjl : j < l.length := by have := of_decide_eq_true hlt; omega
     refine SlIs.fS ht (hA.trans hB) (i := j) (j := 0) (z := 1) (fun _ => rfl) (by omega) rfl hjl (f := fun y => y) (fun y => rfl) fun q hq => ?_
     have hq100 : q.length ≤ 100 := by rw [hq]; exact hz _ (List.mem_cons_of_mem _ (List.getElem_mem _))
     refine Qcl hI (by simp only [List.length_append, List.length_cons, List.length_nil]; omega) ?_
     refine Qcl IsB.put (by simp only [List.length_append, List.length_cons, List.length_nil]; omega) ?_
     refine ⟨⟨j + 1, ?_, by omega, (hB.put _ _ nb).put _ _ nb, ?_⟩, ?_⟩
     ·rw [Qu (by omega) (by omega)]; omega
     ·rw [Qkw hjl, ← hq]
      have : (y ++ (List.take j l).flatMap bk ++ [32] ++ q) = y ++ ((List.take j l).flatMap bk ++ bk q) := by simp [bk]
      rw [← this]; exact IsB.put
     ·dsimp only; rw [Qu (by omega) (by omega)]; omega
    ·have hje : j = l.length := by have := of_decide_eq_false hlt; omega
     subst hje
     rw [List.take_length] at hI hf
     refine QjE hI (by simp only [List.length_append]; omega) (k _ (hB.put _ _ nb))
end
section
open Go Go.Proofs
theorem split32 : ∀ {a b x y : Str}, (∀ c ∈ a, c ≠ 32) → (∀ c ∈ b, c ≠ 32) → (∀ c, x.head? = some c → c = 32) → (∀ c, y.head? = some c → c = 32) → a ++ x = b ++ y → a = b ∧ x = y
 | [], [], x, y, _, _, _, _, h => ⟨rfl, h⟩
 | [], d :: b, x, y, _, hb, hx, _, h => absurd (hx d (by rw [List.nil_append] at h; rw [h]; rfl)) (hb d (List.mem_cons_self ..))
 | c :: a, [], x, y, ha, _, _, hy, h => absurd (hy c (by rw [List.nil_append] at h; rw [← h]; rfl)) (ha c (List.mem_cons_self ..))
 | c :: a, d :: b, x, y, ha, hb, hx, hy, h => by
  simp only [List.cons_append, List.cons.injEq] at h
  obtain ⟨h1, h2⟩ := split32 (fun q hq => ha q (List.mem_cons_of_mem _ hq)) (fun q hq => hb q (List.mem_cons_of_mem _ hq)) hx hy h.2
  exact ⟨by rw [h.1, h1], h2⟩
theorem QhL {n : Int} {c : UInt8} (h : c ∈ Lib.itoa n) : c ≠ 32 := fun e => by
 subst e
 rcases QkS h with h | h
 ·exact absurd h (by decide)
 ·exact absurd h (by decide)
def nmT (l : List Int) : Str := l.flatMap fun q => 32 :: Lib.itoa q
theorem QfZ (l : List Int) (c : UInt8) (h : (nmT l).head? = some c) : c = 32 := by
 cases l with
 | nil => cases h
 | cons a l => simp only [nmT, List.flatMap_cons, List.cons_append, List.head?_cons, Option.some.injEq] at h; exact h.symm
theorem Qj9 : ∀ {l m : List Int}, nmT l = nmT m → l = m
 | [], [], _ => rfl
 | [], b :: m, h => by simp [nmT] at h
 | a :: l, [], h => by simp [nmT] at h
 | a :: l, b :: m, h => by
  have e : ∀ (a : Int) (l : List Int), nmT (a :: l) = 32 :: (Lib.itoa a ++ nmT l) := fun a l => by simp [nmT]
  rw [e, e] at h
  injection h with _ h
  obtain ⟨h1, h2⟩ := split32 (fun c hc => QhL hc) (fun c hc => QhL hc) (QfZ l) (QfZ m) h
  rw [Qja h1, Qj9 h2]
theorem QkW {l m : List Int} (h : nmOf l = nmOf m) : l = m := by
 have e : ∀ (a : Int) (l : List Int), nmOf (a :: l) = Lib.itoa a ++ nmT l := fun a l => rfl
 cases l with
 | nil => cases m with
  | nil => rfl
  | cons b m =>
   rw [e] at h
   have := congrArg List.length h
   have h2 := List.length_pos_iff.2 (Qj3 b)
   rw [List.length_append] at this
   change 0 = _ at this
   omega
 | cons a l => cases m with
  | nil =>
   rw [e] at h
   have := congrArg List.length h
   simp [nmOf] at this; exact absurd this.1 (Qj3 a)
  | cons b m =>
   rw [e, e] at h
   obtain ⟨h1, h2⟩ := split32 (fun c hc => QhL hc) (fun c hc => QhL hc) (QfZ l) (QfZ m) h
   rw [Qja h1, Qj9 h2]
section
variable {C : Ctx} {A H H2 : Heap}
theorem OwnF.new {z : Nat} {s : Sl} {cs : List Value} (h : OwnF H H2 z s cs) : Own (Heap.new H H2) z s cs := by
 obtain ⟨h1, ⟨q1, q2, q3, q4⟩, h3⟩ := h
 refine ⟨q1, q2, q3, ?_⟩
 rcases q4 with q4 | ⟨b, sp, r1, r2, r3⟩
 ·exact .inl q4
 ·exact .inr ⟨b, sp, r1, Heap.new_some r2 (h3 _ r1), r3⟩
theorem QlC {H0 H : Heap} {zc : List Value} {bytes : Nat} {s t : Sl} {cs ys : List Value} {K : Sl → Heap → Prop} (h : OwnF H0 H zc.length s cs) (ht : rdsl H t ys) (hy : ys.length = t.len * zc.length) (h1 : ∀ u ∈ ys, u.oneCell' = true)
 (hb : (s.len + t.len) * bytes ≤ 140737488355328) (h63 : s.len + t.len ≤ 9223372036854775807) (k : ∀ r H2, OwnF H0 H2 zc.length r (cs ++ ys) → r.len = s.len + t.len → K r H2) : apS zc bytes s t K H :=
 ⟨ys, ht, h1, QcY h hy hb h63 k⟩
theorem QjL {t : Sl} {ps : List Int} {K : Sl → Heap → Prop} (h : IL A t ps) (hA : A.le H) (hn : ps.length ≤ 10000) (k : ∀ t2 H2, H.le H2 → IL (Heap.new H H2) t2 ps → K t2 H2) : QX C t K H := by
 apply QcU
 unfold Qbb
 have hlen := SlIs.len h
 obtain ⟨xs, h1, h2, h3, h4, h5⟩ := h
 have hfl : (xs.flatMap cI).length = xs.length := by
  have : ∀ l : List Int, (l.flatMap cI).length = l.length := fun l => by induction l with
   | nil => rfl
   | cons a l ih => rw [List.flatMap_cons, List.length_append, ih]; simp [cI]; omega
  exact this xs
 refine ift.of (fun hnil => ?_) fun hnil => ?_
 ·have hps : ps = [] := by
   rcases h1 with h1 | ⟨hx, p, hp, _⟩
   ·have : xs.length = 0 := by rw [← hfl, h1]; rfl
    exact List.length_eq_zero_iff.1 (by omega)
   ·unfold Sl.isNil at hnil; rw [hp] at hnil; cases hnil
  subst hps
  exact k Sl.nil H (Heap.le.refl _) ⟨[], .inl rfl, rfl, rfl, Nat.zero_le _, fun i v y hv => by simp at hv⟩
 ·intro b nb
  have lb := Heap.le_put nb (g := .row []) (m := true)
  refine QlC (H0 := H) (zc := [.int .i64 0]) (cs := []) (ys := xs.flatMap cI) ⟨lb, ⟨by simp, rfl, Nat.le_refl _, .inr ⟨b, [], rfl, Heap.put_same .., by simp⟩⟩, fun q hq => (by simp only [Option.some.injEq] at hq; subst hq; exact nb)⟩ (Qba (hA.trans lb) h1) (by rw [hfl]; simp; omega) (fun u hu => ?_) (by dsimp only; omega) (by dsimp only; omega) fun r H2 q1 q2 => ?_
  ·obtain ⟨x, _, hx⟩ := List.mem_flatMap.1 hu
   simp only [cI, List.mem_singleton] at hx
   subst hx; rfl
  ·refine k r H2 q1.le ⟨xs, by simpa using q1.new.rdsl, by rw [q2]; dsimp only; omega, h3, h4, h5⟩
end
end
section
open Go Go.Proofs
section
variable {C : Ctx} {o o2 : Own_} {A B H H2 : Heap} {n : Str} {x m g b q : Nat} {L : List (Str × Option (Nat × Nat))} {LQ : List (Str × Option Nat)} {R : List (List V)} {Rb : Str → List (List V)} {ps : List Int}
theorem IxP.own (h : IxP o A H x m g L R Rb) (hO : OH o2 A H) (hup : ∀ c w, o c = some w → o2 c = some w) : IxP o2 A H x m g L R Rb := by
 refine ⟨hO, h.hx, hup _ _ h.om, hup _ _ h.og, h.rm, h.mg, fun p hp => ?_⟩
 obtain ⟨b, ps, q1, q2, q3, q4⟩ := h.bs p hp
 exact ⟨b, ps, q1, q2, q3, q4.keep fun c w hc _ => ⟨hup c w hc, rfl⟩⟩
theorem IxP.chgN (h : IxP o A H x m g L R Rb) (hc : Chg (fun w => w.of = some n) o H o2 H2) (hn : ∀ p ∈ L, p.1 ≠ n) : IxP o2 A H2 x m g L R Rb := by
 have hkp : ∀ c w e, o c = some w → w.of ≠ some n → H c = some e → H2 c = some e := fun c w e hw hne he => hc.kp c e he fun w' hw' => by rw [hw] at hw'; injection hw' with hw'; subst hw'; exact hne
 obtain ⟨g1, hg1⟩ := h.rm.isS
 obtain ⟨es, ck, hm⟩ := h.mg
 refine ⟨h.oh.chg hc, h.hx, hc.up _ _ h.om, hc.up _ _ h.og, h.rm.same ?_, MapS.same (l := L) ⟨es, ck, hm⟩ ?_, fun p hp => ?_⟩
 ·rw [hg1]; exact hkp _ _ _ h.om (by intro e; cases e) hg1
 ·rw [hm.at_]; exact hkp _ _ _ h.og (by intro e; cases e) hm.at_
 ·obtain ⟨b, ps, q1, q2, q3, q4⟩ := h.bs p hp
  exact ⟨b, ps, q1, q2, q3, hc.by_ q4 fun w hw e => hn p hp (by rw [hw] at e; injection e with e; exact e.symm)⟩
/-- all rows put to new places -/
theorem Qmn {K : Heap → Prop} {t : Nat} (h : IxP o A H x m g L R (cR R)) (hB : By o A H n ps b []) (hps : PsOk ps) (hF : Fine R) (hn : R.Nodup) (hnm : ∀ p ∈ L, p.1 ≠ n)
 (k : ∀ o2 D, Chg (fun w => w.of = some n) o H o2 D → IxP o2 A D x m g L R (cR R) → By o2 A D n ps b R → K D) :
 rgM slv (some m) (fun b46 H47 => lp (α := Unit) () H47 fun x48 J49 H50 => nxB (enc := slv) b46 (fun b51 H52 => ift b51 (enM slv b46 (fun k54 x55 => Q9 C (some (b, 0)) k54 x55 (fun H57 => J49 () H57) H52) H52) (K H52)) H50) H := by
 obtain ⟨l, h1, h2, h3⟩ := h.rm
 refine .inr ⟨m, l, rfl, h1, fun it ob hit hI => ?_⟩
 have hle := Heap.le_put hit (g := .obj ob) (m := true)
 have hAit : A it = none := h.oh.le.none hit
 refine ⟨fun _ D => ∃ o2 vs ls, Chg (fun w => w.of = some n) o H o2 D ∧ It slv D it m l vs ∧ (∀ w, o2 it = some w → False) ∧ OH o2 A D ∧ By o2 A D n ps b ls ∧ ls.map keyB = vs.map (fun p => p.1) ∧ (∀ r ∈ ls, r ∈ R), fun _ D => l.length - itN D it, ⟨o, [], [], Chg.of_le hle, hI, h.oh.no hit, h.oh.up hle, hB.keep fun c w hc _ => ⟨hc, (h.oh.eq (P := fun _ => True) hle hc)⟩, rfl, fun r hr => by cases hr⟩, ?_⟩
 rintro _ D ⟨o2, vs, ls, hc, hIt, hio, hO, hBy, hk, hR⟩
 refine .inr ⟨m, l, vs, hIt, fun hall => ?_, fun p hp hnv ob2 hI2 => ?_⟩
 ·have hperm : ls.Perm R := by
   refine Qfz hF hn hR ?_
   rw [hk]
   refine List.Perm.trans ?_ (RM.perm ⟨l, h1, h2, h3⟩ hn hF h1 h2 h3)
   refine (List.perm_ext_iff_of_nodup ?_ ?_).2 fun q => ?_
   ·rw [List.Nodup, List.pairwise_map]; exact hIt.nd
   ·rw [List.Nodup, List.pairwise_map]; exact h1.is.nd
   ·constructor
    ·intro hq
     obtain ⟨p, hp, e⟩ := List.mem_map.1 hq
     exact List.mem_map.2 ⟨p, hIt.sub p hp, e⟩
    ·intro hq
     obtain ⟨p, hp, e⟩ := List.mem_map.1 hq
     exact List.mem_map.2 ⟨p, hall p hp, e⟩
  exact Qd rfl (k o2 D hc (h.chgN hc hnm) (hBy.congr fun r => hperm.mem_iff))
 ·obtain ⟨r, hr, hpk, hv⟩ := h2 p hp
  refine QU rfl ⟨p.1, p.2, ⟨m, l, vs, hI2⟩, ?_⟩
  have hc2 := hc.tmp (g := .obj ob2) (m := true) hit hio
  have hne : ∀ c w, o2 c = some w → c ≠ it := fun c w hw e => hio w (by rw [← e]; exact hw)
  have hO2 : OH o2 A (D.put it (.obj ob2)) := ⟨fun c e hc3 => by
   have : c ≠ it := fun e' => by rw [e', hAit] at hc3; cases hc3
   rw [Heap.put_ne _ _ _ this]; exact hO.le c e hc3, hO.ap, fun c w hw => by rw [Heap.put_ne _ _ _ (hne c w hw)]; exact hO.oh c w hw⟩
  rw [hpk]
  refine Qif (hBy.keep fun c w hc _ => ⟨hc, Heap.put_ne _ _ _ (hne c w hc)⟩) hO2 hv (hF r hr).1 hps.1 fun o3 D2 c3 b3 => ?_
  obtain ⟨⟨_, a1⟩, _, a2⟩ := hI2.at_
  have hom : o2 m = some .rows := hc.up _ _ h.om
  have k1 := c3.kp it _ a1 fun w hw => (hio w hw).elim
  have k2 := c3.kp m _ a2 fun w hw hq => by rw [hom] at hw; injection hw with hw; subst hw; cases hq
  have hI3 := hI2.same (k1.trans a1.symm) (k2.trans a2.symm)
  refine ⟨⟨o3, vs ++ [p], ls ++ [r], hc2.trans c3, hI3, fun w hw => ?_, hO2.chg c3, b3, by rw [List.map_append, List.map_append, hk]; simp [hpk], fun r' hr' => ?_⟩, ?_⟩
  ·rcases c3.dn _ _ hw with h1 | ⟨h1, _⟩
   ·exact hio w h1
   ·rw [Heap.put_same] at h1; cases h1
  ·rcases List.mem_append.1 hr' with hr' | hr'
   ·exact hR r' hr'
   ·rw [List.mem_singleton] at hr'; rw [hr']; exact hr
  ·have e1 := hI3.cnt
   have e2 := hI3.few
   have e3 := hIt.cnt
   simp only [List.length_append, List.length_singleton] at e1 e2
   dsimp only
   omega
/-- the rows at some places with these values -/
def sel (R : List (List V)) (ps : List Int) (k : Str) : List (List V) := R.filter fun r => decide (keyAt ps r = some k)
theorem Fine.filter {f : List V → Bool} (h : Fine R) : Fine (R.filter f) := fun r hr => h r ((List.mem_filter.1 hr).1)
theorem QjZ : ∀ l : List Int, (l.map Lib.itoa).flatMap cS = l.map fun p => sv (Lib.itoa p)
 | [] => rfl
 | a :: l => by rw [List.map_cons, List.flatMap_cons, QjZ l]; rfl
/-- the names of places, as they are told -/
theorem QkV (hFm : FmtC C) {s : Sl} {K : Sl × Int → Heap → Prop} (hp : IL B s ps) (hB : B.le H) (hps : PsOk ps) (k : ∀ y H2, H.le H2 → SL H2 y.1 (ps.map Lib.itoa) → y.1.len ≤ y.1.cap → K y H2) :
 lp (α := Sl × Int) (Sl.nil, 0) H (fun x7 J8 H9 => ift (decide ((x7.2 : Int) < (Sl.len s : Int))) (ixa s x7.2 fun p11 => ldI H9 .i64 (p11.1, p11.2 + (x7.2 : Int).toNat * 1) fun x16 => Qaq C x16 (fun r18 H19 => apd ([sv []]) 16 x7.1 ([sv r18]) 1 (fun r20 H21 => J8 (r20, (w .i64 (x7.2 + 1))) H21) H19) H9) (K x7 H9)) := by
 have hlen := SlIs.len hp
 have hn := hps.1
 refine ⟨fun y D => ∃ i : Nat, y.2 = (i : Int) ∧ i ≤ ps.length ∧ OwnF H D 1 y.1 ((ps.take i).map fun p => sv (Lib.itoa p)), fun y _ => ps.length - y.2.toNat, ⟨0, rfl, Nat.zero_le _, OwnF.nil H 1⟩, ?_⟩
 rintro ⟨s1, _⟩ D ⟨i, rfl, hi, ho⟩
 have hsl : s1.len = i := by have := ho.len; simp only [List.length_map, List.length_take] at this; omega
 refine ift.of (fun hlt => ?_) fun hlt => ?_
 ·have hil : i < ps.length := by have := of_decide_eq_true hlt; dsimp only at this; omega
  refine SlIs.fI hp (hB.trans ho.le) (z := 1) (fun _ => rfl) (by omega) rfl hil (j := 0) (f := fun x => x) (fun _ => rfl) fun y hy => ?_
  subst hy
  have hr := hps.2 _ (List.getElem_mem hil)
  refine hFm.ok hr.1 hr.2 ?_
  refine QcY (zc := [sv []]) ho rfl (by dsimp only; omega) (by dsimp only; omega) fun r D2 q1 q2 => ?_
  rw [Qu (by dsimp only; omega) (by dsimp only; omega)]
  refine ⟨⟨i + 1, by dsimp only; omega, by omega, ?_⟩, by first | omega | (dsimp only; omega)⟩
  have : (ps.take (i + 1)).map (fun p => sv (Lib.itoa p)) = (ps.take i).map (fun p => sv (Lib.itoa p)) ++ [sv (Lib.itoa ps[i])] := by
   rw [List.take_add_one, List.getElem?_eq_getElem hil, Option.toList_some, List.map_append]; rfl
  rw [this]; exact q1
 ·have hie : i = ps.length := by have := of_decide_eq_false hlt; dsimp only at this; omega
  subst hie
  rw [List.take_length] at ho
  refine k (s1, ((ps.length : Nat) : Int)) D ho.le ⟨ps.map Lib.itoa, ?_, by simp; exact hsl, rfl, by simp; omega, fun i v y hv hy => ?_⟩ ho.own.2.2.1
  ·have e := QjZ ps
   rw [e]; exact ho.own.rdsl
  ·rw [hv] at hy; injection hy with hy; exact hy.symm
end
end
section
open Go Go.Proofs
section
variable {C : Ctx} {o o2 : Own_} {A B H H2 : Heap} {n : Str} {x m g b q : Nat} {L : List (Str × Option (Nat × Nat))} {R : List (List V)} {ps : List Int} {vs : List V} {s t : Sl}
/-- what was found, told -/
theorem Ql4 {k : Str} {K : Sl → Heap → Prop} (hB : By o A H n ps b R) (hA : A.le H) (hF : Fine R) (hn : R.Nodup) (hz : ∀ r ∈ R, vsizes r ≤ 1000000) (hlen : R.length ≤ 1000000)
 (kk : ∀ T s ys H2, Told H H2 (sel R ps k) T s ys → K s H2) : nck (some (b, 0)) fun p63 => ldM H (p63.1, p63.2 + 1) fun x65 => lkM mv none x65 k (fun x67 is68 => Qaf C x67 (fun r70 H71 => K r70 H71) H) H := by
 obtain ⟨mu, t2, q, LQ, hb, hp, hBM⟩ := hB
 refine ⟨_, rfl, some q, by rw [Qbf (hA _ _ hb)]; rfl, ?_⟩
 refine hBM.2.1.is.lk (fun y hy => ?_) fun hy => ?_
 ·obtain ⟨e, q1, q2, q3⟩ := hBM.2.2.1 _ (Qa8 hy)
  dsimp only at q1; subst q1
  refine Qky q3 hA hF.filter (hn.filter _) (fun r hr => hz r (List.mem_filter.1 hr).1) (Nat.le_trans (List.length_filter_le _ _) hlen) fun T s ys H2 hT => kk T s ys H2 hT
 ·have he : sel R ps k = [] := by
   unfold sel
   rw [List.filter_eq_nil_iff]
   intro r hr hk
   obtain ⟨e, hm⟩ := hBM.2.2.2 r hr k (of_decide_eq_true hk)
   rw [Qb5 hBM.2.1.is.nd hm] at hy; cases hy
  rw [he] at kk
  exact Qkx kk
theorem Ql7 {K : Sl → Heap → Prop} (h : IxP o A H x m g L R (cR R)) (hF : Fine R) (hn : R.Nodup) (hz : ∀ r ∈ R, vsizes r ≤ 1000000) (hlen : R.length ≤ 1000000)
 (k : ∀ T s ys H2, Told H H2 R T s ys → K s H2) : QaH C (some (x, 0)) K H := by
 apply QeE
 unfold Qcg
 exact Qd rfl ⟨_, rfl, h.ld0 (Qky h.rm h.oh.le hF hn hz hlen k)⟩
theorem QlA (hFm : FmtC C) {K : Sl → Int → Heap → Prop} (h : IxP o A H x m g L R (cR R)) (hF : Fine R) (hn : R.Nodup) (hz : ∀ r ∈ R, vsizes r ≤ 1000000) (hlen : R.length ≤ 1000000)
 (hp : IL B s ps) (hv : VRow B t vs) (hB : B.le H) (hps : PsOk ps) (hf : fineV vs)
 (k1 : ps.length ≠ vs.length → K Sl.nil 1 H)
 (k0 : ps.length = vs.length → mayR vs = false → ∀ H2, H.le H2 → K Sl.nil 0 H2)
 (k2 : ps.length = vs.length → mayR vs = true → ∀ o2 A2 L2 D T s ys H2, Chg (fun _ => True) o H o2 D → A.le A2 → (∀ c, A2 c ≠ none → A c ≠ none ∨ H c = none) → IxP o2 A2 D x m g L2 R (cR R) → Told D H2 (sel R ps (keyB vs)) T s ys → K s 0 H2) : Qp C (some (x, 0)) s t K H := by
 apply Qeu
 unfold QbX
 have hsl := SlIs.len hp
 have htl := hv.len
 refine Qd rfl (ift.of (fun h1 => k1 fun e => ?_) fun h1 => ?_)
 ·rw [hsl, htl, e] at h1; simp at h1
 have hl : ps.length = vs.length := by rw [hsl, htl] at h1; simp at h1; omega
 refine Qj5 hv hB hf (fun hm H5 h5 => Qd rfl ?_) fun hm H5 h5 => QU rfl (k0 hl hm H5 h5)
 refine QkV hFm hp (hB.trans h5) hps fun ns H9 h9 hns hcap => ?_
 refine QlK hns (Heap.le.refl _) hcap (by simpa using hps.1) (fun y hy => ?_) fun H23 h23 => ?_
 ·obtain ⟨p, hp2, rfl⟩ := List.mem_map.1 hy
  have hr := hps.2 p hp2
  have := Lib.itoa_length_le p hr.1 hr.2
  omega
 rw [← QlR]
 have hle : H.le H23 := h5.trans (h9.trans h23)
 have hP := h.up hle
 refine ⟨_, rfl, hP.ld1 ?_⟩
 have main : ∀ o3 A2 L2 b D, Chg (fun _ => True) o H o3 D → A.le A2 → (∀ c, A2 c ≠ none → A c ≠ none ∨ H c = none) → IxP o3 A2 D x m g L2 R (cR R) → By o3 A2 D (nmOf ps) ps b R → nck (some (b, 0)) fun p63 => ldM D (p63.1, p63.2 + 1) fun x65 => lkM mv none x65 (keyB vs) (fun x67 is68 => Qaf C x67 (fun r70 H71 => K r70 0 H71) D) D := fun o3 A2 L2 b D c1 c2 c3 c4 c5 =>
  Ql4 (K := fun s H2 => K s 0 H2) c5 c4.oh.le hF hn hz hlen fun T s ys H2 hT => k2 hl hm o3 A2 L2 D T s ys H2 c1 c2 c3 c4 hT
 have hfin : ∀ y, (∃ b, y = some (b, 0) ∧ By o A H23 (nmOf ps) ps b R) ∨ (y = none ∧ ∀ p ∈ L, p.1 ≠ nmOf ps) → jn (α := Option (Nat × Nat)) (fun x32 H33 => nck x32 fun p63 => ldM H33 (p63.1, p63.2 + 1) fun x65 => lkM mv none x65 (keyB vs) (fun x67 is68 => Qaf C x67 (fun r70 H71 => K r70 0 H71) H33) H33)
  (fun J31 => ift (Option.isNone y) (QX C s (fun r36 H37 => mkM (fun b38 H39 => nw (Qj.c (⟨r36, (some b38)⟩ : Qj)) (fun b40 H41 => nck (some (x, 0)) fun p42 => ldM H41 (p42.1, p42.2 + 0) fun x44 =>
   rgM slv x44 (fun b46 H47 => lp (α := Unit) () H47 (fun x48 J49 H50 => nxB (enc := slv) b46 (fun b51 H52 => ift b51 (enM slv b46 (fun k54 x55 => Q9 C (some (b40, 0)) k54 x55 (fun H57 => J49 () H57) H52) H52)
    (nck (some (x, 0)) fun p58 => ldM H52 (p58.1, p58.2 + 1) fun x60 => upS pv x60 (nmOf ps) (some (b40, 0)) (fun H62 => J31 (some (b40, 0)) H62) H52)) H50)) H41) H39) H37) H23) (J31 y H23)) := by
  rintro y (⟨b, rfl, hBy⟩ | ⟨rfl, hnm⟩)
  ·exact ⟨_, Qd rfl (main o A L b H23 (Chg.of_le hle) (Heap.le.refl _) (fun c hc => .inl hc) hP hBy), fun _ _ h => h⟩
  ·refine ⟨_, QU rfl ?_, fun _ _ h => h⟩
   refine QjL hp (hB.trans hle) hps.1 fun r36 H37 h37 hr36 => ?_
   intro b38 n38 b40 n40
   have l38 := Heap.le_put n38 (g := .obj (.map #[] 0)) (m := true)
   have l40 := Heap.le_put n40 (g := .row (Qj.c (⟨r36, some b38⟩ : Qj))) (m := true)
   have hne : b40 ≠ b38 := fun e => by subst e; rw [Heap.put_same] at n40; cases n40
   have hat : ((H37.put b38 (.obj (.map #[] 0))).put b40 (.row (Qj.c (⟨r36, some b38⟩ : Qj)))) b40 = some (true, .row [slv r36, mv (some b38)]) := Heap.put_same ..
   have hm38 : MapS mv ((H37.put b38 (.obj (.map #[] 0))).put b40 (.row (Qj.c (⟨r36, some b38⟩ : Qj)))) b38 ([] : List (Str × Option Nat)) := (MapS.new (H := H37) (b := b38)).same (Heap.put_ne _ _ _ hne.symm)
   have hle41 : H37.le ((H37.put b38 (.obj (.map #[] 0))).put b40 (.row (Qj.c (⟨r36, some b38⟩ : Qj)))) := l38.trans l40
   have hn40 : H23 b40 = none := h37.none (l38.none n40)
   have hn38 : H23 b38 = none := h37.none n38
   generalize (H37.put b38 (.obj (.map #[] 0))).put b40 (.row (Qj.c (⟨r36, some b38⟩ : Qj))) = H41 at *
   have h2341 : H23.le H41 := h37.trans hle41
   have hNle : ((Heap.new H23 H41).del b38).le H41 := (Heap.del_le _ _).trans (Heap.new_le _ _)
   have hA2le : (A.or ((Heap.new H23 H41).del b38)).le H41 := Heap.or_le (hP.oh.le.trans h2341) hNle
   have hNn : ∀ c e, ((Heap.new H23 H41).del b38) c = some e → c ≠ b38 ∧ H23 c = none := fun c e hc => by
    have : c ≠ b38 := fun e' => by rw [e', Heap.del_same] at hc; cases hc
    rw [Heap.del_ne _ this] at hc
    exact ⟨this, (Heap.new_inv hc).1⟩
   have hAnone : ∀ c, (A c = none) → (∀ e, ((Heap.new H23 H41).del b38) c = some e → False) → (A.or ((Heap.new H23 H41).del b38)) c = none := fun c h1 h2 => Heap.or_none h1 (by
    cases hh : ((Heap.new H23 H41).del b38) c with
    | none => rfl
    | some e => exact (h2 e hh).elim)
   have hP41 := hP.up h2341
   have hPg : IxP o (A.or ((Heap.new H23 H41).del b38)) H41 x m g L R (cR R) := hP41.grow Heap.le_or hA2le fun c w hw => hAnone c (hP.oh.ap c w hw) fun e he => hP.oh.oh c w hw (hNn c e he).2
   have hno : ∀ w, o b38 = some w → False := fun w hw => hP.oh.oh b38 w hw hn38
   have hup : ∀ c w, o c = some w → (o.set b38 (.inn (nmOf ps))) c = some w := fun c w hw => by
    have : c ≠ b38 := fun e => hno w (by rw [← e]; exact hw)
    rw [Own_.set_ne this]; exact hw
   have hO2 : OH (o.set b38 (.inn (nmOf ps))) (A.or ((Heap.new H23 H41).del b38)) H41 := ⟨hA2le, fun c w hw => by
    by_cases hc : c = b38
    ·subst hc
     exact hAnone _ (hP.oh.le.none hn38) fun e he => (hNn _ e he).1 rfl
    ·rw [Own_.set_ne hc] at hw; exact hPg.oh.ap c w hw, fun c w hw => by
    by_cases hc : c = b38
    ·subst hc; obtain ⟨es, ck, hm⟩ := hm38; rw [hm.at_]; simp
    ·rw [Own_.set_ne hc] at hw; exact hPg.oh.oh c w hw⟩
   have hP2 := hPg.own hO2 hup
   have hrow : (A.or ((Heap.new H23 H41).del b38)) b40 = some (true, .row [slv r36, mv (some b38)]) := by
    unfold Heap.or
    rw [hP.oh.le.none hn40]
    show ((Heap.new H23 H41).del b38) b40 = _
    rw [Heap.del_ne _ hne]; exact Heap.new_some hat hn40
   have hIL : IL (A.or ((Heap.new H23 H41).del b38)) r36 ps := by
    refine SlIs.le (Heap.le.trans ?_ (Heap.le_or2 fun c e hc => hP.oh.le.none (hNn c e hc).2)) hr36 fun _ _ _ h => h
    intro c e hc
    obtain ⟨q1, q2⟩ := Heap.new_inv hc
    have : c ≠ b38 := fun e' => by rw [e', n38] at q2; cases q2
    rw [Heap.del_ne _ this]; exact Heap.new_some (hle41 _ _ q2) q1
   have hBy : By (o.set b38 (.inn (nmOf ps))) (A.or ((Heap.new H23 H41).del b38)) H41 (nmOf ps) ps b40 [] :=
    ⟨true, r36, b38, [], hrow, hIL, Own_.set_same, hm38, (fun p hp => by cases hp), fun r hr => by cases hr⟩
   have hc41 : Chg (fun _ => True) o H (o.set b38 (.inn (nmOf ps))) H41 := by
    refine ⟨fun c e hc _ => h2341 _ _ (hle _ _ hc), hup, fun c w hw => ?_, fun c hc => ?_⟩
    ·by_cases hcb : c = b38
     ·subst hcb; exact .inr ⟨hle.none hn38, trivial, hO2.oh _ _ Own_.set_same⟩
     ·rw [Own_.set_ne hcb] at hw; exact .inl hw
    ·cases he : H c with
     | none => exact absurd he hc
     | some e => rw [h2341 _ _ (hle _ _ he)]; simp
   have hAn2 : ∀ c, (A.or ((Heap.new H23 H41).del b38)) c ≠ none → A c ≠ none ∨ H c = none := fun c hc => (Heap.or_some hc).imp id fun h => by
    cases hh : ((Heap.new H23 H41).del b38) c with
    | none => exact absurd hh h
    | some e => exact hle.none (hNn c e hh).2
   have hA2 : A.le (A.or ((Heap.new H23 H41).del b38)) := Heap.le_or
   generalize A.or ((Heap.new H23 H41).del b38) = A2 at *
   generalize o.set b38 (.inn (nmOf ps)) = o2 at *
   refine ⟨_, rfl, hP2.ld0 ?_⟩
   refine Qmn (t := 0) hP2 hBy hps hF hn hnm fun o3 D c3 hP3 hB3 => ?_
   refine ⟨_, rfl, hP3.ld1 ⟨g, L, rfl, hP3.mg, fun g2 L2 q1 q2 _ => ?_⟩⟩
   have hgne : ∀ c w, o3 c = some w → w ≠ .bys → c ≠ g := fun c w hw e e' => by subst e'; rw [hP3.og] at hw; injection hw with hw; exact e hw.symm
   have hB4 : By o3 A2 (D.put g g2) (nmOf ps) ps b40 R := hB3.keep fun c w hw hwn => ⟨hw, Heap.put_ne _ _ _ (hgne c w hw fun e => by subst e; cases hwn)⟩
   refine main o3 A2 L2 b40 _ ((hc41.trans (c3.imp fun _ _ => trivial)).trans (Chg.put hP3.og trivial)) hA2 hAn2 ⟨⟨fun c e hc => ?_, hP3.oh.ap, fun c w hw => ?_⟩, hP3.hx, hP3.om, hP3.og, hP3.rm.same (Heap.put_ne _ _ _ (hgne _ _ hP3.om (by intro h; cases h))), q1, fun p hp2 => ?_⟩ hB4
   ·have : c ≠ g := fun e' => by rw [e', hP3.oh.ap _ _ hP3.og] at hc; cases hc
    rw [Heap.put_ne _ _ _ this]; exact hP3.oh.le c e hc
   ·by_cases hcg : c = g
    ·rw [hcg, Heap.put_same]; simp
    ·rw [Heap.put_ne _ _ _ hcg]; exact hP3.oh.oh c w hw
   ·have hl2 := (QiR q1.is.nd).1 hp2
    rw [q2] at hl2
    split at hl2
    ·rename_i he
     injection hl2 with hl2
     refine ⟨b40, ps, hl2.symm, he, hps, ?_⟩
     rw [he]; exact hB4
    ·obtain ⟨b', ps', r1, r2, r3, r4⟩ := hP3.bs p (Qa8 hl2)
     exact ⟨b', ps', r1, r2, r3, r4.keep fun c w hw hwn => ⟨hw, Heap.put_ne _ _ _ (hgne c w hw fun e => by subst e; cases hwn)⟩⟩
 refine hP.mg.is.lk (fun y hy => ?_) fun hy => ?_
 ·obtain ⟨b, ps', r1, r2, r3, r4⟩ := hP.bs _ (Qa8 hy)
  have := QkW r2
  subst this
  exact hfin y (.inl ⟨b, r1, r4⟩)
 ·refine hfin none (.inr ⟨rfl, fun p hp2 e => ?_⟩)
  have := Qb5 hP.mg.is.nd (k := nmOf ps) (x := p.2) (by rw [← e]; exact hp2)
  rw [this] at hy; cases hy
end
end
section
open Go Go.Proofs
/-- an index in memory -/
structure IX (o : Own_) (A H : Heap) (x : Nat) (R : List (List V)) : Prop where
 p : ∃ m g L, IxP o A H x m g L R (cR R)
 f : Fine R
 n : R.Nodup
 z : ∀ r ∈ R, vsizes r ≤ 1000000
 l : R.length ≤ 1000
/-- what an index's method changes -/
structure Mv (o : Own_) (A H : Heap) (o2 : Own_) (A2 H2 : Heap) : Prop where
 c : Chg (fun _ => True) o H o2 H2
 a : A.le A2
 n : ∀ c, A2 c ≠ none → A c ≠ none ∨ H c = none
/-- a part of memory that the index's methods keep -/
structure Bs (o : Own_) (B H : Heap) : Prop where
 le : B.le H
 ap : ∀ c w, o c = some w → B c = none
/-- two indexes apart -/
structure Dj (o : Own_) (A : Heap) (o' : Own_) (A' : Heap) : Prop where
 a : ∀ c w, o c = some w → o' c = none ∧ A' c = none
 b : ∀ c w, o' c = some w → A c = none
section
variable {C : Ctx} {o o2 o3 o' : Own_} {A A2 A3 A' B B2 H H2 H3 D : Heap} {x y : Nat} {R S : List (List V)} {r : List V} {t s : Sl} {ps : List Int} {vs : List V}
theorem Mv.of_le (h : H.le H2) : Mv o A H o A H2 := ⟨Chg.of_le h, Heap.le.refl _, fun c hc => .inl hc⟩
theorem Mv.trans (h : Mv o A H o2 A2 H2) (h' : Mv o2 A2 H2 o3 A3 H3) : Mv o A H o3 A3 H3 := ⟨h.c.trans h'.c, h.a.trans h'.a, fun c hc => by
 rcases h'.n c hc with h1 | h1
 ·exact h.n c h1
 ·refine .inr ?_
  cases he : H c with
  | none => rfl
  | some e => exact absurd h1 (h.c.li c (by rw [he]; simp))⟩
theorem Bs.mv (h : Bs o B H) (hm : Mv o A H o2 A2 H2) : Bs o2 B H2 := by
 refine ⟨fun c e hc => hm.c.kp c e (h.le c e hc) (fun w hw _ => by rw [h.ap c w hw] at hc; cases hc), fun c w hw => ?_⟩
 rcases hm.c.dn c w hw with h1 | ⟨h1, _⟩
 ·exact h.ap c w h1
 ·exact h.le.none h1
theorem Bs.up (h : Bs o B H) (hle : H.le H2) : Bs o B H2 := ⟨h.le.trans hle, h.ap⟩
theorem IX.up (h : IX o A H x R) (hle : H.le H2) : IX o A H2 x R := by
 obtain ⟨⟨m, g, L, p⟩, q⟩ := h
 exact ⟨⟨m, g, L, p.up hle⟩, by assumption, by assumption, by assumption, by assumption⟩
theorem IX.oh (h : IX o A H x R) : OH o A H := by obtain ⟨⟨m, g, L, p⟩, _⟩ := h; exact p.oh
theorem Dj.symm (h : Dj o A o' A') : Dj o' A' o A := by
 refine ⟨fun c w hw => ⟨?_, h.b c w hw⟩, fun c w hw => (h.a c w hw).2⟩
 cases he : o c with
 | none => rfl
 | some w' => rw [(h.a c w' he).1] at hw; cases hw
/-- a row that may be asked -/
structure Ask (B : Heap) (t : Sl) (r : List V) : Prop where
 v : VRow B t r
 f : fineV r
 z : vsizes r ≤ 1000000
theorem IX.put {K : Bool → Int → Heap → Prop} (h : IX o A H x R) (hl : R.length < 1000) (hb : Bs o B H) (ha : Ask B t r)
 (k : ∀ b e o2 A2 H2 R2, Mv o A H o2 A2 H2 → IX o2 A2 H2 x R2 → (∀ r', r' ∈ R2 ↔ r' ∈ R ∨ (r' = r ∧ mayR r = true)) → (b = true ↔ mayR r = true ∧ r ∉ R) → (e = if mayR r then 0 else 4) → R2.length ≤ R.length + 1 → K b e H2) : QV C (some (x, 0)) t K H := by
 obtain ⟨⟨m, g, L, p⟩, q1, q2, q3, q4⟩ := h
 refine Qmd p q1 ha.v hb.le ha.f ha.z (fun hm H2 h2 => ?_) (fun hm hr H2 h2 => ?_) fun hm hr o2 A2 H2 c1 c2 c3 p2 => ?_
 ·exact k false 4 o A H2 R (Mv.of_le h2) ⟨⟨m, g, L, p.up h2⟩, q1, q2, q3, q4⟩ (fun r' => ⟨.inl, fun h => h.elim id fun h => by rw [h.2] at hm; cases hm⟩) ⟨fun h => (by cases h), fun h => by rw [h.1] at hm; cases hm⟩ (by rw [hm]; rfl) (by omega)
 ·exact k false 0 o A H2 R (Mv.of_le h2) ⟨⟨m, g, L, p.up h2⟩, q1, q2, q3, q4⟩ (fun r' => ⟨.inl, fun h => h.elim id fun h => by rw [h.1]; exact hr⟩) ⟨fun h => (by cases h), fun h => absurd hr h.2⟩ (by rw [hm]; rfl) (by omega)
 ·refine k true 0 o2 A2 H2 (R ++ [r]) ⟨c1, c2, c3⟩ ⟨⟨m, g, L, p2⟩, fun r' hr' => ?_, ?_, fun r' hr' => ?_, by simp; omega⟩ (fun r' => ?_) ⟨fun _ => ⟨hm, hr⟩, fun _ => rfl⟩ (by rw [hm]; rfl) (by simp)
  ·rcases List.mem_append.1 hr' with h | h
   ·exact q1 r' h
   ·rw [List.mem_singleton] at h; rw [h]; exact ⟨ha.f, hm⟩
  ·rw [List.nodup_append]
   exact ⟨q2, by simp, fun a ha' b hb' e => by rw [List.mem_singleton] at hb'; exact hr (by rw [← hb', ← e]; exact ha')⟩
  ·rcases List.mem_append.1 hr' with h | h
   ·exact q3 r' h
   ·rw [List.mem_singleton] at h; rw [h]; exact ha.z
  ·rw [List.mem_append, List.mem_singleton]
   exact ⟨fun h => h.imp id fun h => ⟨h, hm⟩, fun h => h.imp id fun h => h.1⟩
theorem IX.len {K : Int → Heap → Prop} (h : IX o A H x R) (k : K R.length H) : QaI C (some (x, 0)) K H := by
 obtain ⟨⟨m, g, L, p⟩, q1, q2, q3, q4⟩ := h
 exact Ql9 p q1 q2 k
theorem IX.all {K : Sl → Heap → Prop} (h : IX o A H x R) (k : ∀ T s ys H2, Told H H2 R T s ys → K s H2) : QaH C (some (x, 0)) K H := by
 obtain ⟨⟨m, g, L, p⟩, q1, q2, q3, q4⟩ := h
 exact Ql7 p q1 q2 q3 (by omega) k
theorem QhO {l : List V} : mayR l = true ↔ ∀ v ∈ l, mayV v = true := by unfold mayR; rw [List.all_eq_true]
theorem Ql0 (hF : Fine R) (hf : fineV vs) (hm : mayR vs = true) : r ∈ sel R ps (keyB vs) ↔ r ∈ R ∧ picks r ps = some vs := by
 unfold sel
 rw [List.mem_filter, decide_eq_true_iff]
 refine ⟨fun ⟨a, b⟩ => ⟨a, ?_⟩, fun ⟨a, b⟩ => ⟨a, ?_⟩⟩
 ·unfold keyAt at b
  cases hp : picks r ps with
  | none => rw [hp] at b; cases b
  | some q =>
   rw [hp] at b
   dsimp only at b
   split at b
   ·rename_i hq
    injection b with b
    obtain ⟨_, hmem⟩ := QdJ hp
    have hfr := (hF r a).1
    rw [QhM (VBs.of fun v hv => hfr.1.mem (hmem v hv)) hf.1 hq hm (fun v hv => hfr.2.2 v (hmem v hv)) hf.2.2 b]
   ·cases b
 ·unfold keyAt; rw [b]; simp [hm]
theorem IX.look (hFm : FmtC C) {K : Sl → Int → Heap → Prop} (h : IX o A H x R) (hb : Bs o B H) (hp : IL B s ps) (ha : Ask B t vs) (hps : PsOk ps) (hl : ps.length = vs.length)
 (k : ∀ o2 A2 D T s ys R' H2, Mv o A H o2 A2 D → IX o2 A2 D x R → Told D H2 R' T s ys → (∀ r, r ∈ R' ↔ r ∈ R ∧ picks r ps = some vs) → K s 0 H2) : Qp C (some (x, 0)) s t K H := by
 obtain ⟨⟨m, g, L, p⟩, q1, q2, q3, q4⟩ := h
 refine QlA hFm p q1 q2 q3 (by omega) hp ha.v hb.le hps ha.f (fun h => absurd hl h) (fun _ hm H2 h2 => ?_) fun _ hm o2 A2 L2 D T s ys H2 c1 c2 c3 p2 hT => ?_
 ·refine k o A H2 [] Sl.nil [] [] H2 (Mv.of_le h2) ⟨⟨m, g, L, p.up h2⟩, q1, q2, q3, q4⟩ Told.nil fun r => ⟨fun h => (by cases h), fun ⟨a, b⟩ => ?_⟩
  obtain ⟨_, hmem⟩ := QdJ b
  have : mayR vs = true := QhO.2 fun v hv => QhO.1 (q1 r a).2 v (hmem v hv)
  rw [this] at hm; cases hm
 ·exact k o2 A2 D T s ys _ H2 ⟨c1, c2, c3⟩ ⟨⟨m, g, L2, p2⟩, q1, q2, q3, q4⟩ hT fun r => Ql0 q1 ha.f hm
theorem IX.new {K : Option (Nat × Nat) → Heap → Prop} (k : ∀ x o A H2, H.le H2 → (∀ c w, o c = some w → H c = none) → (∀ c, A c ≠ none → H c = none) → IX o A H2 x [] → K (some (x, 0)) H2) : QbK C K H :=
 Qma fun x m g o A H2 h1 h2 h3 p => k x o A H2 h1 h2 h3 ⟨⟨m, g, [], p⟩, (fun r hr => by cases hr), .nil, (fun r hr => by cases hr), Nat.zero_le _⟩
/-- what was told, read in new memory -/
theorem Told.rows {T : List (List V)} {ys : List Sl} (h : Told D H2 R T s ys) : VRows (Heap.new D H2) s T := by
 have ho := h.og.own
 refine ⟨ys, ho.new.rdsl, by have := ho.len; simpa using this, h.len, fun i y l hy hl => ?_⟩
 refine (h.og.done i l y hl hy).row.le fun c e hc => ?_
 obtain ⟨a, b⟩ := Heap.new_inv hc
 exact Heap.new_some ((Heap.off_le _ _) _ _ b) a
theorem Told.bs {T : List (List V)} {ys : List Sl} (h : Told D H2 R T s ys) (hO : OH o A D) : Bs o (Heap.new D H2) H2 := ⟨Heap.new_le _ _, fun c w hw => by
 cases hh : Heap.new D H2 c with
 | none => rfl
 | some e => exact absurd (Heap.new_inv hh).1 (hO.oh c w hw)⟩
theorem QhZ {T U : List (List V)} (h1 : Rise T) (h2 : Rise U) (he : ∀ r, r ∈ T ↔ r ∈ U) : T = U := QjJ (P := fun _ => True) Lin.row h1 h2 (fun _ _ => trivial) he
theorem Told.mem {T : List (List V)} {ys : List Sl} (h : Told D H2 R T s ys) (r : List V) : r ∈ T ↔ r ∈ R := h.perm.mem_iff
end
end
section
open Go Go.Proofs
section
variable {C : Ctx} {o o2 : Own_} {A A2 B H H2 D : Heap} {x : Nat} {R : List (List V)} {s : Sl}
theorem QcT {ls : List (List V)} {s t : Sl} {K : Bool → Heap → Prop} (hs : VRows A s ls) (ht : VRows B t ls) (hA : A.le H) (hB : B.le H) (hn : ls.length ≤ 140737488355328) (hb : ∀ l ∈ ls, VBs l ∧ l.length ≤ 140737488355328) (k : K true H) : Qam C s t K H := by
 apply Qfl
 unfold QcO
 rw [hs.len, ht.len]
 refine Qd (by simp) ?_
 refine ⟨fun x D => D = H ∧ ∃ i : Nat, x = (i : Int) ∧ i ≤ ls.length, fun x _ => ls.length - x.toNat, ⟨rfl, 0, rfl, Nat.zero_le _⟩, ?_⟩
 rintro _ D ⟨rfl, i, rfl, hi⟩
 refine ift.of (fun h => ?_) (fun h => k)
 have hlt : i < ls.length := by have := of_decide_eq_true h; omega
 have hm := hb _ (List.getElem_mem hlt)
 refine ⟨_, Heap.le.refl _, hs.ld hA rfl hlt fun x hx => ht.ld hB rfl hlt fun y hy => Qfg (hx.le hA) (hy.le hB) hm.2 hm.1 ⟨Heap.le.refl _, ?_⟩⟩
 rw [Qd2.2 rfl]
 refine Qd rfl ?_
 rw [Qu (by omega) (by omega)]
 exact ⟨⟨rfl, i + 1, by omega, by omega⟩, by first | omega | (dsimp only; omega)⟩
theorem QcG {n : Int} {K : TV → Heap → Prop} (k : K ⟨2, n, [], Sl.nil⟩ H) : Qk C n K H := by
 apply Qk.gh
 apply Qib
 unfold QfH
 intro b nb
 exact nwT rfl (bxT (c := Qa.c) (Heap.put_same ..) ⟨H, Gh.le (Heap.le_put nb), k⟩)
theorem QbZ {n : Str} {K : TV → Heap → Prop} (k : K ⟨4, 0, n, Sl.nil⟩ H) : Qi C n K H := by
 apply Qi.gh
 apply Qhu
 unfold Qe5
 intro b nb
 exact nwT rfl (bxT (c := Qa.c) (Heap.put_same ..) ⟨H, Gh.le (Heap.le_put nb), k⟩)
def vN (n : Int) : V := .mk 2 n [] []
def vT (t : Str) : V := .mk 4 0 t []
theorem Qfw (H : Heap) (n : Int) : VIs H (vN n) ⟨2, n, [], Sl.nil⟩ := ⟨rfl, rfl, rfl, [], .inl rfl, rfl, trivial⟩
theorem QgG (H : Heap) (t : Str) : VIs H (vT t) ⟨4, 0, t, Sl.nil⟩ := ⟨rfl, rfl, rfl, [], .inl rfl, rfl, trivial⟩
theorem QlZ {H : Heap} {b : Nat} {cs : List Value} {m : Bool} (h : H b = some (m, .row cs)) : rds H (b, 0) cs := QdK h fun j v hj => by rw [Nat.zero_add]; exact hj
theorem QY {H0 H H2 H3 : Heap} (h1 : H0.le H) (h2 : H2.le H3) : (Heap.new H H2).le (Heap.new H0 H3) := fun c e hc => by
 obtain ⟨a, b⟩ := Heap.new_inv hc
 exact Heap.new_some (h2 _ _ b) (h1.none a)
theorem Qiq (hO : OH o A D) (hle : D.le H) : Bs o (Heap.new D H) H := ⟨Heap.new_le _ _, fun c w hw => by
 cases hh : Heap.new D H c with
 | none => rfl
 | some e => exact absurd (Heap.new_inv hh).1 (hO.oh c w hw)⟩
theorem Qkm {H : Heap} {b : Nat} {cs : List Value} (nb : H b = none) : rds (Heap.new H (H.put b (.row cs))) (b, 0) cs := QlZ (m := true) (Heap.new_some (Heap.put_same ..) nb)
/-- a row of values in a new block -/
theorem nwR {xs : List TV} {l : List V} {cs : List Value} {n : Nat} {K : Nat → Heap → Prop} (hc : cs = xs.flatMap Qa.c) (h : ∀ B, VsAre B l xs) (hn : n = l.length) (k : ∀ b H2, H.le H2 → VRow (Heap.new H H2) (Sl.of (some (b, 0)) n n) l → K b H2) : nw cs K H := by
 intro b nb
 have hle := Heap.le_put nb (g := .row cs) (m := true)
 refine k b _ hle ⟨xs, .inr ⟨rfl, (b, 0), rfl, ?_⟩, by rw [hn]; exact (h H).len, h _⟩
 rw [← hc]; exact Qkm nb
theorem nwRs {H0 : Heap} {ts : List Sl} {ls : List (List V)} {cs : List Value} {n : Nat} {K : Nat → Heap → Prop} (h0 : H0.le H) (hc : cs = ts.map slv) (h : ∀ (i : Nat) (x : Sl) (l : List V), ts[i]? = some x → ls[i]? = some l → VRow (Heap.new H0 H) x l) (hl : ts.length = ls.length) (hn : n = ls.length) (k : ∀ b H2, H.le H2 → VRows (Heap.new H0 H2) (Sl.of (some (b, 0)) n n) ls → K b H2) : nw cs K H := by
 intro b nb
 have hle := Heap.le_put nb (g := .row cs) (m := true)
 refine k b _ hle ⟨ts, .inr ⟨rfl, (b, 0), rfl, ?_⟩, by rw [hn, hl], hl, fun i x l h1 h2 => (h i x l h1 h2).le (QY (Heap.le.refl _) hle)⟩
 rw [← hc]; exact Qko (QY h0 (Heap.le.refl _)) (Qkm nb)
theorem nwI {ps : List Int} {cs : List Value} {n : Nat} {K : Nat → Heap → Prop} (hc : cs = ps.flatMap cI) (hn : n = ps.length) (hb : ps.length ≤ 1000) (k : ∀ b H2, H.le H2 → IL (Heap.new H H2) (Sl.of (some (b, 0)) n n) ps → K b H2) : nw cs K H := by
 intro b nb
 have hle := Heap.le_put nb (g := .row cs) (m := true)
 refine k b _ hle ⟨ps, .inr ⟨rfl, (b, 0), rfl, ?_⟩, hn, rfl, by omega, fun i v y h1 h2 => by rw [h1] at h2; injection h2 with h2; exact h2.symm⟩
 rw [← hc]; exact Qkm nb
def okRow (l : List V) : Prop := fineV l ∧ vsizes l ≤ 1000000
/-- rows put in, one after the other -/
theorem Qkj {ls : List (List V)} {K : Heap → Prop} (h : IX o A H x R) (hb : Bs o B H) (hs : VRows B s ls) (hok : ∀ l ∈ ls, okRow l) (hn : R.length + ls.length < 1000)
 (k : ∀ o2 A2 D R2, Mv o A H o2 A2 D → IX o2 A2 D x R2 → (∀ r', r' ∈ R2 ↔ r' ∈ R ∨ (r' ∈ ls ∧ mayR r' = true)) → R2.length ≤ R.length + ls.length → K D) :
 lp (α := Int) 0 H (fun x27 J28 H29 => ift (decide ((x27 : Int) < (Sl.len s : Int))) (ixa s x27 fun p31 => ldL H29 (p31.1, p31.2 + (x27 : Int).toNat * 1) fun x36 => QV C (some (x, 0)) x36 (fun r38 r39 H40 => J28 (w .i64 (x27 + 1)) H40) H29) (K H29)) := by
 have hlen := hs.len
 refine ⟨fun y D => ∃ (i : Nat) (o2 : Own_) (A2 : Heap) (R2 : List (List V)), y = (i : Int) ∧ i ≤ ls.length ∧ Mv o A H o2 A2 D ∧ IX o2 A2 D x R2 ∧ (∀ r', r' ∈ R2 ↔ r' ∈ R ∨ (r' ∈ ls.take i ∧ mayR r' = true)) ∧ R2.length ≤ R.length + i, fun y _ => ls.length - y.toNat, ⟨0, o, A, R, rfl, Nat.zero_le _, Mv.of_le (Heap.le.refl _), h, fun r' => by simp, by omega⟩, ?_⟩
 rintro _ D ⟨i, o2, A2, R2, rfl, hi, hm, hI, hmem, hl2⟩
 rw [hlen]
 refine ift.of (fun hlt => ?_) fun hlt => ?_
 ·have hil : i < ls.length := by have := of_decide_eq_true hlt; omega
  have hb2 := hb.mv hm
  refine hs.ld hb2.le rfl hil fun t ht => ?_
  have hok1 := hok _ (List.getElem_mem hil)
  refine hI.put (by omega) hb2 ⟨ht, hok1.1, hok1.2⟩ fun b e o3 A3 D3 R3 q1 q2 q3 q4 q5 q6 => ?_
  rw [Qu (by omega) (by omega)]
  refine ⟨⟨i + 1, o3, A3, R3, by omega, by omega, hm.trans q1, q2, fun r' => ?_, by omega⟩, by first | omega | (dsimp only; omega)⟩
  rw [q3, hmem, List.take_add_one, List.getElem?_eq_getElem hil, Option.toList_some, List.mem_append, List.mem_singleton]
  constructor
  ·rintro ((h | ⟨h1, h2⟩) | ⟨h1, h2⟩)
   ·exact .inl h
   ·exact .inr ⟨.inl h1, h2⟩
   ·exact .inr ⟨.inr h1, by rw [h1]; exact h2⟩
  ·rintro (h | ⟨h1 | h1, h2⟩)
   ·exact .inl (.inl h)
   ·exact .inl (.inr ⟨h1, h2⟩)
   ·exact .inr ⟨h1, by rw [← h1]; exact h2⟩
 ·have hie : i = ls.length := by have := of_decide_eq_false hlt; omega
  subst hie
  rw [List.take_length] at hmem
  exact k o2 A2 D R2 hm hI hmem hl2
def exP : List (List V) := [[vN 1, vT [97]], [vN 2, vT [97]], [vN 1, vT [98]], [vN 1]]
def exS : List (List V) := [[vN 1], [vN 1, vT [97]], [vN 1, vT [98]], [vN 2, vT [97]]]
theorem QjT : ∀ l ∈ exP, okRow l ∧ mayR l = true := by
 have hm : exP.all (fun l => mayR l) = true := by decide +kernel
 have h2 : ∀ l ∈ exP, okRow l := by
  intro l hl
  simp only [exP, List.mem_cons, List.not_mem_nil, or_false] at hl
  rcases hl with rfl | rfl | rfl | rfl <;> refine ⟨⟨?_, ?_, ?_⟩, ?_⟩ <;> simp [vN, vT, VBs, VB, vsizes, vsize, vtot, vtots]
 exact fun l hl => ⟨h2 l hl, List.all_eq_true.1 hm l hl⟩
theorem QjU (r : List V) : r ∈ exS ↔ r ∈ exP := by
 simp only [exS, exP, List.mem_cons, List.not_mem_nil, or_false]
 constructor
 ·rintro (h | h | h | h) <;> simp [h]
 ·rintro (h | h | h | h) <;> simp [h]
theorem QeN : Rise exS := by
 unfold Rise exS
 simp only [List.pairwise_cons, List.mem_cons, List.not_mem_nil, or_false, forall_eq_or_imp, forall_eq, List.Pairwise.nil, and_true, false_implies, implies_true]
 decide +kernel
theorem Qju {K : Option (Nat × Nat) → Heap → Prop} (k : ∀ x o A H2 R, H.le H2 → (∀ c w, o c = some w → H c = none) → (∀ c, A c ≠ none → H c = none) → IX o A H2 x R → (∀ r, r ∈ R ↔ r ∈ exP) → R.length ≤ 4 → K (some (x, 0)) H2) : QbM C K H := by
 apply QfQ
 unfold Qdu
 refine IX.new fun x o A H2 h1 h2 h3 hI => ?_
 refine QcG (QbZ (nwR (xs := [⟨2, 1, [], Sl.nil⟩, ⟨4, 0, [97], Sl.nil⟩]) (l := [vN 1, vT [97]]) rfl (fun B => ⟨Qfw _ _, QgG _ _, trivial⟩) rfl fun b1 E1 e1 r1 => ?_))
 refine QcG (QbZ (nwR (xs := [⟨2, 2, [], Sl.nil⟩, ⟨4, 0, [97], Sl.nil⟩]) (l := [vN 2, vT [97]]) rfl (fun B => ⟨Qfw _ _, QgG _ _, trivial⟩) rfl fun b2 E2 e2 r2 => ?_))
 refine QcG (QbZ (nwR (xs := [⟨2, 1, [], Sl.nil⟩, ⟨4, 0, [98], Sl.nil⟩]) (l := [vN 1, vT [98]]) rfl (fun B => ⟨Qfw _ _, QgG _ _, trivial⟩) rfl fun b3 E3 e3 r3 => ?_))
 refine QcG (nwR (xs := [⟨2, 1, [], Sl.nil⟩]) (l := [vN 1]) rfl (fun B => ⟨Qfw _ _, trivial⟩) rfl fun b4 E4 e4 r4 => ?_)
 have f1 := e1.trans (e2.trans e3)
 refine nwRs (H0 := H2) (f1.trans e4) (ts := [Sl.of (some (b1, 0)) 2 2, Sl.of (some (b2, 0)) 2 2, Sl.of (some (b3, 0)) 2 2, Sl.of (some (b4, 0)) 1 1]) (ls := exP) (n := 4) rfl (fun i y l hy hl => ?_) rfl rfl fun b5 E5 e5 r5 => ?_
 ·match i with
  | 0 => simp [exP] at hy hl; subst hy; subst hl; exact r1.le (QY (Heap.le.refl _) (e2.trans (e3.trans e4)))
  | 1 => simp [exP] at hy hl; subst hy; subst hl; exact r2.le (QY e1 (e3.trans e4))
  | 2 => simp [exP] at hy hl; subst hy; subst hl; exact r3.le (QY (e1.trans e2) e4)
  | 3 => simp [exP] at hy hl; subst hy; subst hl; exact r4.le (QY f1 (Heap.le.refl _))
  | i + 4 => simp at hy
 ·have hle : H2.le E5 := e1.trans (e2.trans (e3.trans (e4.trans e5)))
  have hI5 := hI.up hle
  have hB : Bs o (Heap.new H2 E5) E5 := Qiq hI.oh hle
  refine Qkj hI5 hB r5 (fun l hl => (QjT l hl).1) (by decide) fun o2 A2 D R2 m1 m2 m3 m4 => ?_
  refine k x o2 A2 D R2 (fun c e hc => ?_) (fun c w hw => ?_) (fun c hc => ?_) m2 (fun r => ?_) m4
  ·exact m1.c.kp c e (hle _ _ (h1 _ _ hc)) fun w hw _ => by rw [h2 c w hw] at hc; cases hc
  ·rcases m1.c.dn c w hw with q | ⟨q, _⟩
   ·exact h2 c w q
   ·exact h1.none (hle.none q)
  ·rcases m1.n c hc with q | q
   ·exact h3 c q
   ·exact h1.none (hle.none q)
  ·rw [m3]
   exact ⟨fun h => h.elim (fun h => by cases h) fun h => h.1, fun h => .inr ⟨h, (QjT r h).2⟩⟩
end
end
section
open Go Go.Proofs
def picksB (ps : List Int) (vs r : List V) : Bool := match picks r ps with
 | some q => sameVs q vs
 | none => false
theorem Qjz {ps : List Int} {vs r : List V} : picksB ps vs r = true ↔ picks r ps = some vs := by
 unfold picksB
 cases h : picks r ps with
 | none => simp
 | some q => simp [Qd2]
theorem Rise.nodup {T : List (List V)} (h : Rise T) : T.Nodup := h.imp fun {a b} hab e => by
 rw [e, Lin.row.refl trivial] at hab; omega
theorem Rise.filter {T : List (List V)} {f : List V → Bool} (h : Rise T) : Rise (T.filter f) := List.Pairwise.filter _ h
section
variable {C : Ctx} {o o2 : Own_} {A A2 B H H2 D : Heap} {x : Nat} {R R' S T : List (List V)} {s t : Sl} {ys : List Sl} {ps : List Int} {vs : List V}
/-- what is told of an index whose rows are known, rising -/
theorem Qh4 (hS : Rise S) (hR : ∀ r, r ∈ R ↔ r ∈ S) (hT : Told D H2 R' T s ys) (hR' : ∀ r, r ∈ R' ↔ r ∈ R ∧ picks r ps = some vs) : T = S.filter (picksB ps vs) := by
 refine QhZ hT.rise hS.filter fun r => ?_
 rw [hT.mem, hR', List.mem_filter, Qjz, hR]
theorem Qlf (hS : Rise S) (hR : ∀ r, r ∈ R ↔ r ∈ S) (hT : Told D H2 R T s ys) : T = S := by
 refine QhZ hT.rise hS fun r => ?_
 rw [hT.mem, hR]
theorem IX.len_of (h : IX o A H x R) (hS : Rise S) (hR : ∀ r, r ∈ R ↔ r ∈ S) : R.length = S.length := ((List.perm_ext_iff_of_nodup h.n hS.nodup).2 hR).length_eq
theorem Told.le (h : Told D H2 R T s ys) : D.le H2 := h.og.own.le
theorem QhC {l : List V} (h : VRow B t l) (hl : okRow l) : Ask B t l := ⟨h, hl.1, hl.2⟩
theorem QgB {l : List (List V)} (h : ∀ r ∈ l, okRow r) : ∀ r ∈ l, VBs r ∧ r.length ≤ 140737488355328 := fun r hr => ⟨(h r hr).1.1, by have := (h r hr).1.2.1; omega⟩
theorem QjV : ∀ l ∈ exS, okRow l := fun l hl => (QjT l ((QjU l).1 hl)).1
theorem QjW : exS.filter (picksB [1] [vT [97]]) = [[vN 1, vT [97]], [vN 2, vT [97]]] := by rfl
theorem QjX : exS.filter (picksB [0, 1] [vN 1, vT [98]]) = [[vN 1, vT [98]]] := by rfl
theorem QlH : exS.filter (picksB [5] [vN 1]) = [] := by rfl
theorem okl : okRow [vT [97]] ∧ okRow [vN 1, vT [98]] ∧ okRow [vN 1] := by
 refine ⟨?_, ?_, ?_⟩ <;> refine ⟨⟨?_, ?_, ?_⟩, ?_⟩ <;> simp [vN, vT, VBs, VB, vsizes, vsize, vtot, vtots]
theorem psok {ps : List Int} (h : ps.all (fun p => decide (-9223372036854775808 ≤ p) && decide (p ≤ 9223372036854775807)) = true) (hl : ps.length ≤ 10000) : PsOk ps := ⟨hl, fun p hp => by
 have := List.all_eq_true.1 h p hp
 rw [Bool.and_eq_true] at this
 exact ⟨of_decide_eq_true this.1, of_decide_eq_true this.2⟩⟩
theorem Qjs (hFm : FmtC C) {K : Bool → Heap → Prop} (k : ∀ H2, H.le H2 → K true H2) : QbD C K H := by
 apply QgQ
 unfold Qel
 obtain ⟨ok1, ok2, ok3⟩ := okl
 refine Qju fun x o A H2 R h1 h2 h3 hI hR _ => ?_
 have hRS : ∀ r, r ∈ R ↔ r ∈ exS := fun r => (hR r).trans (QjU r).symm
 have bH : Bs o H H2 := ⟨h1, fun c w hw => h2 c w hw⟩
 -- the first look
 refine nwI (ps := [1]) rfl rfl (by simp) fun b3 E1 e1 p1 => ?_
 refine QbZ (nwR (xs := [⟨4, 0, [97], Sl.nil⟩]) (l := [vT [97]]) rfl (fun B => ⟨QgG _ _, trivial⟩) rfl fun b7 E2 e2 r7 => ?_)
 have f2 := e1.trans e2
 refine IX.look hFm (hI.up f2) (Qiq hI.oh f2) (ps := [1]) (vs := [vT [97]]) (SlIs.le (QY (Heap.le.refl _) e2) p1 fun _ _ _ h => h) (QhC (r7.le (QY e1 (Heap.le.refl _))) ok1) (psok (by decide) (by simp)) rfl fun oa Aa Da Ta sa ya Ra Ha ma ia ta qa => ?_
 have Ea := Qh4 QeN hRS ta qa
 rw [QjW] at Ea
 have iA := ia.up ta.le
 have bA : Bs oa H Ha := ((bH.up f2).mv ma).up ta.le
 have nA := ta.bs ia.oh
 have rA := ta.rows
 -- the second
 refine nwI (ps := [0, 1]) rfl rfl (by simp) fun b12 E3 e3 p3 => ?_
 refine QcG (QbZ (nwR (xs := [⟨2, 1, [], Sl.nil⟩, ⟨4, 0, [98], Sl.nil⟩]) (l := [vN 1, vT [98]]) rfl (fun B => ⟨Qfw _ _, QgG _ _, trivial⟩) rfl fun b18 E4 e4 r18 => ?_))
 have f4 := e3.trans e4
 refine IX.look hFm (iA.up f4) (Qiq iA.oh f4) (ps := [0, 1]) (vs := [vN 1, vT [98]]) (SlIs.le (QY (Heap.le.refl _) e4) p3 fun _ _ _ h => h) (QhC (r18.le (QY e3 (Heap.le.refl _))) ok2) (psok (by decide) (by simp)) rfl fun ob Ab Db Tb sb yb Rb Hb mb ib tb qb => ?_
 have Eb := Qh4 QeN hRS tb qb
 rw [QjX] at Eb
 have iB := ib.up tb.le
 have bB : Bs ob H Hb := ((bA.up f4).mv mb).up tb.le
 have nA2 := ((nA.up f4).mv mb).up tb.le
 have nB := tb.bs ib.oh
 have rB := tb.rows
 -- the third
 refine nwI (ps := [5]) rfl rfl (by simp) fun b23 E5 e5 p5 => ?_
 refine QcG (nwR (xs := [⟨2, 1, [], Sl.nil⟩]) (l := [vN 1]) rfl (fun B => ⟨Qfw _ _, trivial⟩) rfl fun b27 E6 e6 r27 => ?_)
 have f6 := e5.trans e6
 refine IX.look hFm (iB.up f6) (Qiq iB.oh f6) (ps := [5]) (vs := [vN 1]) (SlIs.le (QY (Heap.le.refl _) e6) p5 fun _ _ _ h => h) (QhC (r27.le (QY e5 (Heap.le.refl _))) ok3) (psok (by decide) (by simp)) rfl fun oc Ac Dc Tc sc yc Rc Hc mc ic tc qc => ?_
 have Ec := Qh4 QeN hRS tc qc
 rw [QlH] at Ec
 have iC := ic.up tc.le
 have bC : Bs oc H Hc := ((bB.up f6).mv mc).up tc.le
 have nA3 := ((nA2.up f6).mv mc).up tc.le
 have nB2 := ((nB.up f6).mv mc).up tc.le
 have lC := tc.rows.len
 rw [Ec] at lC
 refine iC.len ?_
 rw [iC.len_of QeN hRS]
 refine jn.inl (QU rfl ?_)
 refine iC.all fun T s ys H3 tT => ?_
 have ET := Qlf QeN hRS tT
 have lT := tT.le
 have rT := tT.rows
 rw [ET] at rT
 refine QcG (nwR (xs := [⟨2, 1, [], Sl.nil⟩]) (l := [vN 1]) rfl (fun B => ⟨Qfw _ _, trivial⟩) rfl fun b1 G1 g1 r1 => ?_)
 refine QcG (QbZ (nwR (xs := [⟨2, 1, [], Sl.nil⟩, ⟨4, 0, [97], Sl.nil⟩]) (l := [vN 1, vT [97]]) rfl (fun B => ⟨Qfw _ _, QgG _ _, trivial⟩) rfl fun b2 G2 g2 r2 => ?_))
 refine QcG (QbZ (nwR (xs := [⟨2, 1, [], Sl.nil⟩, ⟨4, 0, [98], Sl.nil⟩]) (l := [vN 1, vT [98]]) rfl (fun B => ⟨Qfw _ _, QgG _ _, trivial⟩) rfl fun b3' G3 g3 r3 => ?_))
 refine QcG (QbZ (nwR (xs := [⟨2, 2, [], Sl.nil⟩, ⟨4, 0, [97], Sl.nil⟩]) (l := [vN 2, vT [97]]) rfl (fun B => ⟨Qfw _ _, QgG _ _, trivial⟩) rfl fun b4 G4 g4 r4 => ?_))
 have w3 := g1.trans (g2.trans g3)
 refine nwRs (H0 := H3) (w3.trans g4) (ts := [Sl.of (some (b1, 0)) 1 1, Sl.of (some (b2, 0)) 2 2, Sl.of (some (b3', 0)) 2 2, Sl.of (some (b4, 0)) 2 2]) (ls := exS) (n := 4) rfl (fun i y l hy hl => ?_) rfl rfl fun b5 G5 g5 r5 => ?_
 ·match i with
  | 0 => simp [exS] at hy hl; subst hy; subst hl; exact r1.le (QY (Heap.le.refl _) (g2.trans (g3.trans g4)))
  | 1 => simp [exS] at hy hl; subst hy; subst hl; exact r2.le (QY g1 (g3.trans g4))
  | 2 => simp [exS] at hy hl; subst hy; subst hl; exact r3.le (QY (g1.trans g2) g4)
  | 3 => simp [exS] at hy hl; subst hy; subst hl; exact r4.le (QY w3 (Heap.le.refl _))
  | i + 4 => simp at hy
 have w5 := w3.trans (g4.trans g5)
 have hC5 : Hc.le G5 := lT.trans w5
 refine QcT rT r5 ((Heap.new_le _ _).trans w5) (Heap.new_le _ _) (by decide) (QgB QjV) ?_
 -- the first look's rows
 refine jn.inl (QU rfl ?_)
 rw [Ea] at rA
 refine QcG (QbZ (nwR (xs := [⟨2, 1, [], Sl.nil⟩, ⟨4, 0, [97], Sl.nil⟩]) (l := [vN 1, vT [97]]) rfl (fun B => ⟨Qfw _ _, QgG _ _, trivial⟩) rfl fun c1 I1 i1 s1 => ?_))
 refine QcG (QbZ (nwR (xs := [⟨2, 2, [], Sl.nil⟩, ⟨4, 0, [97], Sl.nil⟩]) (l := [vN 2, vT [97]]) rfl (fun B => ⟨Qfw _ _, QgG _ _, trivial⟩) rfl fun c2 I2 i2 s2 => ?_))
 refine nwRs (H0 := G5) (i1.trans i2) (ts := [Sl.of (some (c1, 0)) 2 2, Sl.of (some (c2, 0)) 2 2]) (ls := [[vN 1, vT [97]], [vN 2, vT [97]]]) (n := 2) rfl (fun i y l hy hl => ?_) rfl rfl fun c3 I3 i3 s3 => ?_
 ·match i with
  | 0 => simp at hy hl; subst hy; subst hl; exact s1.le (QY (Heap.le.refl _) i2)
  | 1 => simp at hy hl; subst hy; subst hl; exact s2.le (QY i1 (Heap.le.refl _))
  | i + 2 => simp at hy
 have hC6 : Hc.le I3 := hC5.trans (i1.trans (i2.trans i3))
 have okA : ∀ r ∈ [[vN 1, vT [97]], [vN 2, vT [97]]], okRow r := by rw [← QjW]; exact fun r hr => QjV r (List.mem_filter.1 hr).1
 have okB : ∀ r ∈ [[vN 1, vT [98]]], okRow r := by rw [← QjX]; exact fun r hr => QjV r (List.mem_filter.1 hr).1
 refine QcT rA s3 (nA3.le.trans hC6) (Heap.new_le _ _) (by decide) (QgB okA) ?_
 -- the second look's rows
 refine jn.inl (QU rfl ?_)
 rw [Eb] at rB
 refine QcG (QbZ (nwR (xs := [⟨2, 1, [], Sl.nil⟩, ⟨4, 0, [98], Sl.nil⟩]) (l := [vN 1, vT [98]]) rfl (fun B => ⟨Qfw _ _, QgG _ _, trivial⟩) rfl fun d1 J1 j1 u1 => ?_))
 refine nwRs (H0 := I3) j1 (ts := [Sl.of (some (d1, 0)) 2 2]) (ls := [[vN 1, vT [98]]]) (n := 1) rfl (fun i y l hy hl => ?_) rfl rfl fun d3 J3 j3 u3 => ?_
 ·match i with
  | 0 => simp at hy hl; subst hy; subst hl; exact u1
  | i + 1 => simp at hy
 have hC7 : Hc.le J3 := hC6.trans (j1.trans j3)
 refine QcT rB u3 (nB2.le.trans hC7) (Heap.new_le _ _) (by decide) (QgB okB) ?_
 rw [lC]
 exact k J3 (bC.le.trans hC7)
end
end
section
open Go Go.Proofs
mutual
def pV : V → Nat
 | .mk _ _ s l => 1 + s.length / 64 + pVs l
def pVs : List V → Nat
 | [] => 0
 | v :: l => pV v + pVs l
end
theorem QlV (v : V) : pV v = 1 + v.s.length / 64 + pVs v.l := by obtain ⟨k, n, s, l⟩ := v; rfl
theorem QiV : ∀ {l : List V} {v : V}, v ∈ l → pV v ≤ pVs l
 | w :: l, v, h => by
  simp only [pVs]
  rcases List.mem_cons.1 h with rfl | h
  ·omega
  ·have := QiV h; omega
theorem QiU : ∀ l : List V, l.length ≤ pVs l
 | [] => Nat.le_refl _
 | v :: l => by
  have := QiU l
  have := QlV v
  simp only [pVs, List.length_cons]; omega
mutual
theorem QlW : ∀ v : V, vsize v ≤ pV v
 | .mk k n s l => by
  have := QhV l
  simp only [vsize, pV]; omega
theorem QhV : ∀ l : List V, vsizes l ≤ pVs l
 | [] => Nat.le_refl _
 | v :: l => by
  have := QlW v
  have := QhV l
  simp only [vsizes, pVs]; omega
end
mutual
theorem Qlt : ∀ v : V, vtot v ≤ 200 * pV v
 | .mk k n s l => by
  have := Qkc l
  simp only [vtot, pV]; omega
theorem Qkc : ∀ l : List V, vtots l ≤ 200 * pVs l
 | [] => Nat.zero_le _
 | v :: l => by
  have := Qlt v
  have := Qkc l
  simp only [vtots, pVs]; omega
end
theorem Qje {l : List V} (hB : VBs l) (h : pVs l ≤ 10000) : okRow l := by
 refine ⟨⟨hB, by have := QiU l; omega, fun v hv => ?_⟩, by have := QhV l; omega⟩
 have := Qlt v
 have := QiV hv
 omega
/-- the parts ahead of a place, as they are counted -/
def pre (l : List V) (i : Nat) : Nat := l.length + ((l.take i).map fun v => pVs v.l + v.s.length / 64).sum
theorem Qk1 {l : List V} {i : Nat} (h : i < l.length) : pre l (i + 1) = pre l i + (pVs l[i].l + l[i].s.length / 64) := by
 unfold pre
 rw [List.take_add_one, List.getElem?_eq_getElem h, Option.toList_some, List.map_append, List.sum_append]
 simp; omega
theorem QiX : ∀ l : List V, (l.map fun v => pVs v.l + v.s.length / 64).sum + l.length = pVs l
 | [] => rfl
 | v :: l => by
  have := QiX l
  have := QlV v
  simp only [List.map_cons, List.sum_cons, List.length_cons, pVs]; omega
theorem Qlv (l : List V) (i : Nat) : pre l i ≤ pVs l := by
 have h : ∀ (l : List Nat) (i : Nat), (l.take i).sum ≤ l.sum := fun l i => by
  have := congrArg List.sum (List.take_append_drop i l)
  rw [List.sum_append] at this; omega
 unfold pre
 rw [← QiX l, List.map_take]
 have := h (l.map fun v => pVs v.l + v.s.length / 64) i
 omega
section
variable {C : Ctx}
theorem Qmg {a b c d : Int} (h : (decide (a < b) && decide (c < d)) = false) : b ≤ a ∨ d ≤ c := by
 rw [Bool.and_eq_false_iff] at h
 rcases h with h | h
 ·left; have := of_decide_eq_false h; omega
 ·right; have := of_decide_eq_false h; omega
theorem Qmf {a b c d : Int} (h : (decide (a < b) && decide (c < d)) = true) : a < b ∧ c < d := by
 rw [Bool.and_eq_true] at h
 exact ⟨of_decide_eq_true h.1, of_decide_eq_true h.2⟩
theorem VRow.fld {A H : Heap} {t : Sl} {l : List V} (h : VRow A t l) (hle : A.le H) {i : Nat} {x : Int} {K : Nat × Nat → Prop} (hx : x = i) (hi : i < l.length) (k : ∀ p y, VIs A l[i] y → (∀ j v, (Qa.c y)[j]? = some v → rd H (p.1, p.2 + x.toNat * 4 + j) = some v) → K p) : ixa t x K := by
 have hl := h.len
 obtain ⟨xs, h1, h2, h3⟩ := h
 have hi2 : i < xs.length := by omega
 have hg := List.getElem?_eq_getElem hi2
 subst hx
 refine Qil (Qba hle h1) (by omega) (by omega) (fun e => ?_) fun p _ hp => k p xs[i] (h3.get i _ _ (List.getElem?_eq_getElem hi) hg) fun j v hj => ?_
 ·have := QeO Qa.c 4 TV.c_len xs i _ hg 0 _ rfl
  rw [e] at this; simp at this
 ·rw [Int.toNat_natCast, Nat.add_assoc]
  exact QcD hp _ _ (QeO Qa.c 4 TV.c_len xs i _ hg j v hj)
theorem Qjh {A H : Heap} {t : Sl} {l : List V} {K : Int → Heap → Prop} (hv : VRow A t l) (hA : A.le H) (hb : pVs l ≤ 1000000000000) (k : ∀ n : Nat, (n < 9000 → n = pVs l) → n ≤ pVs l → K n H) : Qz C t K H := by
 have main : ∀ v : V, ∀ (A H : Heap) (t : Sl) (K : Int → Heap → Prop), VRow A t v.l → A.le H → pVs v.l ≤ 1000000000000 → (∀ n : Nat, (n < 9000 → n = pVs v.l) → n ≤ pVs v.l → K n H) → Qz C t K H := by
  refine fun v => V.rec_ (P := fun v => ∀ (A H : Heap) (t : Sl) (K : Int → Heap → Prop), VRow A t v.l → A.le H → pVs v.l ≤ 1000000000000 → (∀ n : Nat, (n < 9000 → n = pVs v.l) → n ≤ pVs v.l → K n H) → Qz C t K H) (fun v ih => ?_) v
  intro A H t K hv hA hb k
  apply QgP
  unfold Qek
  have hl := hv.len
  have hpl := QiU v.l
  rw [hl]
  refine ⟨fun x D => D = H ∧ ∃ i n : Nat, x.1 = (n : Int) ∧ x.2 = (i : Int) ∧ i ≤ v.l.length ∧ n ≤ pre v.l i ∧ (n < 9000 → n = pre v.l i), fun x _ => v.l.length - x.2.toNat, ⟨rfl, 0, v.l.length, rfl, rfl, Nat.zero_le _, by simp [pre], fun _ => by simp [pre]⟩, ?_⟩
  rintro ⟨_, _⟩ D ⟨hD, i, n, rfl, rfl, hi, hn1, hn2⟩
  have hD := hD.symm
  subst hD
  have hp := Qlv v.l i
  refine ift.of (fun h => ?_) (fun h => ?_)
  ·have h0 := Qmf h
   have hlt : i < v.l.length := by have := h0.1; dsimp only at this; omega
   have hn9 : n < 9000 := by have := h0.2; dsimp only at this; omega
   have hs := Qk1 hlt
   have hp2 := Qlv v.l (i + 1)
   have hmem := List.getElem_mem hlt
   have hm1 := QiV hmem
   have hm2 := QlV v.l[i]
   refine ⟨_, Heap.le.refl _, hv.fld hA rfl hlt fun p y hy hp => ⟨y.L, hp 3 _ rfl, ?_⟩⟩
   refine hv.fld hA rfl hlt fun p2 y2 hy2 hp2' => ⟨y2.S, hp2' 2 _ rfl, ?_⟩
   refine ih _ hmem A _ _ _ hy.row hA (by omega) fun m m1 m2 => ⟨Heap.le.refl _, ?_⟩
   rw [hy2.txt]
   have ediv : Int.tdiv ((v.l[i].s.length : Nat) : Int) 64 = ((v.l[i].s.length / 64 : Nat) : Int) := by
    rw [Int.tdiv_eq_ediv_of_nonneg (by omega)]; omega
   rw [ediv, Qu (x := (n : Int) + (m : Int)) (by omega) (by omega), Qu (x := ((v.l[i].s.length / 64 : Nat) : Int)) (by omega) (by omega), Qu (x := (n : Int) + (m : Int) + ((v.l[i].s.length / 64 : Nat) : Int)) (by omega) (by omega), Qu (by dsimp only; omega) (by dsimp only; omega)]
   refine ⟨⟨rfl, i + 1, n + m + v.l[i].s.length / 64, by dsimp only; omega, by dsimp only; omega, by omega, by omega, fun h5 => ?_⟩, by first | omega | (dsimp only; omega)⟩
   have := m1 (by omega)
   have := hn2 hn9
   omega
  ·have h1 := Qmg h
   dsimp only at h1
   refine k n (fun h9 => ?_) (by omega)
   have hie : i = v.l.length := by omega
   have hpe : pre v.l i = pVs v.l := by
    rw [hie]; unfold pre; rw [List.take_length]; have := QiX v.l; omega
   rw [← hpe]; exact hn2 h9
 exact main (.mk 0 0 [] l) A H t K hv hA hb k
end
end
section
open Go Go.Proofs
section
variable {C : Ctx} {B N H D : Heap} {s : Sl} {ls : List (List V)}
theorem QkQ {n0 : Nat} {K : Int × Int → Heap → Prop} (hs : VRows B s ls) (hB : B.le H) (hb : ∀ l ∈ ls, pVs l ≤ 1000000000000) (hll : ls.length ≤ 140737488355328) (h0 : n0 ≤ 2000000000000) (k : ∀ n : Nat, ∀ i : Int, (n < 2000 → ∀ l ∈ ls, pVs l < 2000) → n0 ≤ n → n ≤ 2000000000000 → K ((n : Int), i) H) :
 lp (α := Int × Int) ((n0 : Int), 0) H (fun x1 J2 H3 => ift ((decide ((x1.2 : Int) < (Sl.len s : Int))) && (decide ((x1.1 : Int) < 2000))) (ixa s x1.2 fun p6 => ldL H3 (p6.1, p6.2 + (x1.2 : Int).toNat * 1) fun x11 => Qz C x11 (fun r13 H14 => J2 ((w .i64 ((w .i64 (x1.1 + 1)) + r13)), (w .i64 (x1.2 + 1))) H14) H3) (K x1 H3)) := by
 rw [hs.len]
 refine ⟨fun x E => E = H ∧ ∃ i n : Nat, x.1 = (n : Int) ∧ x.2 = (i : Int) ∧ i ≤ ls.length ∧ n0 ≤ n ∧ n ≤ 2000000000000 ∧ (n < 2000 → ∀ j, (h : j < ls.length) → j < i → pVs ls[j] < 2000), fun x _ => ls.length - x.2.toNat, ⟨rfl, 0, n0, rfl, rfl, Nat.zero_le _, Nat.le_refl _, h0, fun _ j h hj => by omega⟩, ?_⟩
 rintro ⟨_, _⟩ E ⟨hE, i, n, rfl, rfl, hi, hn0, hn, hq⟩
 have hE := hE.symm
 subst hE
 refine ift.of (fun h => ?_) (fun h => ?_)
 ·have h1 := Qmf h
  have hlt : i < ls.length := by have := h1.1; dsimp only at this; omega
  have hn2 : n < 2000 := by have := h1.2; dsimp only at this; omega
  have hm := hb _ (List.getElem_mem hlt)
  refine hs.ld hB rfl hlt fun t ht => ?_
  refine Qjh ht hB hm fun m m1 m2 => ?_
  rw [Qu (x := ((n : Int), (i : Int)).1 + 1) (by dsimp only; omega) (by dsimp only; omega), Qu (x := ((n : Int), (i : Int)).1 + 1 + (m : Int)) (by dsimp only; omega) (by dsimp only; omega), Qu (by dsimp only; omega) (by dsimp only; omega)]
  refine ⟨⟨rfl, i + 1, n + 1 + m, by dsimp only; omega, by dsimp only; omega, by omega, by omega, by omega, fun h5 j hj hji => ?_⟩, by first | omega | (dsimp only; omega)⟩
  by_cases he : j = i
  ·subst he
   have := m1 (by omega)
   omega
  ·exact hq hn2 j hj (by omega)
 ·have h1 := Qmg h
  dsimp only at h1
  refine k n i (fun h2 l hl => ?_) hn0 hn
  obtain ⟨j, hj, rfl⟩ := List.getElem_of_mem hl
  exact hq h2 j hj (by omega)
theorem Bs.ext {o : Own_} {A D2 : Heap} (h : Bs o N D) (hO : OH o A D) (hle : D.le D2) : Bs o (Heap.or N (Heap.new D D2)) D2 :=
 ⟨Heap.or_le (h.le.trans hle) (Heap.new_le _ _), fun c w hw => Heap.or_none (h.ap c w hw) ((Qiq hO hle).ap c w hw)⟩
end
end
section
open Go Go.Proofs
section
variable {C : Ctx} {B N H D : Heap} {s : Sl}
theorem IL.cut {ps : List Int} {hi : Nat} {b : Int} {K : Sl → Prop} (h : IL B s ps) (hc : s.len ≤ s.cap) (hb : b = (hi : Int)) (h2 : hi ≤ ps.length) (k : ∀ t : Sl, IL B t (ps.take hi) → K t) : slL s 0 b (s.cap : Int) 1 K := by
 have hl := SlIs.len h
 obtain ⟨xs, r1, r2, r3, r4, r5⟩ := h
 subst hb
 have hfl : ∀ l : List Int, (l.flatMap cI).length = l.length := fun l => by induction l with
  | nil => rfl
  | cons a l ih => rw [List.flatMap_cons, List.length_append, ih]; simp [cI]; omega
 have htk : ∀ (l : List Int) (n : Nat), (l.flatMap cI).take n = (l.take n).flatMap cI := fun l => by
  induction l with
  | nil => intro n; simp
  | cons a l ih =>
   intro n
   cases n with
   | zero => rfl
   | succ n => rw [List.flatMap_cons, List.take_succ_cons, List.flatMap_cons, ← ih]; simp [cI]
 refine ⟨by omega, by omega, by omega, by omega, _, rfl, k _ ⟨xs.take hi, ?_, ?_, ?_, ?_, fun i v y hv hy => ?_⟩⟩
 ·have := Qhi r1 (lo := 0) (hi := (hi : Int)) (mx := (s.cap : Int)) (z := 1) (by omega) (by omega) (by omega) (by first | (rw [hfl]; omega) | (rw [hfl]; simp))
  rw [← htk]
  have e2 : ((hi : Int) - 0).toNat * 1 = hi := by omega
  rw [e2] at this
  simpa using this
 ·dsimp only; rw [List.length_take]; omega
 ·rw [List.length_take, List.length_take, r3]
 ·rw [List.length_take]; omega
 ·rw [List.getElem?_take] at hv hy
  split at hv
  ·rename_i hlt
   rw [if_pos hlt] at hy
   exact r5 i v y hv hy
  ·cases hv
theorem VRow.cut {l : List V} {hi : Nat} {b : Int} {K : Sl → Prop} (h : VRow B s l) (hc : s.len ≤ s.cap) (hb : b = (hi : Int)) (h2 : hi ≤ l.length) (k : ∀ t : Sl, VRow B t (l.take hi) → K t) : slL s 0 b (s.cap : Int) 4 K := by
 have hl := h.len
 obtain ⟨xs, r1, r2, r3⟩ := h
 subst hb
 have htk : ∀ (l : List TV) (n : Nat), (l.flatMap Qa.c).take (n * 4) = (l.take n).flatMap Qa.c := fun l => by
  induction l with
  | nil => intro n; simp
  | cons a l ih =>
   intro n
   cases n with
   | zero => rfl
   | succ n =>
    rw [List.flatMap_cons, List.take_succ_cons, List.flatMap_cons, ← ih, Nat.add_mul, List.take_append, TV.c_len]
    rw [List.take_of_length_le (by rw [TV.c_len]; omega)]
    congr 2 <;> omega
 have hvs : ∀ (l : List V) (xs : List TV) (n : Nat), VsAre B l xs → VsAre B (l.take n) (xs.take n) := fun l => by
  induction l with
  | nil => intro xs n h; cases xs with
   | nil => simpa using h
   | cons x xs => exact h.elim
  | cons v l ih =>
   intro xs n h
   cases xs with
   | nil => exact h.elim
   | cons x xs =>
    cases n with
    | zero => trivial
    | succ n => exact ⟨h.1, ih xs n h.2⟩
 refine ⟨by omega, by omega, by omega, by omega, _, rfl, k _ ⟨xs.take hi, ?_, ?_, hvs l xs hi r3⟩⟩
 ·have := Qhi r1 (lo := 0) (hi := (hi : Int)) (mx := (s.cap : Int)) (z := 4) (by omega) (by omega) (by omega) (by rw [flat4]; omega)
  rw [← htk]
  have e2 : ((hi : Int) - 0).toNat * 4 = hi * 4 := by omega
  rw [e2] at this
  simpa using this
 ·dsimp only; rw [List.length_take]; omega
theorem QjA {row : List V} {ps : List Int} {vs : List V} {k : Nat} (h1 : k < ps.length) (h2 : k < vs.length) : picks row (ps.take (k + 1)) = some (vs.take (k + 1)) ↔ picks row (ps.take k) = some (vs.take k) ∧ pick row ps[k] = some vs[k] := by
 rw [List.take_add_one, List.getElem?_eq_getElem h1, Option.toList_some, Qd1, List.take_add_one, List.getElem?_eq_getElem h2, Option.toList_some]
 cases hq : picks row (ps.take k) with
 | none => simp
 | some q =>
  cases hp : pick row ps[k] with
  | none => simp
  | some v =>
   have hl := (QdJ hq).1
   simp only [Option.some.injEq]
   constructor
   ·intro h
    have := List.append_inj' h rfl
    exact ⟨this.1, by simpa using this.2⟩
   ·rintro ⟨rfl, rfl⟩; rfl
/-- does a row fit at a place? -/
def fitB (p : Int) (v : V) (r : List V) : Bool := match pick r p with
 | some w => mayV v && sameV w v
 | none => false
theorem Qi9 {p : Int} {v : V} {r : List V} (hm : mayR r = true) : fitB p v r = true ↔ pick r p = some v := by
 unfold fitB
 cases h : pick r p with
 | none => simp
 | some w =>
  simp only [Bool.and_eq_true, Qks, Option.some.injEq]
  refine ⟨fun h => h.2, fun e => ⟨?_, e⟩⟩
  subst e
  unfold pick at h
  split at h
  ·cases h
  ·exact QhO.1 hm w (List.mem_of_getElem? h)
theorem QjY {α : Type} {f : α → Bool} {l : List α} {i : Nat} (hi : i < l.length) (hf : f l[i] = true) : (l.filter f)[((l.take i).filter f).length]? = some l[i] ∧ ((l.take i).filter f).length < (l.filter f).length := by
 have e : l.filter f = (l.take i).filter f ++ l[i] :: (l.drop (i + 1)).filter f := by
  have : l = l.take i ++ l[i] :: l.drop (i + 1) := by rw [← List.drop_eq_getElem_cons hi, List.take_append_drop]
  conv => lhs; rw [this]
  rw [List.filter_append, List.filter_cons_of_pos hf]
 rw [e]
 constructor
 ·rw [List.getElem?_append_right (Nat.le_refl _), Nat.sub_self]; rfl
 ·simp
theorem Qgi {α : Type} {f : α → Bool} {l : List α} {i : Nat} (hi : i < l.length) : ((l.take (i + 1)).filter f).length = ((l.take i).filter f).length + (if f l[i] then 1 else 0) := by
 rw [List.take_add_one, List.getElem?_eq_getElem hi, Option.toList_some, List.filter_append, List.length_append]
 cases h : f l[i] <;> simp [h]
/-- the rows by fewer places, held against those by more -/
theorem QlI {s1 s2 sp sv : Sl} {T1 : List (List V)} {ps : List Int} {vs : List V} {k : Nat} {K0 : Heap → Prop} {K1 : Heap → Prop} (h1 : VRows N s1 T1) (h2 : VRows N s2 (T1.filter (fitB (ps.getD k 0) (vs.getD k (.mk 0 0 [] []))))) (hN : N.le H) (hp : IL B sp ps) (hv : VRow B sv vs) (hB : B.le H) (hk : k < ps.length) (hkv : k < vs.length)
 (hf : ∀ r ∈ T1, VBs r ∧ r.length ≤ 10000) (hvB : VBs vs) (hvz : ∀ v ∈ vs, vsize v ≤ 1000000) (hl : T1.length ≤ 1000000) (kk : K1 H) :
 lp (α := Int × Int) (0, 0) H (fun x84 J85 H86 => ift (decide ((x84.2 : Int) < (Sl.len s1 : Int))) (jn (α := Int) (fun x89 H90 => J85 (x89, (w .i64 (x84.2 + 1))) H90)
  (fun J88 => ixa sp (k : Int) fun p92 => ldI H86 .i64 (p92.1, p92.2 + ((k : Int) : Int).toNat * 1) fun x97 =>
   jn (α := Bool) (fun x100 H101 => ift x100 (jn (α := Bool) (fun x151 H152 => ift x151 (K0 H152) (J88 (w .i64 (x84.1 + 1)) H152))
    (fun J150 => dr H101 fun Hs154 => ift (decide ((x84.1 : Int) ≥ (Sl.len s2 : Int))) (J150 true H101) (ixa s2 x84.1 fun p157 => ldL Hs154 (p157.1, p157.2 + (x84.1 : Int).toNat * 1) fun x162 => ixa s1 x84.2 fun p164 => ldL Hs154 (p164.1, p164.2 + (x84.2 : Int).toNat * 1) fun x169 => QA C x162 x169 (fun r172 H173 => Heap.le Hs154 H173 ∧ J150 (!r172) H173) H101)))
    (J88 x84.1 H101))
   (fun J99 => dr H86 fun Hs103 => ift (decide ((x97 : Int) ≥ 0)) (ixa s1 x84.2 fun p106 => ldL Hs103 (p106.1, p106.2 + (x84.2 : Int).toNat * 1) fun x111 => ift (decide ((x97 : Int) < (Sl.len x111 : Int))) (ixa sv (k : Int) fun p114 => ldT Hs103 Qa.c (p114.1, p114.2 + ((k : Int) : Int).toNat * 4) fun x119 => QQ C x119 (fun r122 H123 => Heap.le Hs103 H123 ∧ ift ((r122 : Int) == 0)
    (ixa s1 x84.2 fun p125 => ldL Hs103 (p125.1, p125.2 + (x84.2 : Int).toNat * 1) fun x130 => ixa x130 x97 fun p132 => ldT Hs103 Qa.c (p132.1, p132.2 + (x97 : Int).toNat * 4) fun x137 => ixa sv (k : Int) fun p139 => ldT Hs103 Qa.c (p139.1, p139.2 + ((k : Int) : Int).toNat * 4) fun x144 => QK C x137 x144 (fun r147 H148 => Heap.le Hs103 H148 ∧ J99 r147 H148) H123)
    (J99 false H123)) H86) (J99 false H86)) (J99 false H86)))) (ift ((x84.1 : Int) != (Sl.len s2 : Int)) (K0 H86) (K1 H86))) := by
 rw [h1.len, h2.len]
 generalize hfd : fitB (ps.getD k 0) (vs.getD k (.mk 0 0 [] [])) = f at *
 refine ⟨fun z E => E = H ∧ ∃ i a : Nat, z.1 = (a : Int) ∧ z.2 = (i : Int) ∧ i ≤ T1.length ∧ a = ((T1.take i).filter f).length, fun z _ => T1.length - z.2.toNat, ⟨rfl, 0, 0, rfl, rfl, Nat.zero_le _, by simp⟩, ?_⟩
 rintro ⟨_, _⟩ E ⟨hE, i, a, rfl, rfl, hi, ha⟩
 have hE := hE.symm
 subst hE
 have hal : a ≤ i := by have h := List.length_filter_le f (T1.take i); rw [List.length_take] at h; omega
 refine ift.of (fun hlt => ?_) fun hlt => ?_
 ·have hil : i < T1.length := by have := of_decide_eq_true hlt; dsimp only at this; omega
  have hfr := hf _ (List.getElem_mem hil)
  have hst := Qgi (f := f) hil
  refine ⟨fun z F => F = H ∧ z = (((T1.take (i + 1)).filter f).length : Int), ?_, ?_⟩
  ·refine SlIs.fI hp hB (z := 1) (fun _ => rfl) (by omega) rfl hk (j := 0) (f := fun q => q) (fun _ => rfl) fun q hq => ?_
   subst hq
   have hpd : ps.getD k 0 = ps[k] := by simp [List.getD, List.getElem?_eq_getElem hk]
   have hvd : vs.getD k (.mk 0 0 [] []) = vs[k] := by simp [List.getD, List.getElem?_eq_getElem hkv]
   refine ⟨fun b F => F = H ∧ b = f T1[i], ?_, ?_⟩
   ·have hfv : f T1[i] = fitB ps[k] vs[k] T1[i] := by rw [← hfd, hpd, hvd]
    rw [hfv]
    unfold fitB pick
    refine ⟨H, Heap.le.refl _, ift.of (fun h0 => ?_) fun h0 => ⟨rfl, ?_⟩⟩
    ·have h0 := of_decide_eq_true h0
     rw [if_neg (by omega)]
     refine h1.ld hN rfl hil fun t ht => ?_
     rw [ht.len]
     refine ift.of (fun h3 => ?_) fun h3 => ⟨rfl, ?_⟩
     ·have h3 := of_decide_eq_true h3
      have hpl : ps[k].toNat < T1[i].length := by omega
      rw [List.getElem?_eq_getElem hpl]
      refine hv.ld hB rfl hkv fun y hy => ?_
      have hvk := hvz _ (List.getElem_mem hkv)
      refine Qef (hy.le hB) (hvB.mem (List.getElem_mem hkv)) (by omega) ⟨Heap.le.refl _, ?_⟩
      have hck : ((checkV vs[k] : Int) == 0) = mayV vs[k] := by unfold mayV; rfl
      rw [hck]
      refine ift.of (fun hm => ?_) fun hm => ⟨rfl, ?_⟩
      ·rw [hm]
       refine h1.ld hN rfl hil fun t2 ht2 => ?_
       refine ht2.ld hN (i := ps[k].toNat) (by omega) hpl fun y2 hy2 => ?_
       refine hv.ld hB rfl hkv fun y3 hy3 => ?_
       exact QjD (hy2.le hN) (hy3.le hB) (hfr.1.mem (List.getElem_mem hpl)) ⟨Heap.le.refl _, rfl, rfl⟩
      ·rw [hm]; rfl
     ·have h3 := of_decide_eq_false h3
      rw [List.getElem?_eq_none (by omega)]
    ·have h0 := of_decide_eq_false h0
     rw [if_pos (by omega)]
   ·rintro b F ⟨rfl, rfl⟩
    refine ift.of (fun hb => ?_) fun hb => ⟨rfl, ?_⟩
    ·obtain ⟨g1, g2⟩ := QjY hil hb
     rw [← ha] at g1 g2
     refine ⟨fun c G => G = F ∧ c = false, ?_, ?_⟩
     ·refine ⟨F, Heap.le.refl _, ift.of (fun h => ?_) fun _ => ?_⟩
      ·have := of_decide_eq_true h; dsimp only at this; omega
      ·refine h2.ld hN (i := a) rfl g2 fun t1 ht1 => ?_
       refine h1.ld hN rfl hil fun t2 ht2 => ?_
       have e : (T1.filter f)[a] = T1[i] := by
        rw [List.getElem?_eq_getElem g2] at g1; injection g1
       rw [e] at ht1
       refine Qfg (ht1.le hN) (ht2.le hN) (by omega) hfr.1 ⟨Heap.le.refl _, rfl, ?_⟩
       rw [Qd2.2 rfl]; rfl
     ·rintro c G ⟨rfl, rfl⟩
      refine Qd rfl ⟨rfl, ?_⟩
      rw [Qu (by dsimp only; omega) (by dsimp only; omega), hst, hb, ← ha]
      simp
    ·rw [hst, hb, ← ha]; simp
  ·rintro z F ⟨rfl, rfl⟩
   rw [Qu (by dsimp only; omega) (by dsimp only; omega)]
   exact ⟨⟨rfl, i + 1, _, rfl, by dsimp only; omega, by omega, rfl⟩, by first | omega | (dsimp only; omega)⟩
 ·have hie : i = T1.length := by have := of_decide_eq_false hlt; dsimp only at this; omega
  subst hie
  rw [List.take_length] at ha
  refine Qd ?_ kk
  dsimp only
  rw [ha]; simp
end
end
section
open Go Go.Proofs
def upTo (n : Nat) : List Int := (List.range n).map fun i : Nat => (i : Int)
theorem QiH (n : Nat) : upTo (n + 1) = upTo n ++ [(n : Int)] := by unfold upTo; rw [List.range_succ, List.map_append]; rfl
theorem Qfe (n : Nat) : (upTo n).length = n := by unfold upTo; simp
theorem Qfr {r : List V} : ∀ {n : Nat}, n ≤ r.length → picks r (upTo n) = some (r.take n)
 | 0, _ => rfl
 | n + 1, h => by
  rw [QiH, Qd1, Qfr (Nat.le_of_succ_le h)]
  have hp : pick r (n : Int) = some r[n] := by
   unfold pick
   rw [if_neg (by omega), Int.toNat_natCast, List.getElem?_eq_getElem (by omega)]
  rw [hp]
  simp only [Option.some.injEq]
  rw [List.take_add_one, List.getElem?_eq_getElem (by omega)]; rfl
theorem psUp {n : Nat} (h : n ≤ 10000) : PsOk (upTo n) := ⟨by rw [Qfe]; exact h, fun p hp => by
 unfold upTo at hp
 obtain ⟨i, hi, rfl⟩ := List.mem_map.1 hp
 have := List.mem_range.1 hi
 omega⟩
theorem nd_len' {α : Type} : ∀ {vs l : List α}, vs.Nodup → (∀ p ∈ vs, p ∈ l) → vs.length ≤ l.length
 | [], l, _, _ => Nat.zero_le _
 | p :: vs, l, h, hs => by
  obtain ⟨h1, h2⟩ := List.nodup_cons.1 h
  obtain ⟨a, b, e⟩ := List.append_of_mem (hs p (List.mem_cons_self ..))
  have := nd_len' (vs := vs) (l := a ++ b) h2 fun q hq => by
   have hq2 := hs q (List.mem_cons_of_mem _ hq)
   rw [e, List.mem_append, List.mem_cons] at hq2
   rcases hq2 with hq2 | rfl | hq2
   ·exact List.mem_append_left _ hq2
   ·exact absurd hq h1
   ·exact List.mem_append_right _ hq2
  rw [e]; simp only [List.length_append, List.length_cons] at this ⊢; omega
/-- rows as long as one, of those told: that one alone -/
theorem Qmp {T : List (List V)} {row : List V} (hn : T.Nodup) (hall : ∀ r ∈ T, r.length = row.length → r = row) : (T.filter fun r => decide (r.length = row.length)).length ≤ 1 ∧ ((T.filter fun r => decide (r.length = row.length)).length = 1 ↔ row ∈ T) := by
 have hsub : ∀ r ∈ (T.filter fun r => decide (r.length = row.length)), r = row := fun r hr => by
  obtain ⟨a, b⟩ := List.mem_filter.1 hr
  exact hall r a (of_decide_eq_true b)
 have hnf : (T.filter fun r => decide (r.length = row.length)).Nodup := hn.filter _
 have hmem : row ∈ T ↔ row ∈ (T.filter fun r => decide (r.length = row.length)) := by
  rw [List.mem_filter]; simp
 rw [hmem]
 generalize (T.filter fun r => decide (r.length = row.length)) = F at *
 match F, hsub, hnf with
 | [], _, _ => simp
 | [a], hs, _ =>
  have := hs a (List.mem_cons_self ..)
  simp [this]
 | a :: b :: l, hs, hn =>
  exfalso
  have h1 := hs a (List.mem_cons_self ..)
  have h2 := hs b (List.mem_cons_of_mem _ (List.mem_cons_self ..))
  have := (List.nodup_cons.1 hn).1
  rw [h1, h2] at this
  simp at this
section
variable {C : Ctx} {B N H D : Heap} {s : Sl}
/-- as many rows as long as one are counted -/
theorem QkN {s1 sr : Sl} {T rows : List (List V)} {i : Nat} {F : Bool → Heap → Prop} {K : Heap → Prop} (h1 : VRows N s1 T) (hN : N.le H) (hr : VRows B sr rows) (hB : B.le H) (hi : i < rows.length) (hTl : T.length ≤ 1000000) (hf : ∀ r ∈ T, VBs r ∧ r.length ≤ 10000) (hrb : VBs rows[i]) (hrl : rows[i].length ≤ 10000)
 (hall : ∀ r ∈ T, r.length = rows[i].length → r = rows[i]) (hn : T.Nodup) (hmay : rows[i] ∈ T ↔ mayR rows[i] = true) (hvz : ∀ v ∈ rows[i], vsize v ≤ 1000000) (k : K H) :
 lp (α := Int × Int) (0, 0) H (fun x204 J205 H206 => ift (decide ((x204.2 : Int) < (Sl.len s1 : Int))) (jn (α := Int) (fun x209 H210 => J205 (x209, (w .i64 (x204.2 + 1))) H210)
  (fun J208 => ixa s1 x204.2 fun p212 => ldL H206 (p212.1, p212.2 + (x204.2 : Int).toNat * 1) fun x217 => ixa sr (i : Int) fun p219 => ldL H206 (p219.1, p219.2 + ((i : Int) : Int).toNat * 1) fun x224 =>
   ift (((Sl.len x217 : Int) : Int) == (Sl.len x224 : Int)) (dr H206 fun Hs227 => ixa s1 x204.2 fun p229 => ldL Hs227 (p229.1, p229.2 + (x204.2 : Int).toNat * 1) fun x234 => ixa sr (i : Int) fun p236 => ldL Hs227 (p236.1, p236.2 + ((i : Int) : Int).toNat * 1) fun x241 => QA C x234 x241 (fun r244 H245 => Heap.le Hs227 H245 ∧ ift (!r244) (F false H245) (J208 (w .i64 (x204.1 + 1)) H245)) H206) (J208 x204.1 H206)))
  (ixa sr (i : Int) fun p247 => ldL H206 (p247.1, p247.2 + ((i : Int) : Int).toNat * 1) fun x252 => Qc3 C x252 (fun r254 H255 => ift ((!(((x204.1 : Int) == 1) == r254)) || (decide ((x204.1 : Int) > 1))) (F false H255) (K H255)) H206)) := by
 rw [h1.len]
 refine ⟨fun z E => E = H ∧ ∃ j a : Nat, z.1 = (a : Int) ∧ z.2 = (j : Int) ∧ j ≤ T.length ∧ a = ((T.take j).filter fun r => decide (r.length = rows[i].length)).length, fun z _ => T.length - z.2.toNat, ⟨rfl, 0, 0, rfl, rfl, Nat.zero_le _, by simp⟩, ?_⟩
 rintro ⟨_, _⟩ E ⟨hE, j, a, rfl, rfl, hj, ha⟩
 have hE := hE.symm
 subst hE
 have hal : a ≤ j := by have h := List.length_filter_le (fun r : List V => decide (r.length = rows[i].length)) (T.take j); rw [List.length_take] at h; omega
 refine ift.of (fun hlt => ?_) fun hlt => ?_
 ·have hjl : j < T.length := by have := of_decide_eq_true hlt; dsimp only at this; omega
  have hfr := hf _ (List.getElem_mem hjl)
  have hst := Qgi (f := fun r : List V => decide (r.length = rows[i].length)) hjl
  refine ⟨fun z F => F = H ∧ z = (((T.take (j + 1)).filter fun r => decide (r.length = rows[i].length)).length : Int), ?_, ?_⟩
  ·refine h1.ld hN rfl hjl fun t1 ht1 => hr.ld hB rfl hi fun t2 ht2 => ?_
   rw [ht1.len, ht2.len]
   refine ift.of (fun hl => ?_) fun hl => ⟨rfl, ?_⟩
   ·have hl : T[j].length = rows[i].length := by simp at hl; omega
    have he := hall _ (List.getElem_mem hjl) hl
    refine ⟨H, Heap.le.refl _, h1.ld hN rfl hjl fun t3 ht3 => hr.ld hB rfl hi fun t4 ht4 => ?_⟩
    refine Qfg (ht3.le hN) (ht4.le hB) (by omega) hfr.1 ⟨Heap.le.refl _, ?_⟩
    rw [Qd2.2 he]
    refine Qd rfl ⟨rfl, ?_⟩
    rw [Qu (by dsimp only; omega) (by dsimp only; omega), hst, if_pos (decide_eq_true hl), ← ha]; simp
   ·have hl : ¬ T[j].length = rows[i].length := by simp at hl; omega
    rw [hst, if_neg (by simpa using hl), ← ha]; simp
  ·rintro z F ⟨rfl, rfl⟩
   rw [Qu (by dsimp only; omega) (by dsimp only; omega)]
   exact ⟨⟨rfl, j + 1, _, rfl, by dsimp only; omega, by omega, rfl⟩, by first | omega | (dsimp only; omega)⟩
 ·have hje : j = T.length := by have := of_decide_eq_false hlt; dsimp only at this; omega
  subst hje
  rw [List.take_length] at ha
  obtain ⟨o1, o2⟩ := Qmp hn hall
  rw [← ha] at o1 o2
  refine hr.ld hB rfl hi fun t ht => ?_
  refine Qme (ht.le hB) (by omega) hrb (fun v hv => by have := hvz v hv; omega) ?_
  refine Qd ?_ k
  have h1 : (((a : Nat) : Int) == 1) = mayR rows[i] := by
   cases hm : mayR rows[i] with
   | true => have := o2.2 (hmay.2 hm); simp; omega
   | false =>
    have : ¬ a = 1 := fun e => by rw [hmay.1 (o2.1 e)] at hm; cases hm
    simp; omega
  dsimp only
  rw [h1]
  simp; omega
theorem Qg9 {l : List V} (h : okRow l) (n : Nat) : okRow (l.take n) := by
 refine ⟨Qi8 h.1 (fun v hv => List.mem_of_mem_take hv) (by have := h.1.2.1; rw [List.length_take]; omega), ?_⟩
 have hs : ∀ (l : List V) (n : Nat), vsizes (l.take n) ≤ vsizes l := fun l => by
  induction l with
  | nil => intro n; simp
  | cons v l ih =>
   intro n
   cases n with
   | zero => simp [vsizes]
   | succ n => have := ih n; simp only [List.take_succ_cons, vsizes]; omega
 have := hs l n
 have := h.2
 omega
theorem Qhr (hFm : FmtC C) {sr sp sv : Sl} {rows : List (List V)} {ps : List Int} {vs : List V} {K : Bool → Heap → Prop} (hr : VRows B sr rows) (hp : IL B sp ps) (hpc : sp.len ≤ sp.cap) (hpz : ∀ z ∈ ps, -9223372036854775808 ≤ z ∧ z ≤ 9223372036854775807) (hv : VRow B sv vs) (hvc : sv.len ≤ sv.cap) (hB : B.le H)
 (hbr : ∀ l ∈ rows, VBs l ∧ pVs l ≤ 1000000000000) (hbv : VBs vs ∧ pVs vs ≤ 1000000000000) (hl1 : rows.length ≤ 140737488355328) (k : ∀ H2, K true H2) : Qt C sr sp sv K H := by
 apply Qev
 unfold QbY
 refine Qjh hv hB hbv.2 fun n0 hn0 hn0b => ?_
 refine QkQ (n0 := n0) hr hB (fun l hl => (hbr l hl).2) hl1 (by omega) fun n1 i1 hn1 hn01 hn1b => ?_
 refine Qjs hFm fun H1 h1 => ?_
 refine ift.of (fun hc => Qjs hFm fun H2 _ => k H2) fun hc => ?_
 rw [hr.len, SlIs.len hp, hv.len] at hc
 simp only [Bool.not_true, Bool.false_or, Bool.or_eq_false_iff, decide_eq_false_iff_not] at hc
 obtain ⟨⟨⟨hc1, hc2⟩, hc3⟩, hc4⟩ := hc
 have okr : ∀ l ∈ rows, okRow l := fun l hl => Qje (hbr l hl).1 (by have := hn1 (by omega) l hl; omega)
 have okv : okRow vs := Qje hbv.1 (by have := hn0 (by omega); omega)
 have hB1 := hB.trans h1
 refine IX.new fun x o A D hD hno hnA hI => ?_
 have hBs : Bs o B D := ⟨hB1.trans hD, fun c w hw => hB1.none (hno c w hw)⟩
 refine Qkj hI hBs hr okr (by simp; omega) fun o1 A1 D1 R m1 hI1 hR hRl => ?_
 have hR : ∀ r, r ∈ R ↔ r ∈ rows ∧ mayR r = true := fun r => by rw [hR]; simp
 have hB2 := hBs.mv m1
 -- by fewer places and by more
 rw [SlIs.len hp]
 refine ⟨fun z E => ∃ (kk : Nat) (o : Own_) (A : Heap), z = (kk : Int) ∧ kk ≤ ps.length ∧ IX o A E x R ∧ Bs o B E, fun z _ => ps.length - z.toNat, ⟨0, o1, A1, rfl, Nat.zero_le _, hI1, hB2⟩, ?_⟩
 rintro _ E ⟨kk, o2, A2, rfl, hkk, hI2, hB3⟩
 refine ift.of (fun hlt => ?_) fun hlt => ?_
 ·have hkl : kk < ps.length := by have := of_decide_eq_true hlt; omega
  have hkv : kk < vs.length := by omega
  have hpt : ∀ n, PsOk (ps.take n) := fun n => ⟨by rw [List.length_take]; omega, fun p hp => hpz p (List.mem_of_mem_take hp)⟩
  refine ⟨B, hB3.le, IL.cut hp hpc rfl (by omega) fun t1 ht1 => hv.cut hvc rfl (by omega) fun t2 ht2 => ?_⟩
  have ok1 := Qg9 okv kk
  refine hI2.look hFm hB3 ht1 ⟨ht2, ok1.1, ok1.2⟩ (hpt kk) (by rw [List.length_take, List.length_take]; omega) fun o3 A3 D3 T1 s1 ys1 R1 H3 m3 hI3 hT1 hR1 => ?_
  have hB4 := (hB3.mv m3).up hT1.le
  refine ⟨hB4.le, B, hB4.le, ?_⟩
  rw [Qu (by omega) (by omega)]
  refine IL.cut hp hpc (hi := kk + 1) (by omega) (by omega) fun t3 ht3 => hv.cut hvc (hi := kk + 1) (by omega) (by omega) fun t4 ht4 => ?_
  have ok2 := Qg9 okv (kk + 1)
  have hI3' := hI3.up hT1.le
  have hN1 := hT1.bs hI3.oh
  refine hI3'.look hFm hB4 ht3 ⟨ht4, ok2.1, ok2.2⟩ (hpt (kk + 1)) (by rw [List.length_take, List.length_take]; omega) fun o4 A4 D4 T2 s2 ys2 R2 H4 m4 hI4 hT2 hR2 => ?_
  have hB5 := (hB4.mv m4).up hT2.le
  have hN2 := (hN1.mv m4).up hT2.le
  have hN3 := hT2.bs hI4.oh
  refine ⟨hB5.le, Qd rfl ?_⟩
  have hmR : ∀ r ∈ R, mayR r = true := fun r hr => (hI2.f r hr).2
  have hTT : T2 = T1.filter (fitB (ps.getD kk 0) (vs.getD kk (.mk 0 0 [] []))) := by
   have hpd : ps.getD kk 0 = ps[kk] := by simp [List.getD, List.getElem?_eq_getElem hkl]
   have hvd : vs.getD kk (.mk 0 0 [] []) = vs[kk] := by simp [List.getD, List.getElem?_eq_getElem hkv]
   rw [hpd, hvd]
   refine QhZ hT2.rise hT1.rise.filter fun r => ?_
   rw [hT2.mem, hR2, List.mem_filter, hT1.mem, hR1, QjA hkl hkv]
   constructor
   ·rintro ⟨a, b, c⟩; exact ⟨⟨a, b⟩, (Qi9 (hmR r a)).2 c⟩
   ·rintro ⟨⟨a, b⟩, c⟩; exact ⟨a, b, (Qi9 (hmR r a)).1 c⟩
  have hfT1 : ∀ r ∈ T1, VBs r ∧ r.length ≤ 10000 := fun r hr => by
   have := hI2.f r ((hR1 r).1 ((hT1.mem r).1 hr)).1
   exact ⟨this.1.1, this.1.2.1⟩
  have hle1 := hT1.perm.length_eq
  have hT1l : T1.length ≤ 1000000 := by
   have h5 : T1.length ≤ R.length := nd_len' hT1.rise.nodup fun r hr => ((hR1 r).1 ((hT1.mem r).1 hr)).1
   have := hI2.l; omega
  have rows2 := hT2.rows
  rw [hTT] at rows2
  refine QlI (N := (Heap.new D3 H3).or (Heap.new D4 H4)) (hT1.rows.le Heap.le_or) (rows2.le (Heap.le_or3 hN2.le hN3.le)) (Heap.or_le hN2.le hN3.le) hp hv hB5.le hkl hkv hfT1 hbv.1 (fun v hv => by have := QdX hv; have := okv.2; omega) hT1l ?_
  exact ⟨⟨kk + 1, o4, A4, by omega, by omega, hI4.up hT2.le, hB5⟩, by first | omega | (dsimp only; omega)⟩
 ·-- by all places of a row
  rw [hr.len]
  refine ⟨fun z E => ∃ (i : Nat) (o : Own_) (A : Heap), z = (i : Int) ∧ i ≤ rows.length ∧ IX o A E x R ∧ Bs o B E, fun z _ => rows.length - z.toNat, ⟨0, o2, A2, rfl, Nat.zero_le _, hI2, hB3⟩, ?_⟩
  rintro _ E ⟨i, o3, A3, rfl, hi, hI3, hB4⟩
  refine ift.of (fun hlt2 => ?_) fun _ => k E
  have hil : i < rows.length := by have := of_decide_eq_true hlt2; omega
  have hbi := hbr _ (List.getElem_mem hil)
  have oki := okr _ (List.getElem_mem hil)
  have hnl := oki.1.2.1
  refine ⟨fun z G => ∃ j : Nat, z.2 = (j : Int) ∧ j ≤ rows[i].length ∧ OwnF E G 1 z.1 ((upTo j).flatMap cI), fun z _ => rows[i].length - z.2.toNat, ⟨0, rfl, Nat.zero_le _, OwnF.nil E 1⟩, ?_⟩
  rintro ⟨s1, _⟩ G ⟨j, rfl, hj, hO⟩
  have hB5 := hB4.up hO.le
  have hfl : ∀ n, ((upTo n).flatMap cI).length = n := fun n => by
   have h5 : ∀ l : List Int, (l.flatMap cI).length = l.length := fun l => by induction l with
    | nil => rfl
    | cons a l ih => rw [List.flatMap_cons, List.length_append, ih]; simp [cI]; omega
   rw [h5, Qfe]
  have hs1 : s1.len = j := by have := hO.len; rw [hfl] at this; exact this
  refine hr.ld hB5.le rfl hil fun t ht => ?_
  rw [ht.len]
  refine ift.of (fun hlt3 => ?_) fun hlt3 => ?_
  ·have hjl : j < rows[i].length := by have := of_decide_eq_true hlt3; dsimp only at this; omega
   refine QcY (zc := [.int .i64 0]) hO rfl (by dsimp only; omega) (by dsimp only; omega) fun r2 G2 q1 q2 => ?_
   rw [Qu (by dsimp only; omega) (by dsimp only; omega)]
   refine ⟨⟨j + 1, by dsimp only; omega, by omega, ?_⟩, by first | omega | (dsimp only; omega)⟩
   rw [QiH, List.flatMap_append, List.flatMap_singleton]; exact q1
  ·have hje : j = rows[i].length := by have := of_decide_eq_false hlt3; dsimp only at this; omega
   subst hje
   refine hr.ld hB5.le rfl hil fun t2 ht2 => ?_
   have hIL : IL (Heap.or B (Heap.new E G)) s1 (upTo rows[i].length) := ⟨upTo rows[i].length, Qba (Heap.le_or3 hB5.le (Heap.new_le _ _)) hO.new.rdsl, by rw [Qfe]; exact hs1, rfl, by rw [Qfe]; omega, fun n v y hv hy => by rw [hv] at hy; injection hy with hy; exact hy.symm⟩
   have hB6 : Bs o3 (Heap.or B (Heap.new E G)) G := hB4.ext hI3.oh hO.le
   refine (hI3.up hO.le).look hFm hB6 hIL ⟨ht2.le Heap.le_or, oki.1, oki.2⟩ (psUp hnl) (Qfe _) fun o4 A4 D4 T s4 ys4 R4 H4 m4 hI4 hT4 hR4 => ?_
   have hB7 := (hB5.mv m4).up hT4.le
   refine Qd rfl ?_
   have hmR : ∀ r ∈ R, mayR r = true := fun r hr => (hI3.f r hr).2
   have hTR : ∀ r, r ∈ T ↔ r ∈ R ∧ picks r (upTo rows[i].length) = some rows[i] := fun r => by rw [hT4.mem, hR4]
   have hfT : ∀ r ∈ T, VBs r ∧ r.length ≤ 10000 := fun r hr => by
    have := hI3.f r ((hTR r).1 hr).1
    exact ⟨this.1.1, this.1.2.1⟩
   have hTl : T.length ≤ 1000000 := by
    have h5 : T.length ≤ R.length := nd_len' hT4.rise.nodup fun r hr => ((hTR r).1 hr).1
    have := hI3.l; omega
   refine QkN hT4.rows (Heap.new_le _ _) hr hB7.le hil hTl hfT hbi.1 hnl (fun r hr hl => ?_) hT4.rise.nodup ?_ (fun v hv => by have := QdX hv; have := oki.2; omega) ?_
   ·have := ((hTR r).1 hr).2
    rw [← hl, Qfr (Nat.le_refl _), List.take_length] at this
    injection this
   ·rw [hTR, hR]
    constructor
    ·exact fun h => h.1.2
    ·intro hm
     refine ⟨⟨List.getElem_mem hil, hm⟩, ?_⟩
     rw [Qfr (Nat.le_refl _), List.take_length]
   ·rw [Qu (by omega) (by omega)]
    exact ⟨⟨i + 1, o4, A4, by omega, by omega, hI4.up hT4.le, hB7⟩, by first | omega | (dsimp only; omega)⟩
end
end
section
open Go Go.Proofs
mutual
theorem QlU : ∀ v : V, pV v ≤ vbulk v
 | .mk k n s l => by
  have := Qf1 l
  simp only [pV, vbulk]; omega
theorem Qf1 : ∀ l : List V, pVs l ≤ vbulks l
 | [] => Nat.le_refl _
 | v :: l => by
  have := QlU v
  have := Qf1 l
  simp only [pVs, vbulks]; omega
end
section
variable {H : Type} {enc : TypeId × Value → H} {P : Program} {W : World}
theorem Qk7 {t tl tr : TypeId} (hT : ValT P t tl) (hr : P.underlying tr = some (.slice tl)) (hc : P.cellsOf tl = 1) {n : Nat} {cs : List Value} {x : DataW H × List MemPlace} (h : DataW.trod enc P W 0 (fun _ => true) true n tr cs = some x) (hs : sizeD x.1 ≤ 1048576) :
 ∃ (s : Sl) (ls : List (List V)), cs = [slv s] ∧ VRows (heapOf W) s ls ∧ (∀ l ∈ ls, VBs l ∧ vbulks l ≤ 1048576) ∧ ls.length ≤ 1048576 ∧ s.len ≤ s.cap := by
 obtain ⟨s, css, ys, m, hm, p0, p1, p2, p3, p4, p5, p6⟩ := QcQ hr (by rw [hc]; omega) h
 have key : ∀ (css : List (List Value)) (ys : List (DataW H × List MemPlace)), css.length = ys.length → (∀ y ∈ ys, sizeD y.1 ≤ 1048576) → (∀ (i : Nat) (c : List Value) (y : DataW H × List MemPlace), css[i]? = some c → ys[i]? = some y → DataW.trod enc P W 0 (fun _ => true) true m tl c = some y) →
  ∃ (xs : List Sl) (ls : List (List V)), css.flatten = xs.map slv ∧ css.length = xs.length ∧ xs.length = ls.length ∧ (∀ (i : Nat) (x : Sl) (l : List V), xs[i]? = some x → ls[i]? = some l → VRow (heapOf W) x l) ∧ ∀ l ∈ ls, VBs l ∧ vbulks l ≤ 1048576 := by
  intro css
  induction css with
  | nil => intro ys _ _ _; exact ⟨[], [], rfl, rfl, rfl, fun i x l hx => by simp at hx, fun l hl => by cases hl⟩
  | cons c css ih =>
   intro ys hl hy hh
   cases ys with
   | nil => simp at hl
   | cons y ys =>
    have h1 := hh 0 c y rfl rfl
    have hy1 := hy y (List.mem_cons_self ..)
    obtain ⟨s1, css1, ys1, m1, _, q0, q1, q2, q3, q4, q5, q6⟩ := QcQ hT.sl (by rw [hT.cells]; omega) h1
    obtain ⟨l, r1, r2, r3⟩ := Qh0 (H := H) hT q2 q3 q4 (m := m1) fun i c' y' hc' hy' => by
     obtain ⟨_, h5⟩ := q6 i c' y' hc' hy'
     have h6 := QbG (List.mem_map_of_mem (f := (·.1)) (List.mem_of_getElem? hy'))
     exact Qly hT m1 h5 (by omega)
    obtain ⟨xs, ls, k1, k2, k3, k4, k5⟩ := ih ys (by simpa using hl) (fun y' hy' => hy y' (List.mem_cons_of_mem _ hy')) fun i c' y' a b => hh (i + 1) c' y' (by simpa using a) (by simpa using b)
    refine ⟨s1 :: xs, l :: ls, by rw [List.flatten_cons, k1, q0]; rfl, by simp [k2], by simp [k3], fun i x l' hx hl' => ?_, fun l' hl' => ?_⟩
    ·cases i with
     | zero => simp at hx hl'; subst hx; subst hl'; exact r1
     | succ i => exact k4 i x l' (by simpa using hx) (by simpa using hl')
    ·rcases List.mem_cons.1 hl' with rfl | hl'
     ·exact ⟨r2, by omega⟩
     ·exact k5 l' hl'
 obtain ⟨xs, ls, k1, k2, k3, k4, k5⟩ := key css ys (by omega) (fun y hy => by
  have := QbG (List.mem_map_of_mem (f := (·.1)) hy)
  omega) fun i c y hc hy => (p6 i c y hc hy).2
 have hsl := Qft (ys.map (·.1))
 rw [List.length_map] at hsl
 exact ⟨s, ls, p0, ⟨xs, by rw [← k1]; exact p4, by omega, k3, k4⟩, k5, by omega, p1⟩
theorem QjH {t tl tr : TypeId} (hT : ValT P t tl) (hr : P.underlying tr = some (.slice tl)) (hc : P.cellsOf tl = 1) {base : Nat} {v : Value} {d : DataW H} {p : List MemPlace} (hv : Value.okWide P W .any base tr v) (h : DataW.Trod enc P W 0 (fun _ => true) true tr v d p) (hs : sizeD d ≤ 1048576) :
 ∃ (s : Sl) (ls : List (List V)), v = slv s ∧ VRows (heapOf W) s ls ∧ (∀ l ∈ ls, VBs l ∧ vbulks l ≤ 1048576) ∧ ls.length ≤ 1048576 ∧ s.len ≤ s.cap := by
 obtain ⟨a, len, c, rfl⟩ := WideShapes.okWide_slice hr hv
 obtain ⟨n, hn⟩ := h
 obtain ⟨s, ls, h1, h2⟩ := Qk7 hT hr hc hn hs
 exact ⟨s, ls, by simpa [Value.cells] using h1, h2⟩
theorem QkR {ti e : TypeId} (hti : P.underlying ti = some (.slice e)) (hte : P.underlying e = some (.int .i64)) (hc : P.cellsOf e = 1) {n : Nat} {cs : List Value} {x : DataW H × List MemPlace} (h : DataW.trod enc P W 0 (fun _ => true) true n ti cs = some x) (hs : sizeD x.1 ≤ 1048576) :
 ∃ (s : Sl) (l : List Int), cs = [slv s] ∧ IL (heapOf W) s l ∧ (∀ z ∈ l, -9223372036854775808 ≤ z ∧ z ≤ 9223372036854775807) ∧ l.length ≤ 1048576 ∧ s.len ≤ s.cap := by
 obtain ⟨s, css, ys, m, hm, p0, p1, p2, p3, p4, p5, p6⟩ := QcQ hti (by rw [hc]; omega) h
 have key : ∀ (css : List (List Value)) (ys : List (DataW H × List MemPlace)), css.length = ys.length → (∀ (i : Nat) (c : List Value) (y : DataW H × List MemPlace), css[i]? = some c → ys[i]? = some y → DataW.trod enc P W 0 (fun _ => true) true m e c = some y) →
  ∃ l : List Int, css.flatten = l.flatMap cI ∧ css.length = l.length ∧ ∀ z ∈ l, -9223372036854775808 ≤ z ∧ z ≤ 9223372036854775807 := by
  intro css
  induction css with
  | nil => intro ys _ _; exact ⟨[], rfl, rfl, fun z hz => by cases hz⟩
  | cons c css ih =>
   intro ys hl hh
   cases ys with
   | nil => simp at hl
   | cons y ys =>
    obtain ⟨z, z1, z2, z3⟩ := DataW.trod_int hte (hh 0 c y rfl rfl)
    obtain ⟨l, k1, k2, k3⟩ := ih ys (by simpa using hl) fun i c' y' a b => hh (i + 1) c' y' (by simpa using a) (by simpa using b)
    refine ⟨z :: l, by rw [List.flatten_cons, List.flatMap_cons, k1, z1]; rfl, by simp [k2], fun q hq => ?_⟩
    rcases List.mem_cons.1 hq with rfl | hq
    ·simpa [Lit.wf, IntKind.min, IntKind.max, IntKind.signed, IntKind.bits] using z3
    ·exact k3 q hq
 obtain ⟨l, k1, k2, k3⟩ := key css ys (by omega) fun i c y hc hy => (p6 i c y hc hy).2
 have hsl := Qft (ys.map (·.1))
 rw [List.length_map] at hsl
 refine ⟨s, l, p0, ⟨l, by rw [← k1]; exact p4, by omega, rfl, by omega, fun i v y hv hy => by rw [hv] at hy; injection hy with hy; exact hy.symm⟩, k3, by omega, p1⟩
theorem QjG {ti e : TypeId} (hti : P.underlying ti = some (.slice e)) (hte : P.underlying e = some (.int .i64)) (hc : P.cellsOf e = 1) {base : Nat} {v : Value} {d : DataW H} {p : List MemPlace} (hv : Value.okWide P W .any base ti v) (h : DataW.Trod enc P W 0 (fun _ => true) true ti v d p) (hs : sizeD d ≤ 1048576) :
 ∃ (s : Sl) (l : List Int), v = slv s ∧ IL (heapOf W) s l ∧ (∀ z ∈ l, -9223372036854775808 ≤ z ∧ z ≤ 9223372036854775807) ∧ l.length ≤ 1048576 ∧ s.len ≤ s.cap := by
 obtain ⟨a, len, c, rfl⟩ := WideShapes.okWide_slice hti hv
 obtain ⟨n, hn⟩ := h
 obtain ⟨s, ls, h1, h2⟩ := QkR hti hte hc hn hs
 exact ⟨s, ls, by simpa [Value.cells] using h1, h2⟩
theorem QjI {t tl : TypeId} (hT : ValT P t tl) {base : Nat} {v : Value} {d : DataW H} {p : List MemPlace} (hv : Value.okWide P W .any base tl v) (h : DataW.Trod enc P W 0 (fun _ => true) true tl v d p) (hs : sizeD d ≤ 1048576) :
 ∃ (s : Sl) (l : List V), v = slv s ∧ VRow (heapOf W) s l ∧ VBs l ∧ vbulks l ≤ 1048576 ∧ s.len ≤ s.cap := by
 obtain ⟨a, len, c, rfl⟩ := WideShapes.okWide_slice hT.sl hv
 obtain ⟨n, hn⟩ := h
 obtain ⟨s, css, ys, m', hm', p0, p1, p2, p3, p4, p5, p6⟩ := QcQ hT.sl (by rw [hT.cells]; omega) hn
 dsimp only at p5
 obtain ⟨l, r1, r2, r3⟩ := Qh0 (H := H) hT p2 p3 p4 (m := m') fun i c y hc hy => by
  obtain ⟨_, h5⟩ := p6 i c y hc hy
  have h6 := QbG (List.mem_map_of_mem (f := (·.1)) (List.mem_of_getElem? hy))
  exact Qly hT m' h5 (by omega)
 refine ⟨s, l, ?_, r1, r2, by omega, p1⟩
 simpa [Value.cells] using p0
end
end
section
open Go Go.Proofs
theorem QgL {C : Ctx} {H : Heap} (hFm : FmtC C) {sr sp sv : Sl} {rows : List (List V)} {ps : List Int} {vs : List V} (hr : VRows H sr rows) (hbr : ∀ l ∈ rows, VBs l ∧ vbulks l ≤ 1048576) (hl1 : rows.length ≤ 1048576) (hp : IL H sp ps) (hpz : ∀ z ∈ ps, -9223372036854775808 ≤ z ∧ z ≤ 9223372036854775807) (hpc : sp.len ≤ sp.cap) (hv : VRow H sv vs) (hvb : VBs vs) (hvl : vbulks vs ≤ 1048576) (hvc : sv.len ≤ sv.cap) : Qt C sr sp sv (fun r _ => r = true) H :=
 Qhr hFm hr hp hpc hpz hv hvc (Heap.le.refl _) (fun l hl => ⟨(hbr l hl).1, by have := (hbr l hl).2; have := Qf1 l; omega⟩) ⟨hvb, by have := Qf1 vs; omega⟩ (by omega) fun _ => rfl
end
end Sx
end
noncomputable section
set_option linter.unusedVariables false
namespace Go.Proofs.YtjafihegefejdaaGreatDoor
open Sx
mutual
theorem Qi0 {H : Type} : ∀ (d : DataW H), sizeD d ≤ Rows.uptoBulk d
 | .lit l => by cases l <;> simp [sizeD, Rows.uptoBulk]
 | .nil => by simp [sizeD, Rows.uptoBulk]
 | .ptr d => by have := Qi0 d; simp only [sizeD, Rows.uptoBulk]; omega
 | .slice e s => by have := Qfd e; have := Qfd s; simp only [sizeD, Rows.uptoBulk]; omega
 | .agg p => by have := Qfd p; simp only [sizeD, Rows.uptoBulk]; omega
 | .iface _ d => by have := Qi0 d; simp only [sizeD, Rows.uptoBulk]; omega
 | .map _ => by simp [sizeD, Rows.uptoBulk]
 | .held _ => by simp [sizeD, Rows.uptoBulk]
theorem Qfd {H : Type} : ∀ (l : List (DataW H)), sizeDs l ≤ Rows.uptoBulkAll l
 | [] => by simp [sizeDs, Rows.uptoBulkAll]
 | d :: r => by have := Qi0 d; have := Qfd r; simp only [sizeDs, Rows.uptoBulkAll]; omega
end
theorem Qh2 {H : Type} {ds : List (DataW H)} (hk : Rows.uptoSmall H ds = true) {d : DataW H} (hd : d ∈ ds) : sizeD d ≤ 1048576 := by
 have h : Rows.uptoBulkAll ds ≤ 1048576 := of_decide_eq_true hk
 have h1 := Qfd ds
 have h2 := QbG hd
 omega
end Go.Proofs.YtjafihegefejdaaGreatDoor
namespace Sx
open Go
end Sx
end

noncomputable section

end

