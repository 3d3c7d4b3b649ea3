/-
  Texts of this family, one behind the other: IxJ, IxN, IxL, IxM, IxW, IxV, IxU, IxQ, IxR1, IxR2, IxC, IxZ, IxHN, RowINames.
-/
import Derived.Test.YtjafihegefejdaaGreatDoorAN3
import Derived.Lib.ItoaLen
noncomputable section
set_option linter.unusedVariables false
set_option linter.unusedSimpArgs false
set_option maxRecDepth 10000
namespace Sx
section
open Go Go.Proofs
def bk (x : Str) : Str := 32 :: x
def jS : List Str → Str
 | [] => []
 | a :: l => a ++ l.flatMap bk
theorem Qkx : ∀ ps : List Int, nmOf ps = jS (ps.map Lib.itoa)
 | [] => rfl
 | p :: ps => by simp only [nmOf, List.map_cons, jS, List.flatMap_map]; rfl
def cS (x : Str) : List Value := [sv x]
def SL (A : Heap) := SlIs (fun v x : Str => x = v) cS A
theorem SL.tail {A : Heap} {s : Sl} {a : Str} {l : List Str} {K : Sl → Prop} (h : SL A s (a :: l)) (hc : s.len ≤ s.cap) (hl : l ≠ []) (k : ∀ t, SL A t l → K t) : slL s 1 (s.len : Int) (s.cap : Int) 1 K := by
 have hlen := SlIs.len h
 have hl0 : 0 < l.length := List.length_pos_iff.2 hl
 simp only [List.length_cons] at hlen
 refine ⟨by omega, by omega, by omega, Int.le_refl _, _, rfl, k _ ?_⟩
 obtain ⟨xs, h1, h2, h3, h4, h5⟩ := h
 cases xs with
 | nil => simp at h3
 | cons x xs =>
  rcases h1 with h1 | ⟨hx, p, hp, hr⟩
  ·simp [cS] at h1
  ·have hne : ¬ ((s.cap : Int) = 1) := by omega
   refine ⟨xs, .inr ⟨?_, (p.1, p.2 + 1), ?_, ?_⟩, ?_, ?_, ?_, ?_⟩
   ·simp only; rw [if_neg (by simp; omega)]
   ·simp only; rw [if_neg hne, hp]; rfl
   ·rw [List.flatMap_cons] at hr
    exact hr.2
   ·simp only [List.length_cons] at h2 ⊢; omega
   ·simpa using h3
   ·simp only [List.length_cons] at h4 ⊢; omega
   ·intro i v y hv hy
    exact h5 (i + 1) v y (by simpa using hv) (by simpa using hy)
theorem QkF {m : Int} (h1 : 1 ≤ m) (h2 : m ≤ 1000000) : 2 ≤ Int.tdiv 9223372036854775807 m ∧ Int.tdiv 9223372036854775807 m ≤ 9223372036854775807 := by
 rw [Int.tdiv_eq_ediv_of_nonneg (by omega)]
 refine ⟨Int.le_ediv_of_mul_le (by omega) (by omega), Int.ediv_le_self _ (by omega)⟩
theorem Qjk {l : List Str} {i : Nat} (h : i < l.length) (f : Str → Str) : (l.take (i + 1)).flatMap f = (l.take i).flatMap f ++ f l[i] := by
 rw [List.take_add_one, List.getElem?_eq_getElem h, Option.toList_some, List.flatMap_append, List.flatMap_singleton]
theorem QjF {l : List Str} {z : Nat} {f : Str → Str} (h : ∀ x ∈ l, (f x).length ≤ z) : (l.flatMap f).length ≤ l.length * z := by
 induction l with
 | nil => simp
 | cons a l ih =>
  have h1 := h a (List.mem_cons_self ..)
  have h2 := ih fun x hx => h x (List.mem_cons_of_mem _ hx)
  rw [List.flatMap_cons, List.length_append, List.length_cons, Nat.add_mul]; omega
theorem Qkr {C : Ctx} {A H : Heap} {s : Sl} {ns : List Str} {K : Str → Heap → Prop} (h : SL A s ns) (hA : A.le H) (hc : s.len ≤ s.cap) (hn : ns.length ≤ 10000) (hz : ∀ x ∈ ns, x.length ≤ 100) (k : ∀ H2, H.le H2 → K (jS ns) H2) : QcB C s [32] K H := by
 apply QfG
 unfold QdQ
 have hlen := SlIs.len h
 refine ift.of (fun h0 => ?_) fun h0 => ift.of (fun h1 => ?_) fun h1 => ?_
 ·have : ns = [] := List.length_eq_zero_iff.1 (by simp at h0; omega)
  subst this; exact k H (Heap.le.refl _)
 ·have hl : ns.length = 1 := by simp at h1; omega
  match ns, hl with
  | [a], _ =>
   refine SlIs.fS h hA (i := 0) (j := 0) (z := 1) (fun _ => rfl) (by omega) rfl (by simp) (f := fun y => y) (fun y => rfl) fun y hy => ?_
   subst hy
   have := k H (Heap.le.refl _)
   simpa [jS] using this
 ·have hl2 : 2 ≤ ns.length := by
   have a1 : ns.length ≠ 0 := fun e => by rw [hlen, e] at h0; simp at h0
   have a2 : ns.length ≠ 1 := fun e => by rw [hlen, e] at h1; simp at h1
   omega
  have hsl : s.len = ns.length := hlen
  obtain ⟨a, l, rfl⟩ : ∃ a l, ns = a :: l := by cases ns with
   | nil => simp at hl2
   | cons a l => exact ⟨a, l, rfl⟩
  have hlne : l ≠ [] := fun e => by subst e; simp at hl2
  simp only [List.length_cons] at hsl hn hl2
  refine ⟨fun x B => x = ((l.length : Nat) : Int) ∧ B = H, ?_, ?_⟩
  ·have e1 : w .i64 ((s.len : Int) - 1) = (l.length : Int) := by rw [Qac (by omega) (by omega)]; omega
   rw [e1]
   refine Qq (by simp) ⟨by omega, ?_⟩
   obtain ⟨t1, t2⟩ := QkF (m := (l.length : Int)) (by omega) (by omega)
   rw [Qac (by omega) (by omega)]
   refine Qh (decide_eq_false (by simp; omega)) ⟨?_, rfl⟩
   have e2 : w .i64 ((([32] : Str).length : Int) * (l.length : Int)) = (l.length : Int) := by
    rw [Qac (by simp) (by simp; omega)]; simp
   rw [e2, Qac (by omega) (by omega)]; omega
  ·rintro x0 B0 ⟨rfl, e0⟩
   have e0 := e0.symm
   subst e0
   refine ⟨fun y B => B = H ∧ ∃ i m : Nat, y.2 = (i : Int) ∧ i ≤ l.length + 1 ∧ y.1 = (m : Int) ∧ m ≤ l.length + i * 100, fun y _ => l.length + 1 - y.2.toNat, ⟨rfl, 0, l.length, rfl, by omega, rfl, by omega⟩, ?_⟩
   rintro ⟨y1, y2⟩ B0 ⟨e0, i, m, rfl, hi, rfl, hm⟩
   have e0 := e0.symm
   subst e0
   refine ift.of (fun hlt => ?_) fun hlt => ?_
   ·have hil : i < l.length + 1 := by have := of_decide_eq_true hlt; dsimp only at this; omega
    refine SlIs.fS h hA (i := i) (j := 0) (z := 1) (fun _ => rfl) (by omega) rfl (by simpa using hil) (f := fun y => y) (fun y => rfl) fun y hy => ?_
    have hyz : y.length ≤ 100 := by rw [hy]; exact hz _ (List.getElem_mem _)
    refine Qh (decide_eq_false ?_) ⟨⟨rfl, i + 1, m + y.length, ?_, by omega, ?_, by omega⟩, ?_⟩
    ·dsimp only
     rw [Qac (by omega) (by omega)]; omega
    ·dsimp only; rw [Qac (by omega) (by omega)]; omega
    ·dsimp only; rw [Qac (by omega) (by omega)]; omega
    ·dsimp only; rw [Qac (by omega) (by omega)]; omega
   ·intro b nb
    have lb := Heap.le_put nb (g := .trow 84 0 [pv none, slv Sl.nil]) (m := true)
    refine Qjr (Heap.put_same ..) (by omega) ?_
    have hbase : H.le ((H.put b (.trow 84 0 [pv none, slv Sl.nil])).put b (Bd [])) := lb.put _ _ nb
    have hib : IsB tyB tyE ((H.put b (.trow 84 0 [pv none, slv Sl.nil])).put b (Bd [])) b [] := IsB.put
    generalize (H.put b (.trow 84 0 [pv none, slv Sl.nil])).put b (Bd []) = E at *
    refine SlIs.fS h (hA.trans hbase) (i := 0) (j := 0) (z := 1) (fun _ => rfl) (by omega) rfl (by simp) (f := fun y => y) (fun y => rfl) fun y hy => ?_
    have hya : y = a := hy
    subst hya
    have hy100 : y.length ≤ 100 := hz _ (List.mem_cons_self ..)
    refine Qcv hib (by simp; omega) ?_
    refine SL.tail h hc hlne fun t ht => ?_
    have hE1 : H.le (E.put b (Bd ([] ++ y))) := hbase.put _ _ nb
    have hI1 : IsB tyB tyE (E.put b (Bd ([] ++ y))) b y := IsB.put
    have hfl : ∀ j, ((l.take j).flatMap bk).length ≤ 1010000 := fun j => by
     have h1 := QjF (l := l.take j) (f := bk) (z := 101) fun x hx => by
      have := hz x (List.mem_cons_of_mem _ (List.mem_of_mem_take hx))
      simp only [bk, List.length_cons]; omega
     have h2 : (l.take j).length ≤ 10000 := by rw [List.length_take]; omega
     have := Nat.mul_le_mul_right 101 h2
     omega
    refine ⟨fun x B => ∃ j : Nat, x = (j : Int) ∧ j ≤ l.length ∧ H.le B ∧ IsB tyB tyE B b (y ++ (l.take j).flatMap bk), fun x _ => l.length - x.toNat, ⟨0, rfl, Nat.zero_le _, hE1, by simpa using hI1⟩, ?_⟩
    rintro _ B ⟨j, rfl, hj, hB, hI⟩
    have htl := SlIs.len ht
    have hf := hfl j
    refine ift.of (fun hlt => ?_) fun hlt => ?_
    ·have hjl : j < l.length := by have := of_decide_eq_true hlt; omega
     refine SlIs.fS ht (hA.trans hB) (i := j) (j := 0) (z := 1) (fun _ => rfl) (by omega) rfl hjl (f := fun y => y) (fun y => rfl) fun q hq => ?_
     have hq100 : q.length ≤ 100 := by rw [hq]; exact hz _ (List.mem_cons_of_mem _ (List.getElem_mem _))
     refine Qcv hI (by simp only [List.length_append, List.length_cons, List.length_nil]; omega) ?_
     refine Qcv IsB.put (by simp only [List.length_append, List.length_cons, List.length_nil]; omega) ?_
     refine ⟨⟨j + 1, ?_, by omega, (hB.put _ _ nb).put _ _ nb, ?_⟩, ?_⟩
     ·rw [Qac (by omega) (by omega)]; omega
     ·rw [Qjk hjl, ← hq]
      have : (y ++ (List.take j l).flatMap bk ++ [32] ++ q) = y ++ ((List.take j l).flatMap bk ++ bk q) := by simp [bk]
      rw [← this]; exact IsB.put
     ·dsimp only; rw [Qac (by omega) (by omega)]; omega
    ·have hje : j = l.length := by have := of_decide_eq_false hlt; omega
     subst hje
     rw [List.take_length] at hI hf
     refine QiA hI (by simp only [List.length_append]; omega) (k _ (hB.put _ _ nb))
end
section
open Go Go.Proofs
theorem split32 : ∀ {a b x y : Str}, (∀ c ∈ a, c ≠ 32) → (∀ c ∈ b, c ≠ 32) → (∀ c, x.head? = some c → c = 32) → (∀ c, y.head? = some c → c = 32) → a ++ x = b ++ y → a = b ∧ x = y
 | [], [], x, y, _, _, _, _, h => ⟨rfl, h⟩
 | [], d :: b, x, y, _, hb, hx, _, h => absurd (hx d (by rw [List.nil_append] at h; rw [h]; rfl)) (hb d (List.mem_cons_self ..))
 | c :: a, [], x, y, ha, _, _, hy, h => absurd (hy c (by rw [List.nil_append] at h; rw [← h]; rfl)) (ha c (List.mem_cons_self ..))
 | c :: a, d :: b, x, y, ha, hb, hx, hy, h => by
  simp only [List.cons_append, List.cons.injEq] at h
  obtain ⟨h1, h2⟩ := split32 (fun q hq => ha q (List.mem_cons_of_mem _ hq)) (fun q hq => hb q (List.mem_cons_of_mem _ hq)) hx hy h.2
  exact ⟨by rw [h.1, h1], h2⟩
theorem QgY {n : Int} {c : UInt8} (h : c ∈ Lib.itoa n) : c ≠ 32 := fun e => by
 subst e
 rcases QjG h with h | h
 ·exact absurd h (by decide)
 ·exact absurd h (by decide)
def nmT (l : List Int) : Str := l.flatMap fun q => 32 :: Lib.itoa q
theorem Qfz (l : List Int) (c : UInt8) (h : (nmT l).head? = some c) : c = 32 := by
 cases l with
 | nil => cases h
 | cons a l => simp only [nmT, List.flatMap_cons, List.cons_append, List.head?_cons, Option.some.injEq] at h; exact h.symm
theorem QiZ : ∀ {l m : List Int}, nmT l = nmT m → l = m
 | [], [], _ => rfl
 | [], b :: m, h => by simp [nmT] at h
 | a :: l, [], h => by simp [nmT] at h
 | a :: l, b :: m, h => by
  have e : ∀ (a : Int) (l : List Int), nmT (a :: l) = 32 :: (Lib.itoa a ++ nmT l) := fun a l => by simp [nmT]
  rw [e, e] at h
  injection h with _ h
  obtain ⟨h1, h2⟩ := split32 (fun c hc => QgY hc) (fun c hc => QgY hc) (Qfz l) (Qfz m) h
  rw [Qh6 h1, QiZ h2]
theorem QjK {l m : List Int} (h : nmOf l = nmOf m) : l = m := by
 have e : ∀ (a : Int) (l : List Int), nmOf (a :: l) = Lib.itoa a ++ nmT l := fun a l => rfl
 cases l with
 | nil => cases m with
  | nil => rfl
  | cons b m =>
   rw [e] at h
   have := congrArg List.length h
   have h2 := List.length_pos_iff.2 (QiU b)
   rw [List.length_append] at this
   change 0 = _ at this
   omega
 | cons a l => cases m with
  | nil =>
   rw [e] at h
   have := congrArg List.length h
   simp [nmOf] at this; exact absurd this.1 (QiU a)
  | cons b m =>
   rw [e, e] at h
   obtain ⟨h1, h2⟩ := split32 (fun c hc => QgY hc) (fun c hc => QgY hc) (Qfz l) (Qfz m) h
   rw [Qh6 h1, QiZ h2]
section
variable {C : Ctx} {A H H2 : Heap}
theorem OwnF.new {z : Nat} {s : Sl} {cs : List Value} (h : OwnF H H2 z s cs) : Own (Heap.new H H2) z s cs := by
 obtain ⟨h1, ⟨q1, q2, q3, q4⟩, h3⟩ := h
 refine ⟨q1, q2, q3, ?_⟩
 rcases q4 with q4 | ⟨b, sp, r1, r2, r3⟩
 ·exact .inl q4
 ·exact .inr ⟨b, sp, r1, Heap.new_some r2 (h3 _ r1), r3⟩
theorem Qkk {H0 H : Heap} {zc : List Value} {bytes : Nat} {s t : Sl} {cs ys : List Value} {K : Sl → Heap → Prop} (h : OwnF H0 H zc.length s cs) (ht : rdsl H t ys) (hy : ys.length = t.len * zc.length) (h1 : ∀ u ∈ ys, u.oneCell' = true)
 (hb : (s.len + t.len) * bytes ≤ 140737488355328) (h63 : s.len + t.len ≤ 9223372036854775807) (k : ∀ r H2, OwnF H0 H2 zc.length r (cs ++ ys) → r.len = s.len + t.len → K r H2) : apS zc bytes s t K H :=
 ⟨ys, ht, h1, QdX h hy hb h63 k⟩
theorem QiD {t : Sl} {ps : List Int} {K : Sl → Heap → Prop} (h : IL A t ps) (hA : A.le H) (hn : ps.length ≤ 10000) (k : ∀ t2 H2, H.le H2 → IL (Heap.new H H2) t2 ps → K t2 H2) : QV C t K H := by
 apply QcZ
 unfold Qbi
 have hlen := SlIs.len h
 obtain ⟨xs, h1, h2, h3, h4, h5⟩ := h
 have hfl : (xs.flatMap cI).length = xs.length := by
  have : ∀ l : List Int, (l.flatMap cI).length = l.length := fun l => by induction l with
   | nil => rfl
   | cons a l ih => rw [List.flatMap_cons, List.length_append, ih]; simp [cI]; omega
  exact this xs
 refine ift.of (fun hnil => ?_) fun hnil => ?_
 ·have hps : ps = [] := by
   rcases h1 with h1 | ⟨hx, p, hp, _⟩
   ·have : xs.length = 0 := by rw [← hfl, h1]; rfl
    exact List.length_eq_zero_iff.1 (by omega)
   ·unfold Sl.isNil at hnil; rw [hp] at hnil; cases hnil
  subst hps
  exact k Sl.nil H (Heap.le.refl _) ⟨[], .inl rfl, rfl, rfl, Nat.zero_le _, fun i v y hv => by simp at hv⟩
 ·intro b nb
  have lb := Heap.le_put nb (g := .row []) (m := true)
  refine Qkk (H0 := H) (zc := [.int .i64 0]) (cs := []) (ys := xs.flatMap cI) ⟨lb, ⟨by simp, rfl, Nat.le_refl _, .inr ⟨b, [], rfl, Heap.put_same .., by simp⟩⟩, fun q hq => (by simp only [Option.some.injEq] at hq; subst hq; exact nb)⟩ (QbW (hA.trans lb) h1) (by rw [hfl]; simp; omega) (fun u hu => ?_) (by dsimp only; omega) (by dsimp only; omega) fun r H2 q1 q2 => ?_
  ·obtain ⟨x, _, hx⟩ := List.mem_flatMap.1 hu
   simp only [cI, List.mem_singleton] at hx
   subst hx; rfl
  ·refine k r H2 q1.le ⟨xs, by simpa using q1.new.rdsl, by rw [q2]; dsimp only; omega, h3, h4, h5⟩
end
end
section
open Go Go.Proofs
section
variable {C : Ctx} {o o2 : Own_} {A B H H2 : Heap} {n : Str} {x m g b q : Nat} {L : List (Str × Option (Nat × Nat))} {LQ : List (Str × Option Nat)} {R : List (List V)} {Rb : Str → List (List V)} {ps : List Int}
theorem IxP.own (h : IxP o A H x m g L R Rb) (hO : OH o2 A H) (hup : ∀ c w, o c = some w → o2 c = some w) : IxP o2 A H x m g L R Rb := by
 refine ⟨hO, h.hx, hup _ _ h.om, hup _ _ h.og, h.rm, h.mg, fun p hp => ?_⟩
 obtain ⟨b, ps, q1, q2, q3, q4⟩ := h.bs p hp
 exact ⟨b, ps, q1, q2, q3, q4.keep fun c w hc _ => ⟨hup c w hc, rfl⟩⟩
theorem IxP.chgN (h : IxP o A H x m g L R Rb) (hc : Chg (fun w => w.of = some n) o H o2 H2) (hn : ∀ p ∈ L, p.1 ≠ n) : IxP o2 A H2 x m g L R Rb := by
 have hkp : ∀ c w e, o c = some w → w.of ≠ some n → H c = some e → H2 c = some e := fun c w e hw hne he => hc.kp c e he fun w' hw' => by rw [hw] at hw'; injection hw' with hw'; subst hw'; exact hne
 obtain ⟨g1, hg1⟩ := h.rm.isS
 obtain ⟨es, ck, hm⟩ := h.mg
 refine ⟨h.oh.chg hc, h.hx, hc.up _ _ h.om, hc.up _ _ h.og, h.rm.same ?_, MapS.same (l := L) ⟨es, ck, hm⟩ ?_, fun p hp => ?_⟩
 ·rw [hg1]; exact hkp _ _ _ h.om (by intro e; cases e) hg1
 ·rw [hm.at_]; exact hkp _ _ _ h.og (by intro e; cases e) hm.at_
 ·obtain ⟨b, ps, q1, q2, q3, q4⟩ := h.bs p hp
  exact ⟨b, ps, q1, q2, q3, hc.by_ q4 fun w hw e => hn p hp (by rw [hw] at e; injection e with e; exact e.symm)⟩
/-- all rows put to new places -/
theorem Qk1 {K : Heap → Prop} {t : Nat} (h : IxP o A H x m g L R (cR R)) (hB : By o A H n ps b []) (hps : PsOk ps) (hF : Fine R) (hn : R.Nodup) (hnm : ∀ p ∈ L, p.1 ≠ n)
 (k : ∀ o2 D, Chg (fun w => w.of = some n) o H o2 D → IxP o2 A D x m g L R (cR R) → By o2 A D n ps b R → K D) :
 rgM slv (some m) (fun b46 H47 => lp (α := Unit) () H47 fun x48 J49 H50 => nxB (enc := slv) b46 (fun b51 H52 => ift b51 (enM slv b46 (fun k54 x55 => Q9 C (some (b, 0)) k54 x55 (fun H57 => J49 () H57) H52) H52) (K H52)) H50) H := by
 obtain ⟨l, h1, h2, h3⟩ := h.rm
 refine .inr ⟨m, l, rfl, h1, fun it ob hit hI => ?_⟩
 have hle := Heap.le_put hit (g := .obj ob) (m := true)
 have hAit : A it = none := h.oh.le.none hit
 refine ⟨fun _ D => ∃ o2 vs ls, Chg (fun w => w.of = some n) o H o2 D ∧ It slv D it m l vs ∧ (∀ w, o2 it = some w → False) ∧ OH o2 A D ∧ By o2 A D n ps b ls ∧ ls.map keyB = vs.map (fun p => p.1) ∧ (∀ r ∈ ls, r ∈ R), fun _ D => l.length - itN D it, ⟨o, [], [], Chg.of_le hle, hI, h.oh.no hit, h.oh.up hle, hB.keep fun c w hc _ => ⟨hc, (h.oh.eq (P := fun _ => True) hle hc)⟩, rfl, fun r hr => by cases hr⟩, ?_⟩
 rintro _ D ⟨o2, vs, ls, hc, hIt, hio, hO, hBy, hk, hR⟩
 refine .inr ⟨m, l, vs, hIt, fun hall => ?_, fun p hp hnv ob2 hI2 => ?_⟩
 ·have hperm : ls.Perm R := by
   refine Qfd hF hn hR ?_
   rw [hk]
   refine List.Perm.trans ?_ (RM.perm ⟨l, h1, h2, h3⟩ hn hF h1 h2 h3)
   refine (List.perm_ext_iff_of_nodup ?_ ?_).2 fun q => ?_
   ·rw [List.Nodup, List.pairwise_map]; exact hIt.nd
   ·rw [List.Nodup, List.pairwise_map]; exact h1.is.nd
   ·constructor
    ·intro hq
     obtain ⟨p, hp, e⟩ := List.mem_map.1 hq
     exact List.mem_map.2 ⟨p, hIt.sub p hp, e⟩
    ·intro hq
     obtain ⟨p, hp, e⟩ := List.mem_map.1 hq
     exact List.mem_map.2 ⟨p, hall p hp, e⟩
  exact Qh rfl (k o2 D hc (h.chgN hc hnm) (hBy.congr fun r => hperm.mem_iff))
 ·obtain ⟨r, hr, hpk, hv⟩ := h2 p hp
  refine Qq rfl ⟨p.1, p.2, ⟨m, l, vs, hI2⟩, ?_⟩
  have hc2 := hc.tmp (g := .obj ob2) (m := true) hit hio
  have hne : ∀ c w, o2 c = some w → c ≠ it := fun c w hw e => hio w (by rw [← e]; exact hw)
  have hO2 : OH o2 A (D.put it (.obj ob2)) := ⟨fun c e hc3 => by
   have : c ≠ it := fun e' => by rw [e', hAit] at hc3; cases hc3
   rw [Heap.put_ne _ _ _ this]; exact hO.le c e hc3, hO.ap, fun c w hw => by rw [Heap.put_ne _ _ _ (hne c w hw)]; exact hO.oh c w hw⟩
  rw [hpk]
  refine Qhj (hBy.keep fun c w hc _ => ⟨hc, Heap.put_ne _ _ _ (hne c w hc)⟩) hO2 hv (hF r hr).1 hps.1 fun o3 D2 c3 b3 => ?_
  obtain ⟨⟨_, a1⟩, _, a2⟩ := hI2.at_
  have hom : o2 m = some .rows := hc.up _ _ h.om
  have k1 := c3.kp it _ a1 fun w hw => (hio w hw).elim
  have k2 := c3.kp m _ a2 fun w hw hq => by rw [hom] at hw; injection hw with hw; subst hw; cases hq
  have hI3 := hI2.same (k1.trans a1.symm) (k2.trans a2.symm)
  refine ⟨⟨o3, vs ++ [p], ls ++ [r], hc2.trans c3, hI3, fun w hw => ?_, hO2.chg c3, b3, by rw [List.map_append, List.map_append, hk]; simp [hpk], fun r' hr' => ?_⟩, ?_⟩
  ·rcases c3.dn _ _ hw with h1 | ⟨h1, _⟩
   ·exact hio w h1
   ·rw [Heap.put_same] at h1; cases h1
  ·rcases List.mem_append.1 hr' with hr' | hr'
   ·exact hR r' hr'
   ·rw [List.mem_singleton] at hr'; rw [hr']; exact hr
  ·have e1 := hI3.cnt
   have e2 := hI3.few
   have e3 := hIt.cnt
   simp only [List.length_append, List.length_singleton] at e1 e2
   dsimp only
   omega
/-- the rows at some places with these values -/
def sel (R : List (List V)) (ps : List Int) (k : Str) : List (List V) := R.filter fun r => decide (keyAt ps r = some k)
theorem Fine.filter {f : List V → Bool} (h : Fine R) : Fine (R.filter f) := fun r hr => h r ((List.mem_filter.1 hr).1)
theorem QiQ : ∀ l : List Int, (l.map Lib.itoa).flatMap cS = l.map fun p => sv (Lib.itoa p)
 | [] => rfl
 | a :: l => by rw [List.map_cons, List.flatMap_cons, QiQ l]; rfl
/-- the names of places, as they are told -/
theorem QjJ (hFm : FmtC C) {s : Sl} {K : Sl × Int → Heap → Prop} (hp : IL B s ps) (hB : B.le H) (hps : PsOk ps) (k : ∀ y H2, H.le H2 → SL H2 y.1 (ps.map Lib.itoa) → y.1.len ≤ y.1.cap → K y H2) :
 lp (α := Sl × Int) (Sl.nil, 0) H (fun x7 J8 H9 => ift (decide ((x7.2 : Int) < (Sl.len s : Int))) (ixa s x7.2 fun p11 => ldI H9 .i64 (p11.1, p11.2 + (x7.2 : Int).toNat * 1) fun x16 => Qaq C x16 (fun r18 H19 => apd ([sv []]) 16 x7.1 ([sv r18]) 1 (fun r20 H21 => J8 (r20, (w .i64 (x7.2 + 1))) H21) H19) H9) (K x7 H9)) := by
 have hlen := SlIs.len hp
 have hn := hps.1
 refine ⟨fun y D => ∃ i : Nat, y.2 = (i : Int) ∧ i ≤ ps.length ∧ OwnF H D 1 y.1 ((ps.take i).map fun p => sv (Lib.itoa p)), fun y _ => ps.length - y.2.toNat, ⟨0, rfl, Nat.zero_le _, OwnF.nil H 1⟩, ?_⟩
 rintro ⟨s1, _⟩ D ⟨i, rfl, hi, ho⟩
 have hsl : s1.len = i := by have := ho.len; simp only [List.length_map, List.length_take] at this; omega
 refine ift.of (fun hlt => ?_) fun hlt => ?_
 ·have hil : i < ps.length := by have := of_decide_eq_true hlt; dsimp only at this; omega
  refine SlIs.fI hp (hB.trans ho.le) (z := 1) (fun _ => rfl) (by omega) rfl hil (j := 0) (f := fun x => x) (fun _ => rfl) fun y hy => ?_
  subst hy
  have hr := hps.2 _ (List.getElem_mem hil)
  refine hFm.ok hr.1 hr.2 ?_
  refine QdX (zc := [sv []]) ho rfl (by dsimp only; omega) (by dsimp only; omega) fun r D2 q1 q2 => ?_
  rw [Qac (by dsimp only; omega) (by dsimp only; omega)]
  refine ⟨⟨i + 1, by dsimp only; omega, by omega, ?_⟩, by first | omega | (dsimp only; omega)⟩
  have : (ps.take (i + 1)).map (fun p => sv (Lib.itoa p)) = (ps.take i).map (fun p => sv (Lib.itoa p)) ++ [sv (Lib.itoa ps[i])] := by
   rw [List.take_add_one, List.getElem?_eq_getElem hil, Option.toList_some, List.map_append]; rfl
  rw [this]; exact q1
 ·have hie : i = ps.length := by have := of_decide_eq_false hlt; dsimp only at this; omega
  subst hie
  rw [List.take_length] at ho
  refine k (s1, ((ps.length : Nat) : Int)) D ho.le ⟨ps.map Lib.itoa, ?_, by simp; exact hsl, rfl, by simp; omega, fun i v y hv hy => ?_⟩ ho.own.2.2.1
  ·have e := QiQ ps
   rw [e]; exact ho.own.rdsl
  ·rw [hv] at hy; injection hy with hy; exact hy.symm
end
end
section
open Go Go.Proofs
section
variable {C : Ctx} {o o2 : Own_} {A B H H2 : Heap} {n : Str} {x m g b q : Nat} {L : List (Str × Option (Nat × Nat))} {R : List (List V)} {ps : List Int} {vs : List V} {s t : Sl}
/-- what was found, told -/
theorem QkG {k : Str} {K : Sl → Heap → Prop} (hB : By o A H n ps b R) (hA : A.le H) (hF : Fine R) (hn : R.Nodup) (hz : ∀ r ∈ R, vsizes r ≤ 1000000) (hlen : R.length ≤ 1000000)
 (kk : ∀ T s ys H2, Told H H2 (sel R ps k) T s ys → K s H2) : nck (some (b, 0)) fun p63 => ldM H (p63.1, p63.2 + 1) fun x65 => lkM mv none x65 k (fun x67 is68 => Qag C x67 (fun r70 H71 => K r70 H71) H) H := by
 obtain ⟨mu, t2, q, LQ, hb, hp, hBM⟩ := hB
 refine ⟨_, rfl, some q, by rw [Qbh (hA _ _ hb)]; rfl, ?_⟩
 refine hBM.2.1.is.lk (fun y hy => ?_) fun hy => ?_
 ·obtain ⟨e, q1, q2, q3⟩ := hBM.2.2.1 _ (Qa1 hy)
  dsimp only at q1; subst q1
  refine Qjm q3 hA hF.filter (hn.filter _) (fun r hr => hz r (List.mem_filter.1 hr).1) (Nat.le_trans (List.length_filter_le _ _) hlen) fun T s ys H2 hT => kk T s ys H2 hT
 ·have he : sel R ps k = [] := by
   unfold sel
   rw [List.filter_eq_nil_iff]
   intro r hr hk
   obtain ⟨e, hm⟩ := hBM.2.2.2 r hr k (of_decide_eq_true hk)
   rw [Qbm hBM.2.1.is.nd hm] at hy; cases hy
  rw [he] at kk
  exact Qjl kk
theorem QkK {K : Sl → Heap → Prop} (h : IxP o A H x m g L R (cR R)) (hF : Fine R) (hn : R.Nodup) (hz : ∀ r ∈ R, vsizes r ≤ 1000000) (hlen : R.length ≤ 1000000)
 (k : ∀ T s ys H2, Told H H2 R T s ys → K s H2) : QR C (some (x, 0)) K H := by
 apply Qb5
 unfold Qco
 exact Qh rfl ⟨_, rfl, h.ld0 (Qjm h.rm h.oh.le hF hn hz hlen k)⟩
theorem Qiz (hFm : FmtC C) {K : Sl → Int → Heap → Prop} (h : IxP o A H x m g L R (cR R)) (hF : Fine R) (hn : R.Nodup) (hz : ∀ r ∈ R, vsizes r ≤ 1000000) (hlen : R.length ≤ 1000000)
 (hp : IL B s ps) (hv : VRow B t vs) (hB : B.le H) (hps : PsOk ps) (hf : fineV vs)
 (k1 : ps.length ≠ vs.length → K Sl.nil 1 H)
 (k0 : ps.length = vs.length → mayR vs = false → ∀ H2, H.le H2 → K Sl.nil 0 H2)
 (k2 : ps.length = vs.length → mayR vs = true → ∀ o2 A2 L2 D T s ys H2, Chg (fun _ => True) o H o2 D → A.le A2 → (∀ c, A2 c ≠ none → A c ≠ none ∨ H c = none) → IxP o2 A2 D x m g L2 R (cR R) → Told D H2 (sel R ps (keyB vs)) T s ys → K s 0 H2) : Qe C (some (x, 0)) s t K H := by
 apply QbM
 unfold Qb0
 have hsl := SlIs.len hp
 have htl := hv.len
 refine Qh rfl (ift.of (fun h1 => k1 fun e => ?_) fun h1 => ?_)
 ·rw [hsl, htl, e] at h1; simp at h1
 have hl : ps.length = vs.length := by rw [hsl, htl] at h1; simp at h1; omega
 refine Qhn hv hB hf (fun hm H5 h5 => Qh rfl ?_) fun hm H5 h5 => Qq rfl (k0 hl hm H5 h5)
 refine QjJ hFm hp (hB.trans h5) hps fun ns H9 h9 hns hcap => ?_
 refine Qkr hns (Heap.le.refl _) hcap (by simpa using hps.1) (fun y hy => ?_) fun H23 h23 => ?_
 ·obtain ⟨p, hp2, rfl⟩ := List.mem_map.1 hy
  have hr := hps.2 p hp2
  have := Lib.itoa_length_le p hr.1 hr.2
  omega
 rw [← Qkx]
 have hle : H.le H23 := h5.trans (h9.trans h23)
 have hP := h.up hle
 refine ⟨_, rfl, hP.ld1 ?_⟩
 have main : ∀ o3 A2 L2 b D, Chg (fun _ => True) o H o3 D → A.le A2 → (∀ c, A2 c ≠ none → A c ≠ none ∨ H c = none) → IxP o3 A2 D x m g L2 R (cR R) → By o3 A2 D (nmOf ps) ps b R → nck (some (b, 0)) fun p63 => ldM D (p63.1, p63.2 + 1) fun x65 => lkM mv none x65 (keyB vs) (fun x67 is68 => Qag C x67 (fun r70 H71 => K r70 0 H71) D) D := fun o3 A2 L2 b D c1 c2 c3 c4 c5 =>
  QkG (K := fun s H2 => K s 0 H2) c5 c4.oh.le hF hn hz hlen fun T s ys H2 hT => k2 hl hm o3 A2 L2 D T s ys H2 c1 c2 c3 c4 hT
 have hfin : ∀ y, (∃ b, y = some (b, 0) ∧ By o A H23 (nmOf ps) ps b R) ∨ (y = none ∧ ∀ p ∈ L, p.1 ≠ nmOf ps) → jn (α := Option (Nat × Nat)) (fun x32 H33 => nck x32 fun p63 => ldM H33 (p63.1, p63.2 + 1) fun x65 => lkM mv none x65 (keyB vs) (fun x67 is68 => Qag C x67 (fun r70 H71 => K r70 0 H71) H33) H33)
  (fun J31 => ift (Option.isNone y) (QV C s (fun r36 H37 => mkM (fun b38 H39 => nw (Qo.c (⟨r36, (some b38)⟩ : Qo)) (fun b40 H41 => nck (some (x, 0)) fun p42 => ldM H41 (p42.1, p42.2 + 0) fun x44 =>
   rgM slv x44 (fun b46 H47 => lp (α := Unit) () H47 (fun x48 J49 H50 => nxB (enc := slv) b46 (fun b51 H52 => ift b51 (enM slv b46 (fun k54 x55 => Q9 C (some (b40, 0)) k54 x55 (fun H57 => J49 () H57) H52) H52)
    (nck (some (x, 0)) fun p58 => ldM H52 (p58.1, p58.2 + 1) fun x60 => upS pv x60 (nmOf ps) (some (b40, 0)) (fun H62 => J31 (some (b40, 0)) H62) H52)) H50)) H41) H39) H37) H23) (J31 y H23)) := by
  rintro y (⟨b, rfl, hBy⟩ | ⟨rfl, hnm⟩)
  ·exact ⟨_, Qh rfl (main o A L b H23 (Chg.of_le hle) (Heap.le.refl _) (fun c hc => .inl hc) hP hBy), fun _ _ h => h⟩
  ·refine ⟨_, Qq rfl ?_, fun _ _ h => h⟩
   refine QiD hp (hB.trans hle) hps.1 fun r36 H37 h37 hr36 => ?_
   intro b38 n38 b40 n40
   have l38 := Heap.le_put n38 (g := .obj (.map #[] 0)) (m := true)
   have l40 := Heap.le_put n40 (g := .row (Qo.c (⟨r36, some b38⟩ : Qo))) (m := true)
   have hne : b40 ≠ b38 := fun e => by subst e; rw [Heap.put_same] at n40; cases n40
   have hat : ((H37.put b38 (.obj (.map #[] 0))).put b40 (.row (Qo.c (⟨r36, some b38⟩ : Qo)))) b40 = some (true, .row [slv r36, mv (some b38)]) := Heap.put_same ..
   have hm38 : MapS mv ((H37.put b38 (.obj (.map #[] 0))).put b40 (.row (Qo.c (⟨r36, some b38⟩ : Qo)))) b38 ([] : List (Str × Option Nat)) := (MapS.new (H := H37) (b := b38)).same (Heap.put_ne _ _ _ hne.symm)
   have hle41 : H37.le ((H37.put b38 (.obj (.map #[] 0))).put b40 (.row (Qo.c (⟨r36, some b38⟩ : Qo)))) := l38.trans l40
   have hn40 : H23 b40 = none := h37.none (l38.none n40)
   have hn38 : H23 b38 = none := h37.none n38
   generalize (H37.put b38 (.obj (.map #[] 0))).put b40 (.row (Qo.c (⟨r36, some b38⟩ : Qo))) = H41 at *
   have h2341 : H23.le H41 := h37.trans hle41
   have hNle : ((Heap.new H23 H41).del b38).le H41 := (Heap.del_le _ _).trans (Heap.new_le _ _)
   have hA2le : (A.or ((Heap.new H23 H41).del b38)).le H41 := Heap.or_le (hP.oh.le.trans h2341) hNle
   have hNn : ∀ c e, ((Heap.new H23 H41).del b38) c = some e → c ≠ b38 ∧ H23 c = none := fun c e hc => by
    have : c ≠ b38 := fun e' => by rw [e', Heap.del_same] at hc; cases hc
    rw [Heap.del_ne _ this] at hc
    exact ⟨this, (Heap.new_inv hc).1⟩
   have hAnone : ∀ c, (A c = none) → (∀ e, ((Heap.new H23 H41).del b38) c = some e → False) → (A.or ((Heap.new H23 H41).del b38)) c = none := fun c h1 h2 => Heap.or_none h1 (by
    cases hh : ((Heap.new H23 H41).del b38) c with
    | none => rfl
    | some e => exact (h2 e hh).elim)
   have hP41 := hP.up h2341
   have hPg : IxP o (A.or ((Heap.new H23 H41).del b38)) H41 x m g L R (cR R) := hP41.grow Heap.le_or hA2le fun c w hw => hAnone c (hP.oh.ap c w hw) fun e he => hP.oh.oh c w hw (hNn c e he).2
   have hno : ∀ w, o b38 = some w → False := fun w hw => hP.oh.oh b38 w hw hn38
   have hup : ∀ c w, o c = some w → (o.set b38 (.inn (nmOf ps))) c = some w := fun c w hw => by
    have : c ≠ b38 := fun e => hno w (by rw [← e]; exact hw)
    rw [Own_.set_ne this]; exact hw
   have hO2 : OH (o.set b38 (.inn (nmOf ps))) (A.or ((Heap.new H23 H41).del b38)) H41 := ⟨hA2le, fun c w hw => by
    by_cases hc : c = b38
    ·subst hc
     exact hAnone _ (hP.oh.le.none hn38) fun e he => (hNn _ e he).1 rfl
    ·rw [Own_.set_ne hc] at hw; exact hPg.oh.ap c w hw, fun c w hw => by
    by_cases hc : c = b38
    ·subst hc; obtain ⟨es, ck, hm⟩ := hm38; rw [hm.at_]; simp
    ·rw [Own_.set_ne hc] at hw; exact hPg.oh.oh c w hw⟩
   have hP2 := hPg.own hO2 hup
   have hrow : (A.or ((Heap.new H23 H41).del b38)) b40 = some (true, .row [slv r36, mv (some b38)]) := by
    unfold Heap.or
    rw [hP.oh.le.none hn40]
    show ((Heap.new H23 H41).del b38) b40 = _
    rw [Heap.del_ne _ hne]; exact Heap.new_some hat hn40
   have hIL : IL (A.or ((Heap.new H23 H41).del b38)) r36 ps := by
    refine SlIs.le (Heap.le.trans ?_ (Heap.le_or2 fun c e hc => hP.oh.le.none (hNn c e hc).2)) hr36 fun _ _ _ h => h
    intro c e hc
    obtain ⟨q1, q2⟩ := Heap.new_inv hc
    have : c ≠ b38 := fun e' => by rw [e', n38] at q2; cases q2
    rw [Heap.del_ne _ this]; exact Heap.new_some (hle41 _ _ q2) q1
   have hBy : By (o.set b38 (.inn (nmOf ps))) (A.or ((Heap.new H23 H41).del b38)) H41 (nmOf ps) ps b40 [] :=
    ⟨true, r36, b38, [], hrow, hIL, Own_.set_same, hm38, (fun p hp => by cases hp), fun r hr => by cases hr⟩
   have hc41 : Chg (fun _ => True) o H (o.set b38 (.inn (nmOf ps))) H41 := by
    refine ⟨fun c e hc _ => h2341 _ _ (hle _ _ hc), hup, fun c w hw => ?_, fun c hc => ?_⟩
    ·by_cases hcb : c = b38
     ·subst hcb; exact .inr ⟨hle.none hn38, trivial, hO2.oh _ _ Own_.set_same⟩
     ·rw [Own_.set_ne hcb] at hw; exact .inl hw
    ·cases he : H c with
     | none => exact absurd he hc
     | some e => rw [h2341 _ _ (hle _ _ he)]; simp
   have hAn2 : ∀ c, (A.or ((Heap.new H23 H41).del b38)) c ≠ none → A c ≠ none ∨ H c = none := fun c hc => (Heap.or_some hc).imp id fun h => by
    cases hh : ((Heap.new H23 H41).del b38) c with
    | none => exact absurd hh h
    | some e => exact hle.none (hNn c e hh).2
   have hA2 : A.le (A.or ((Heap.new H23 H41).del b38)) := Heap.le_or
   generalize A.or ((Heap.new H23 H41).del b38) = A2 at *
   generalize o.set b38 (.inn (nmOf ps)) = o2 at *
   refine ⟨_, rfl, hP2.ld0 ?_⟩
   refine Qk1 (t := 0) hP2 hBy hps hF hn hnm fun o3 D c3 hP3 hB3 => ?_
   refine ⟨_, rfl, hP3.ld1 ⟨g, L, rfl, hP3.mg, fun g2 L2 q1 q2 _ => ?_⟩⟩
   have hgne : ∀ c w, o3 c = some w → w ≠ .bys → c ≠ g := fun c w hw e e' => by subst e'; rw [hP3.og] at hw; injection hw with hw; exact e hw.symm
   have hB4 : By o3 A2 (D.put g g2) (nmOf ps) ps b40 R := hB3.keep fun c w hw hwn => ⟨hw, Heap.put_ne _ _ _ (hgne c w hw fun e => by subst e; cases hwn)⟩
   refine main o3 A2 L2 b40 _ ((hc41.trans (c3.imp fun _ _ => trivial)).trans (Chg.put hP3.og trivial)) hA2 hAn2 ⟨⟨fun c e hc => ?_, hP3.oh.ap, fun c w hw => ?_⟩, hP3.hx, hP3.om, hP3.og, hP3.rm.same (Heap.put_ne _ _ _ (hgne _ _ hP3.om (by intro h; cases h))), q1, fun p hp2 => ?_⟩ hB4
   ·have : c ≠ g := fun e' => by rw [e', hP3.oh.ap _ _ hP3.og] at hc; cases hc
    rw [Heap.put_ne _ _ _ this]; exact hP3.oh.le c e hc
   ·by_cases hcg : c = g
    ·rw [hcg, Heap.put_same]; simp
    ·rw [Heap.put_ne _ _ _ hcg]; exact hP3.oh.oh c w hw
   ·have hl2 := (QhT q1.is.nd).1 hp2
    rw [q2] at hl2
    split at hl2
    ·rename_i he
     injection hl2 with hl2
     refine ⟨b40, ps, hl2.symm, he, hps, ?_⟩
     rw [he]; exact hB4
    ·obtain ⟨b', ps', r1, r2, r3, r4⟩ := hP3.bs p (Qa1 hl2)
     exact ⟨b', ps', r1, r2, r3, r4.keep fun c w hw hwn => ⟨hw, Heap.put_ne _ _ _ (hgne c w hw fun e => by subst e; cases hwn)⟩⟩
 refine hP.mg.is.lk (fun y hy => ?_) fun hy => ?_
 ·obtain ⟨b, ps', r1, r2, r3, r4⟩ := hP.bs _ (Qa1 hy)
  have := QjK r2
  subst this
  exact hfin y (.inl ⟨b, r1, r4⟩)
 ·refine hfin none (.inr ⟨rfl, fun p hp2 e => ?_⟩)
  have := Qbm hP.mg.is.nd (k := nmOf ps) (x := p.2) (by rw [← e]; exact hp2)
  rw [this] at hy; cases hy
end
end
section
open Go Go.Proofs
/-- an index in memory -/
structure IX (o : Own_) (A H : Heap) (x : Nat) (R : List (List V)) : Prop where
 p : ∃ m g L, IxP o A H x m g L R (cR R)
 f : Fine R
 n : R.Nodup
 z : ∀ r ∈ R, vsizes r ≤ 1000000
 l : R.length ≤ 1000
/-- what an index's method changes -/
structure Mv (o : Own_) (A H : Heap) (o2 : Own_) (A2 H2 : Heap) : Prop where
 c : Chg (fun _ => True) o H o2 H2
 a : A.le A2
 n : ∀ c, A2 c ≠ none → A c ≠ none ∨ H c = none
/-- a part of memory that the index's methods keep -/
structure Bs (o : Own_) (B H : Heap) : Prop where
 le : B.le H
 ap : ∀ c w, o c = some w → B c = none
/-- two indexes apart -/
structure Dj (o : Own_) (A : Heap) (o' : Own_) (A' : Heap) : Prop where
 a : ∀ c w, o c = some w → o' c = none ∧ A' c = none
 b : ∀ c w, o' c = some w → A c = none
section
variable {C : Ctx} {o o2 o3 o' : Own_} {A A2 A3 A' B B2 H H2 H3 D : Heap} {x y : Nat} {R S : List (List V)} {r : List V} {t s : Sl} {ps : List Int} {vs : List V}
theorem Mv.of_le (h : H.le H2) : Mv o A H o A H2 := ⟨Chg.of_le h, Heap.le.refl _, fun c hc => .inl hc⟩
theorem Mv.trans (h : Mv o A H o2 A2 H2) (h' : Mv o2 A2 H2 o3 A3 H3) : Mv o A H o3 A3 H3 := ⟨h.c.trans h'.c, h.a.trans h'.a, fun c hc => by
 rcases h'.n c hc with h1 | h1
 ·exact h.n c h1
 ·refine .inr ?_
  cases he : H c with
  | none => rfl
  | some e => exact absurd h1 (h.c.li c (by rw [he]; simp))⟩
theorem Bs.mv (h : Bs o B H) (hm : Mv o A H o2 A2 H2) : Bs o2 B H2 := by
 refine ⟨fun c e hc => hm.c.kp c e (h.le c e hc) (fun w hw _ => by rw [h.ap c w hw] at hc; cases hc), fun c w hw => ?_⟩
 rcases hm.c.dn c w hw with h1 | ⟨h1, _⟩
 ·exact h.ap c w h1
 ·exact h.le.none h1
theorem Bs.up (h : Bs o B H) (hle : H.le H2) : Bs o B H2 := ⟨h.le.trans hle, h.ap⟩
/-- all that is not the index's -/
def Heap.wo_ (o : Own_) (H : Heap) : Heap := fun c => match o c with | none => H c | some _ => none
theorem Heap.wo_none {c : Nat} (h : o c = none) : Heap.wo_ o H c = H c := by unfold Heap.wo_; rw [h]
theorem Heap.wo_own {c : Nat} {w : Wh} (h : o c = some w) : Heap.wo_ o H c = none := by unfold Heap.wo_; rw [h]
theorem Heap.wo_le : (Heap.wo_ o H).le H := fun c e hc => by
 cases ho : o c with
 | none => rwa [Heap.wo_none ho] at hc
 | some w => rw [Heap.wo_own ho] at hc; cases hc
theorem Bs.wo : Bs o (Heap.wo_ o H) H := ⟨Heap.wo_le, fun c w hw => Heap.wo_own hw⟩
theorem IX.up (h : IX o A H x R) (hle : H.le H2) : IX o A H2 x R := by
 obtain ⟨⟨m, g, L, p⟩, q⟩ := h
 exact ⟨⟨m, g, L, p.up hle⟩, by assumption, by assumption, by assumption, by assumption⟩
theorem IX.oh (h : IX o A H x R) : OH o A H := by obtain ⟨⟨m, g, L, p⟩, _⟩ := h; exact p.oh
theorem IX.other (h : IX o' A' H y S) (hm : Mv o A H o2 A2 H2) (hd : Dj o A o' A') : IX o' A' H2 y S ∧ Dj o2 A2 o' A' := by
 have hO := h.oh
 obtain ⟨⟨m, g, L, p⟩, q1, q2, q3, q4⟩ := h
 have hk : ∀ c w, o' c = some w → H2 c = H c := fun c w hw => by
  cases he : H c with
  | none => exact absurd he (hO.oh c w hw)
  | some e => exact hm.c.kp c e he fun w' hw' _ => by rw [(hd.a c w' hw').1] at hw; cases hw
 refine ⟨⟨⟨m, g, L, p.keep (fun c e hc => hm.c.kp c e (hO.le c e hc) fun w hw _ => by rw [(hd.a c w hw).2] at hc; cases hc) hk⟩, q1, q2, q3, q4⟩, ⟨fun c w hw => ?_, fun c w hw => ?_⟩⟩
 ·rcases hm.c.dn c w hw with h1 | ⟨h1, _⟩
  ·exact hd.a c w h1
  ·refine ⟨?_, hO.le.none h1⟩
   cases he : o' c with
   | none => rfl
   | some w' => exact absurd h1 (hO.oh c w' he)
 ·cases he : A2 c with
  | none => rfl
  | some e =>
   rcases hm.n c (by rw [he]; simp) with h1 | h1
   ·exact absurd (hd.b c w hw) h1
   ·exact absurd h1 (hO.oh c w hw)
theorem Dj.symm (h : Dj o A o' A') : Dj o' A' o A := by
 refine ⟨fun c w hw => ⟨?_, h.b c w hw⟩, fun c w hw => (h.a c w hw).2⟩
 cases he : o c with
 | none => rfl
 | some w' => rw [(h.a c w' he).1] at hw; cases hw
/-- a row that may be asked -/
structure Ask (B : Heap) (t : Sl) (r : List V) : Prop where
 v : VRow B t r
 f : fineV r
 z : vsizes r ≤ 1000000
theorem IX.put {K : Bool → Int → Heap → Prop} (h : IX o A H x R) (hl : R.length < 1000) (hb : Bs o B H) (ha : Ask B t r)
 (k : ∀ b e o2 A2 H2 R2, Mv o A H o2 A2 H2 → IX o2 A2 H2 x R2 → (∀ r', r' ∈ R2 ↔ r' ∈ R ∨ (r' = r ∧ mayR r = true)) → (b = true ↔ mayR r = true ∧ r ∉ R) → (e = if mayR r then 0 else 4) → R2.length ≤ R.length + 1 → K b e H2) : Qr C (some (x, 0)) t K H := by
 obtain ⟨⟨m, g, L, p⟩, q1, q2, q3, q4⟩ := h
 refine QkS p q1 ha.v hb.le ha.f ha.z (fun hm H2 h2 => ?_) (fun hm hr H2 h2 => ?_) fun hm hr o2 A2 H2 c1 c2 c3 p2 => ?_
 ·exact k false 4 o A H2 R (Mv.of_le h2) ⟨⟨m, g, L, p.up h2⟩, q1, q2, q3, q4⟩ (fun r' => ⟨.inl, fun h => h.elim id fun h => by rw [h.2] at hm; cases hm⟩) ⟨fun h => (by cases h), fun h => by rw [h.1] at hm; cases hm⟩ (by rw [hm]; rfl) (by omega)
 ·exact k false 0 o A H2 R (Mv.of_le h2) ⟨⟨m, g, L, p.up h2⟩, q1, q2, q3, q4⟩ (fun r' => ⟨.inl, fun h => h.elim id fun h => by rw [h.1]; exact hr⟩) ⟨fun h => (by cases h), fun h => absurd hr h.2⟩ (by rw [hm]; rfl) (by omega)
 ·refine k true 0 o2 A2 H2 (R ++ [r]) ⟨c1, c2, c3⟩ ⟨⟨m, g, L, p2⟩, fun r' hr' => ?_, ?_, fun r' hr' => ?_, by simp; omega⟩ (fun r' => ?_) ⟨fun _ => ⟨hm, hr⟩, fun _ => rfl⟩ (by rw [hm]; rfl) (by simp)
  ·rcases List.mem_append.1 hr' with h | h
   ·exact q1 r' h
   ·rw [List.mem_singleton] at h; rw [h]; exact ⟨ha.f, hm⟩
  ·rw [List.nodup_append]
   exact ⟨q2, by simp, fun a ha' b hb' e => by rw [List.mem_singleton] at hb'; exact hr (by rw [← hb', ← e]; exact ha')⟩
  ·rcases List.mem_append.1 hr' with h | h
   ·exact q3 r' h
   ·rw [List.mem_singleton] at h; rw [h]; exact ha.z
  ·rw [List.mem_append, List.mem_singleton]
   exact ⟨fun h => h.imp id fun h => ⟨h, hm⟩, fun h => h.imp id fun h => h.1⟩
theorem IX.del {K : Bool → Int → Heap → Prop} (h : IX o A H x R) (hb : Bs o B H) (ha : Ask B t r)
 (k : ∀ b e o2 H2 R2, Mv o A H o2 A H2 → IX o2 A H2 x R2 → (∀ r', r' ∈ R2 ↔ r' ∈ R ∧ r' ≠ r) → (b = true ↔ r ∈ R) → (e = if mayR r then 0 else 4) → R2.length ≤ R.length → K b e H2) : Qw C (some (x, 0)) t K H := by
 obtain ⟨⟨m, g, L, p⟩, q1, q2, q3, q4⟩ := h
 have hnr : mayR r = false → r ∉ R := fun hm hr => by rw [(q1 r hr).2] at hm; cases hm
 refine QkM p q1 ha.v hb.le ha.f (fun hm H2 h2 => ?_) (fun hm hr H2 h2 => ?_) (fun hm hr o2 H2 c1 p2 => ?_) hb.ap
 ·exact k false 4 o H2 R (Mv.of_le h2) ⟨⟨m, g, L, p.up h2⟩, q1, q2, q3, q4⟩ (fun r' => ⟨fun h => ⟨h, fun e => hnr hm (e ▸ h)⟩, fun h => h.1⟩) ⟨fun h => (by cases h), fun h => absurd h (hnr hm)⟩ (by rw [hm]; rfl) (Nat.le_refl _)
 ·exact k false 0 o H2 R (Mv.of_le h2) ⟨⟨m, g, L, p.up h2⟩, q1, q2, q3, q4⟩ (fun r' => ⟨fun h => ⟨h, fun e => hr (e ▸ h)⟩, fun h => h.1⟩) ⟨fun h => (by cases h), fun h => absurd h hr⟩ (by rw [hm]; rfl) (Nat.le_refl _)
 ·have hle : (Rm R r).length ≤ R.length := List.length_filter_le _ _
  exact k true 0 o2 H2 (Rm R r) ⟨c1, Heap.le.refl _, fun c hc => .inl hc⟩ ⟨⟨m, g, L, p2⟩, q1.filter, q2.filter _, fun r' hr' => q3 r' (List.mem_filter.1 hr').1, by omega⟩ (fun r' => Qhc q1 ha.f hm) ⟨fun _ => hr, fun _ => rfl⟩ (by rw [hm]; rfl) hle
theorem IX.has {K : Bool → Heap → Prop} (h : IX o A H x R) (hb : Bs o B H) (ha : Ask B t r) (k : ∀ b, (b = true ↔ r ∈ R) → ∀ H2, H.le H2 → K b H2) : QS C (some (x, 0)) t K H := by
 obtain ⟨⟨m, g, L, p⟩, q1, q2, q3, q4⟩ := h
 exact QkN p q1 ha.v hb.le ha.f k
theorem IX.len {K : Int → Heap → Prop} (h : IX o A H x R) (k : K R.length H) : QT C (some (x, 0)) K H := by
 obtain ⟨⟨m, g, L, p⟩, q1, q2, q3, q4⟩ := h
 exact QkO p q1 q2 k
theorem IX.all {K : Sl → Heap → Prop} (h : IX o A H x R) (k : ∀ T s ys H2, Told H H2 R T s ys → K s H2) : QR C (some (x, 0)) K H := by
 obtain ⟨⟨m, g, L, p⟩, q1, q2, q3, q4⟩ := h
 exact QkK p q1 q2 q3 (by omega) k
theorem Qia {l : List V} : mayR l = true ↔ ∀ v ∈ l, mayV v = true := by unfold mayR; rw [List.all_eq_true]
theorem QkD (hF : Fine R) (hf : fineV vs) (hm : mayR vs = true) : r ∈ sel R ps (keyB vs) ↔ r ∈ R ∧ picks r ps = some vs := by
 unfold sel
 rw [List.mem_filter, decide_eq_true_iff]
 refine ⟨fun ⟨a, b⟩ => ⟨a, ?_⟩, fun ⟨a, b⟩ => ⟨a, ?_⟩⟩
 ·unfold keyAt at b
  cases hp : picks r ps with
  | none => rw [hp] at b; cases b
  | some q =>
   rw [hp] at b
   dsimp only at b
   split at b
   ·rename_i hq
    injection b with b
    obtain ⟨_, hmem⟩ := QeL hp
    have hfr := (hF r a).1
    rw [QgZ (VBs.of fun v hv => hfr.1.mem (hmem v hv)) hf.1 hq hm (fun v hv => hfr.2.2 v (hmem v hv)) hf.2.2 b]
   ·cases b
 ·unfold keyAt; rw [b]; simp [hm]
theorem IX.look (hFm : FmtC C) {K : Sl → Int → Heap → Prop} (h : IX o A H x R) (hb : Bs o B H) (hp : IL B s ps) (ha : Ask B t vs) (hps : PsOk ps) (hl : ps.length = vs.length)
 (k : ∀ o2 A2 D T s ys R' H2, Mv o A H o2 A2 D → IX o2 A2 D x R → Told D H2 R' T s ys → (∀ r, r ∈ R' ↔ r ∈ R ∧ picks r ps = some vs) → K s 0 H2) : Qe C (some (x, 0)) s t K H := by
 obtain ⟨⟨m, g, L, p⟩, q1, q2, q3, q4⟩ := h
 refine Qiz hFm p q1 q2 q3 (by omega) hp ha.v hb.le hps ha.f (fun h => absurd hl h) (fun _ hm H2 h2 => ?_) fun _ hm o2 A2 L2 D T s ys H2 c1 c2 c3 p2 hT => ?_
 ·refine k o A H2 [] Sl.nil [] [] H2 (Mv.of_le h2) ⟨⟨m, g, L, p.up h2⟩, q1, q2, q3, q4⟩ Told.nil fun r => ⟨fun h => (by cases h), fun ⟨a, b⟩ => ?_⟩
  obtain ⟨_, hmem⟩ := QeL b
  have : mayR vs = true := Qia.2 fun v hv => Qia.1 (q1 r a).2 v (hmem v hv)
  rw [this] at hm; cases hm
 ·exact k o2 A2 D T s ys _ H2 ⟨c1, c2, c3⟩ ⟨⟨m, g, L2, p2⟩, q1, q2, q3, q4⟩ hT fun r => QkD q1 ha.f hm
theorem IX.new {K : Option (Nat × Nat) → Heap → Prop} (k : ∀ x o A H2, H.le H2 → (∀ c w, o c = some w → H c = none) → (∀ c, A c ≠ none → H c = none) → IX o A H2 x [] → K (some (x, 0)) H2) : Qc7 C K H :=
 QkP fun x m g o A H2 h1 h2 h3 p => k x o A H2 h1 h2 h3 ⟨⟨m, g, [], p⟩, (fun r hr => by cases hr), .nil, (fun r hr => by cases hr), Nat.zero_le _⟩
/-- what was told, read in new memory -/
theorem Told.rows {T : List (List V)} {ys : List Sl} (h : Told D H2 R T s ys) : VRows (Heap.new D H2) s T := by
 have ho := h.og.own
 refine ⟨ys, ho.new.rdsl, by have := ho.len; simpa using this, h.len, fun i y l hy hl => ?_⟩
 refine (h.og.done i l y hl hy).row.le fun c e hc => ?_
 obtain ⟨a, b⟩ := Heap.new_inv hc
 exact Heap.new_some ((Heap.off_le _ _) _ _ b) a
theorem Told.bs {T : List (List V)} {ys : List Sl} (h : Told D H2 R T s ys) (hO : OH o A D) : Bs o (Heap.new D H2) H2 := ⟨Heap.new_le _ _, fun c w hw => by
 cases hh : Heap.new D H2 c with
 | none => rfl
 | some e => exact absurd (Heap.new_inv hh).1 (hO.oh c w hw)⟩
theorem Qih {T U : List (List V)} (h1 : Rise T) (h2 : Rise U) (he : ∀ r, r ∈ T ↔ r ∈ U) : T = U := QiB (P := fun _ => True) Lin.row h1 h2 (fun _ _ => trivial) he
theorem Told.mem {T : List (List V)} {ys : List Sl} (h : Told D H2 R T s ys) (r : List V) : r ∈ T ↔ r ∈ R := h.perm.mem_iff
end
end
section
open Go Go.Proofs
section
variable {C : Ctx} {o o2 : Own_} {A A2 B H H2 D : Heap} {x : Nat} {R : List (List V)} {s : Sl}
theorem QbI {ls : List (List V)} {s t : Sl} {K : Bool → Heap → Prop} (hs : VRows A s ls) (ht : VRows B t ls) (hA : A.le H) (hB : B.le H) (hn : ls.length ≤ 140737488355328) (hb : ∀ l ∈ ls, VBs l ∧ l.length ≤ 140737488355328) (k : K true H) : QX C s t K H := by
 apply QeZ
 unfold QcV
 rw [hs.len, ht.len]
 refine Qh (by simp) ?_
 refine ⟨fun x D => D = H ∧ ∃ i : Nat, x = (i : Int) ∧ i ≤ ls.length, fun x _ => ls.length - x.toNat, ⟨rfl, 0, rfl, Nat.zero_le _⟩, ?_⟩
 rintro _ D ⟨rfl, i, rfl, hi⟩
 refine ift.of (fun h => ?_) (fun h => k)
 have hlt : i < ls.length := by have := of_decide_eq_true h; omega
 have hm := hb _ (List.getElem_mem hlt)
 refine ⟨_, Heap.le.refl _, hs.ld hA rfl hlt fun x hx => ht.ld hB rfl hlt fun y hy => Qin (hx.le hA) (hy.le hB) hm.2 hm.1 ⟨Heap.le.refl _, ?_⟩⟩
 rw [Qe7.2 rfl]
 refine Qh rfl ?_
 rw [Qac (by omega) (by omega)]
 exact ⟨⟨rfl, i + 1, by omega, by omega⟩, by first | omega | (dsimp only; omega)⟩
theorem Qbf {n : Int} {K : TV → Heap → Prop} (k : K ⟨2, n, [], Sl.nil⟩ H) : Qf C n K H := by
 apply Qf.gh
 apply Qhg
 unfold Qfj
 intro b nb
 exact nwT rfl (bxT (c := Qa.c) (Heap.put_same ..) ⟨H, Gh.le (Heap.le_put nb), k⟩)
theorem QaH {n : Str} {K : TV → Heap → Prop} (k : K ⟨4, 0, n, Sl.nil⟩ H) : Qg C n K H := by
 apply Qg.gh
 apply QgK
 unfold QeP
 intro b nb
 exact nwT rfl (bxT (c := Qa.c) (Heap.put_same ..) ⟨H, Gh.le (Heap.le_put nb), k⟩)
def vN (n : Int) : V := .mk 2 n [] []
def vT (t : Str) : V := .mk 4 0 t []
theorem Qdp (H : Heap) (n : Int) : VIs H (vN n) ⟨2, n, [], Sl.nil⟩ := ⟨rfl, rfl, rfl, [], .inl rfl, rfl, trivial⟩
theorem QdU (H : Heap) (t : Str) : VIs H (vT t) ⟨4, 0, t, Sl.nil⟩ := ⟨rfl, rfl, rfl, [], .inl rfl, rfl, trivial⟩
theorem QkC {H : Heap} {b : Nat} {cs : List Value} {m : Bool} (h : H b = some (m, .row cs)) : rds H (b, 0) cs := QdK h fun j v hj => by rw [Nat.zero_add]; exact hj
theorem Qz {H0 H H2 H3 : Heap} (h1 : H0.le H) (h2 : H2.le H3) : (Heap.new H H2).le (Heap.new H0 H3) := fun c e hc => by
 obtain ⟨a, b⟩ := Heap.new_inv hc
 exact Heap.new_some (h2 _ _ b) (h1.none a)
theorem Qcc (hO : OH o A D) (hle : D.le H) : Bs o (Heap.new D H) H := ⟨Heap.new_le _ _, fun c w hw => by
 cases hh : Heap.new D H c with
 | none => rfl
 | some e => exact absurd (Heap.new_inv hh).1 (hO.oh c w hw)⟩
theorem Qig {H : Heap} {b : Nat} {cs : List Value} (nb : H b = none) : rds (Heap.new H (H.put b (.row cs))) (b, 0) cs := QkC (m := true) (Heap.new_some (Heap.put_same ..) nb)
/-- a row of values in a new block -/
theorem nwR {xs : List TV} {l : List V} {cs : List Value} {n : Nat} {K : Nat → Heap → Prop} (hc : cs = xs.flatMap Qa.c) (h : ∀ B, VsAre B l xs) (hn : n = l.length) (k : ∀ b H2, H.le H2 → VRow (Heap.new H H2) (Sl.of (some (b, 0)) n n) l → K b H2) : nw cs K H := by
 intro b nb
 have hle := Heap.le_put nb (g := .row cs) (m := true)
 refine k b _ hle ⟨xs, .inr ⟨rfl, (b, 0), rfl, ?_⟩, by rw [hn]; exact (h H).len, h _⟩
 rw [← hc]; exact Qig nb
theorem nwRs {H0 : Heap} {ts : List Sl} {ls : List (List V)} {cs : List Value} {n : Nat} {K : Nat → Heap → Prop} (h0 : H0.le H) (hc : cs = ts.map slv) (h : ∀ (i : Nat) (x : Sl) (l : List V), ts[i]? = some x → ls[i]? = some l → VRow (Heap.new H0 H) x l) (hl : ts.length = ls.length) (hn : n = ls.length) (k : ∀ b H2, H.le H2 → VRows (Heap.new H0 H2) (Sl.of (some (b, 0)) n n) ls → K b H2) : nw cs K H := by
 intro b nb
 have hle := Heap.le_put nb (g := .row cs) (m := true)
 refine k b _ hle ⟨ts, .inr ⟨rfl, (b, 0), rfl, ?_⟩, by rw [hn, hl], hl, fun i x l h1 h2 => (h i x l h1 h2).le (Qz (Heap.le.refl _) hle)⟩
 rw [← hc]; exact Qjc (Qz h0 (Heap.le.refl _)) (Qig nb)
theorem nwI {ps : List Int} {cs : List Value} {n : Nat} {K : Nat → Heap → Prop} (hc : cs = ps.flatMap cI) (hn : n = ps.length) (hb : ps.length ≤ 1000) (k : ∀ b H2, H.le H2 → IL (Heap.new H H2) (Sl.of (some (b, 0)) n n) ps → K b H2) : nw cs K H := by
 intro b nb
 have hle := Heap.le_put nb (g := .row cs) (m := true)
 refine k b _ hle ⟨ps, .inr ⟨rfl, (b, 0), rfl, ?_⟩, hn, rfl, by omega, fun i v y h1 h2 => by rw [h1] at h2; injection h2 with h2; exact h2.symm⟩
 rw [← hc]; exact Qig nb
def okRow (l : List V) : Prop := fineV l ∧ vsizes l ≤ 1000000
/-- rows put in, one after the other -/
theorem QkB {ls : List (List V)} {K : Heap → Prop} (h : IX o A H x R) (hb : Bs o B H) (hs : VRows B s ls) (hok : ∀ l ∈ ls, okRow l) (hn : R.length + ls.length < 1000)
 (k : ∀ o2 A2 D R2, Mv o A H o2 A2 D → IX o2 A2 D x R2 → (∀ r', r' ∈ R2 ↔ r' ∈ R ∨ (r' ∈ ls ∧ mayR r' = true)) → R2.length ≤ R.length + ls.length → K D) :
 lp (α := Int) 0 H (fun x27 J28 H29 => ift (decide ((x27 : Int) < (Sl.len s : Int))) (ixa s x27 fun p31 => ldL H29 (p31.1, p31.2 + (x27 : Int).toNat * 1) fun x36 => Qr C (some (x, 0)) x36 (fun r38 r39 H40 => J28 (w .i64 (x27 + 1)) H40) H29) (K H29)) := by
 have hlen := hs.len
 refine ⟨fun y D => ∃ (i : Nat) (o2 : Own_) (A2 : Heap) (R2 : List (List V)), y = (i : Int) ∧ i ≤ ls.length ∧ Mv o A H o2 A2 D ∧ IX o2 A2 D x R2 ∧ (∀ r', r' ∈ R2 ↔ r' ∈ R ∨ (r' ∈ ls.take i ∧ mayR r' = true)) ∧ R2.length ≤ R.length + i, fun y _ => ls.length - y.toNat, ⟨0, o, A, R, rfl, Nat.zero_le _, Mv.of_le (Heap.le.refl _), h, fun r' => by simp, by omega⟩, ?_⟩
 rintro _ D ⟨i, o2, A2, R2, rfl, hi, hm, hI, hmem, hl2⟩
 rw [hlen]
 refine ift.of (fun hlt => ?_) fun hlt => ?_
 ·have hil : i < ls.length := by have := of_decide_eq_true hlt; omega
  have hb2 := hb.mv hm
  refine hs.ld hb2.le rfl hil fun t ht => ?_
  have hok1 := hok _ (List.getElem_mem hil)
  refine hI.put (by omega) hb2 ⟨ht, hok1.1, hok1.2⟩ fun b e o3 A3 D3 R3 q1 q2 q3 q4 q5 q6 => ?_
  rw [Qac (by omega) (by omega)]
  refine ⟨⟨i + 1, o3, A3, R3, by omega, by omega, hm.trans q1, q2, fun r' => ?_, by omega⟩, by first | omega | (dsimp only; omega)⟩
  rw [q3, hmem, List.take_add_one, List.getElem?_eq_getElem hil, Option.toList_some, List.mem_append, List.mem_singleton]
  constructor
  ·rintro ((h | ⟨h1, h2⟩) | ⟨h1, h2⟩)
   ·exact .inl h
   ·exact .inr ⟨.inl h1, h2⟩
   ·exact .inr ⟨.inr h1, by rw [h1]; exact h2⟩
  ·rintro (h | ⟨h1 | h1, h2⟩)
   ·exact .inl (.inl h)
   ·exact .inl (.inr ⟨h1, h2⟩)
   ·exact .inr ⟨h1, by rw [← h1]; exact h2⟩
 ·have hie : i = ls.length := by have := of_decide_eq_false hlt; omega
  subst hie
  rw [List.take_length] at hmem
  exact k o2 A2 D R2 hm hI hmem hl2
def exP : List (List V) := [[vN 1, vT [97]], [vN 2, vT [97]], [vN 1, vT [98]], [vN 1]]
def exS : List (List V) := [[vN 1], [vN 1, vT [97]], [vN 1, vT [98]], [vN 2, vT [97]]]
theorem QiN : ∀ l ∈ exP, okRow l ∧ mayR l = true := by
 have hm : exP.all (fun l => mayR l) = true := by decide +kernel
 have h2 : ∀ l ∈ exP, okRow l := by
  intro l hl
  simp only [exP, List.mem_cons, List.not_mem_nil, or_false] at hl
  rcases hl with rfl | rfl | rfl | rfl <;> refine ⟨⟨?_, ?_, ?_⟩, ?_⟩ <;> simp [vN, vT, VBs, VB, vsizes, vsize, vtot, vtots]
 exact fun l hl => ⟨h2 l hl, List.all_eq_true.1 hm l hl⟩
theorem QgU (r : List V) : r ∈ exS ↔ r ∈ exP := by
 simp only [exS, exP, List.mem_cons, List.not_mem_nil, or_false]
 constructor
 ·rintro (h | h | h | h) <;> simp [h]
 ·rintro (h | h | h | h) <;> simp [h]
theorem Qdc : Rise exS := by
 unfold Rise exS
 simp only [List.pairwise_cons, List.mem_cons, List.not_mem_nil, or_false, forall_eq_or_imp, forall_eq, List.Pairwise.nil, and_true, false_implies, implies_true]
 decide +kernel
theorem Qe1 {K : Option (Nat × Nat) → Heap → Prop} (k : ∀ x o A H2 R, H.le H2 → (∀ c w, o c = some w → H c = none) → (∀ c, A c ≠ none → H c = none) → IX o A H2 x R → (∀ r, r ∈ R ↔ r ∈ exP) → R.length ≤ 4 → K (some (x, 0)) H2) : QaB C K H := by
 apply Qfr
 unfold Qdz
 refine IX.new fun x o A H2 h1 h2 h3 hI => ?_
 refine Qbf (QaH (nwR (xs := [⟨2, 1, [], Sl.nil⟩, ⟨4, 0, [97], Sl.nil⟩]) (l := [vN 1, vT [97]]) rfl (fun B => ⟨Qdp _ _, QdU _ _, trivial⟩) rfl fun b1 E1 e1 r1 => ?_))
 refine Qbf (QaH (nwR (xs := [⟨2, 2, [], Sl.nil⟩, ⟨4, 0, [97], Sl.nil⟩]) (l := [vN 2, vT [97]]) rfl (fun B => ⟨Qdp _ _, QdU _ _, trivial⟩) rfl fun b2 E2 e2 r2 => ?_))
 refine Qbf (QaH (nwR (xs := [⟨2, 1, [], Sl.nil⟩, ⟨4, 0, [98], Sl.nil⟩]) (l := [vN 1, vT [98]]) rfl (fun B => ⟨Qdp _ _, QdU _ _, trivial⟩) rfl fun b3 E3 e3 r3 => ?_))
 refine Qbf (nwR (xs := [⟨2, 1, [], Sl.nil⟩]) (l := [vN 1]) rfl (fun B => ⟨Qdp _ _, trivial⟩) rfl fun b4 E4 e4 r4 => ?_)
 have f1 := e1.trans (e2.trans e3)
 refine nwRs (H0 := H2) (f1.trans e4) (ts := [Sl.of (some (b1, 0)) 2 2, Sl.of (some (b2, 0)) 2 2, Sl.of (some (b3, 0)) 2 2, Sl.of (some (b4, 0)) 1 1]) (ls := exP) (n := 4) rfl (fun i y l hy hl => ?_) rfl rfl fun b5 E5 e5 r5 => ?_
 ·match i with
  | 0 => simp [exP] at hy hl; subst hy; subst hl; exact r1.le (Qz (Heap.le.refl _) (e2.trans (e3.trans e4)))
  | 1 => simp [exP] at hy hl; subst hy; subst hl; exact r2.le (Qz e1 (e3.trans e4))
  | 2 => simp [exP] at hy hl; subst hy; subst hl; exact r3.le (Qz (e1.trans e2) e4)
  | 3 => simp [exP] at hy hl; subst hy; subst hl; exact r4.le (Qz f1 (Heap.le.refl _))
  | i + 4 => simp at hy
 ·have hle : H2.le E5 := e1.trans (e2.trans (e3.trans (e4.trans e5)))
  have hI5 := hI.up hle
  have hB : Bs o (Heap.new H2 E5) E5 := Qcc hI.oh hle
  refine QkB hI5 hB r5 (fun l hl => (QiN l hl).1) (by decide) fun o2 A2 D R2 m1 m2 m3 m4 => ?_
  refine k x o2 A2 D R2 (fun c e hc => ?_) (fun c w hw => ?_) (fun c hc => ?_) m2 (fun r => ?_) m4
  ·exact m1.c.kp c e (hle _ _ (h1 _ _ hc)) fun w hw _ => by rw [h2 c w hw] at hc; cases hc
  ·rcases m1.c.dn c w hw with q | ⟨q, _⟩
   ·exact h2 c w q
   ·exact h1.none (hle.none q)
  ·rcases m1.n c hc with q | q
   ·exact h3 c q
   ·exact h1.none (hle.none q)
  ·rw [m3]
   exact ⟨fun h => h.elim (fun h => by cases h) fun h => h.1, fun h => .inr ⟨h, (QiN r h).2⟩⟩
end
end
section
open Go Go.Proofs
def picksB (ps : List Int) (vs r : List V) : Bool := match picks r ps with
 | some q => sameVs q vs
 | none => false
theorem Qiu {ps : List Int} {vs r : List V} : picksB ps vs r = true ↔ picks r ps = some vs := by
 unfold picksB
 cases h : picks r ps with
 | none => simp
 | some q => simp [Qe7]
theorem Rise.nodup {T : List (List V)} (h : Rise T) : T.Nodup := h.imp fun {a b} hab e => by
 rw [e, Lin.row.refl trivial] at hab; omega
theorem Rise.filter {T : List (List V)} {f : List V → Bool} (h : Rise T) : Rise (T.filter f) := List.Pairwise.filter _ h
section
variable {C : Ctx} {o o2 : Own_} {A A2 B H H2 D : Heap} {x : Nat} {R R' S T : List (List V)} {s t : Sl} {ys : List Sl} {ps : List Int} {vs : List V}
/-- what is told of an index whose rows are known, rising -/
theorem Qdo (hS : Rise S) (hR : ∀ r, r ∈ R ↔ r ∈ S) (hT : Told D H2 R' T s ys) (hR' : ∀ r, r ∈ R' ↔ r ∈ R ∧ picks r ps = some vs) : T = S.filter (picksB ps vs) := by
 refine Qih hT.rise hS.filter fun r => ?_
 rw [hT.mem, hR', List.mem_filter, Qiu, hR]
theorem QjZ (hS : Rise S) (hR : ∀ r, r ∈ R ↔ r ∈ S) (hT : Told D H2 R T s ys) : T = S := by
 refine Qih hT.rise hS fun r => ?_
 rw [hT.mem, hR]
theorem IX.len_of (h : IX o A H x R) (hS : Rise S) (hR : ∀ r, r ∈ R ↔ r ∈ S) : R.length = S.length := ((List.perm_ext_iff_of_nodup h.n hS.nodup).2 hR).length_eq
theorem Told.le (h : Told D H2 R T s ys) : D.le H2 := h.og.own.le
theorem QgP {l : List V} (h : VRow B t l) (hl : okRow l) : Ask B t l := ⟨h, hl.1, hl.2⟩
theorem Qf3 {l : List (List V)} (h : ∀ r ∈ l, okRow r) : ∀ r ∈ l, VBs r ∧ r.length ≤ 140737488355328 := fun r hr => ⟨(h r hr).1.1, by have := (h r hr).1.2.1; omega⟩
theorem QiO : ∀ l ∈ exS, okRow l := fun l hl => (QiN l ((QgU l).1 hl)).1
theorem QhQ : exS.filter (picksB [1] [vT [97]]) = [[vN 1, vT [97]], [vN 2, vT [97]]] := by rfl
theorem QiP : exS.filter (picksB [0, 1] [vN 1, vT [98]]) = [[vN 1, vT [98]]] := by rfl
theorem Qkp : exS.filter (picksB [5] [vN 1]) = [] := by rfl
theorem okl : okRow [vT [97]] ∧ okRow [vN 1, vT [98]] ∧ okRow [vN 1] := by
 refine ⟨?_, ?_, ?_⟩ <;> refine ⟨⟨?_, ?_, ?_⟩, ?_⟩ <;> simp [vN, vT, VBs, VB, vsizes, vsize, vtot, vtots]
theorem psok {ps : List Int} (h : ps.all (fun p => decide (-9223372036854775808 ≤ p) && decide (p ≤ 9223372036854775807)) = true) (hl : ps.length ≤ 10000) : PsOk ps := ⟨hl, fun p hp => by
 have := List.all_eq_true.1 h p hp
 rw [Bool.and_eq_true] at this
 exact ⟨of_decide_eq_true this.1, of_decide_eq_true this.2⟩⟩
theorem Qj3 (hFm : FmtC C) {K : Bool → Heap → Prop} (k : ∀ H2, H.le H2 → K true H2) : Qc8 C K H := by
 apply Qgg
 unfold Qed
 obtain ⟨ok1, ok2, ok3⟩ := okl
 refine Qe1 fun x o A H2 R h1 h2 h3 hI hR _ => ?_
 have hRS : ∀ r, r ∈ R ↔ r ∈ exS := fun r => (hR r).trans (QgU r).symm
 have bH : Bs o H H2 := ⟨h1, fun c w hw => h2 c w hw⟩
 -- the first look
 refine nwI (ps := [1]) rfl rfl (by simp) fun b3 E1 e1 p1 => ?_
 refine QaH (nwR (xs := [⟨4, 0, [97], Sl.nil⟩]) (l := [vT [97]]) rfl (fun B => ⟨QdU _ _, trivial⟩) rfl fun b7 E2 e2 r7 => ?_)
 have f2 := e1.trans e2
 refine IX.look hFm (hI.up f2) (Qcc hI.oh f2) (ps := [1]) (vs := [vT [97]]) (SlIs.le (Qz (Heap.le.refl _) e2) p1 fun _ _ _ h => h) (QgP (r7.le (Qz e1 (Heap.le.refl _))) ok1) (psok (by decide) (by simp)) rfl fun oa Aa Da Ta sa ya Ra Ha ma ia ta qa => ?_
 have Ea := Qdo Qdc hRS ta qa
 rw [QhQ] at Ea
 have iA := ia.up ta.le
 have bA : Bs oa H Ha := ((bH.up f2).mv ma).up ta.le
 have nA := ta.bs ia.oh
 have rA := ta.rows
 -- the second
 refine nwI (ps := [0, 1]) rfl rfl (by simp) fun b12 E3 e3 p3 => ?_
 refine Qbf (QaH (nwR (xs := [⟨2, 1, [], Sl.nil⟩, ⟨4, 0, [98], Sl.nil⟩]) (l := [vN 1, vT [98]]) rfl (fun B => ⟨Qdp _ _, QdU _ _, trivial⟩) rfl fun b18 E4 e4 r18 => ?_))
 have f4 := e3.trans e4
 refine IX.look hFm (iA.up f4) (Qcc iA.oh f4) (ps := [0, 1]) (vs := [vN 1, vT [98]]) (SlIs.le (Qz (Heap.le.refl _) e4) p3 fun _ _ _ h => h) (QgP (r18.le (Qz e3 (Heap.le.refl _))) ok2) (psok (by decide) (by simp)) rfl fun ob Ab Db Tb sb yb Rb Hb mb ib tb qb => ?_
 have Eb := Qdo Qdc hRS tb qb
 rw [QiP] at Eb
 have iB := ib.up tb.le
 have bB : Bs ob H Hb := ((bA.up f4).mv mb).up tb.le
 have nA2 := ((nA.up f4).mv mb).up tb.le
 have nB := tb.bs ib.oh
 have rB := tb.rows
 -- the third
 refine nwI (ps := [5]) rfl rfl (by simp) fun b23 E5 e5 p5 => ?_
 refine Qbf (nwR (xs := [⟨2, 1, [], Sl.nil⟩]) (l := [vN 1]) rfl (fun B => ⟨Qdp _ _, trivial⟩) rfl fun b27 E6 e6 r27 => ?_)
 have f6 := e5.trans e6
 refine IX.look hFm (iB.up f6) (Qcc iB.oh f6) (ps := [5]) (vs := [vN 1]) (SlIs.le (Qz (Heap.le.refl _) e6) p5 fun _ _ _ h => h) (QgP (r27.le (Qz e5 (Heap.le.refl _))) ok3) (psok (by decide) (by simp)) rfl fun oc Ac Dc Tc sc yc Rc Hc mc ic tc qc => ?_
 have Ec := Qdo Qdc hRS tc qc
 rw [Qkp] at Ec
 have iC := ic.up tc.le
 have bC : Bs oc H Hc := ((bB.up f6).mv mc).up tc.le
 have nA3 := ((nA2.up f6).mv mc).up tc.le
 have nB2 := ((nB.up f6).mv mc).up tc.le
 have lC := tc.rows.len
 rw [Ec] at lC
 refine iC.len ?_
 rw [iC.len_of Qdc hRS]
 refine jn.inl (Qq rfl ?_)
 refine iC.all fun T s ys H3 tT => ?_
 have ET := QjZ Qdc hRS tT
 have lT := tT.le
 have rT := tT.rows
 rw [ET] at rT
 refine Qbf (nwR (xs := [⟨2, 1, [], Sl.nil⟩]) (l := [vN 1]) rfl (fun B => ⟨Qdp _ _, trivial⟩) rfl fun b1 G1 g1 r1 => ?_)
 refine Qbf (QaH (nwR (xs := [⟨2, 1, [], Sl.nil⟩, ⟨4, 0, [97], Sl.nil⟩]) (l := [vN 1, vT [97]]) rfl (fun B => ⟨Qdp _ _, QdU _ _, trivial⟩) rfl fun b2 G2 g2 r2 => ?_))
 refine Qbf (QaH (nwR (xs := [⟨2, 1, [], Sl.nil⟩, ⟨4, 0, [98], Sl.nil⟩]) (l := [vN 1, vT [98]]) rfl (fun B => ⟨Qdp _ _, QdU _ _, trivial⟩) rfl fun b3' G3 g3 r3 => ?_))
 refine Qbf (QaH (nwR (xs := [⟨2, 2, [], Sl.nil⟩, ⟨4, 0, [97], Sl.nil⟩]) (l := [vN 2, vT [97]]) rfl (fun B => ⟨Qdp _ _, QdU _ _, trivial⟩) rfl fun b4 G4 g4 r4 => ?_))
 have w3 := g1.trans (g2.trans g3)
 refine nwRs (H0 := H3) (w3.trans g4) (ts := [Sl.of (some (b1, 0)) 1 1, Sl.of (some (b2, 0)) 2 2, Sl.of (some (b3', 0)) 2 2, Sl.of (some (b4, 0)) 2 2]) (ls := exS) (n := 4) rfl (fun i y l hy hl => ?_) rfl rfl fun b5 G5 g5 r5 => ?_
 ·match i with
  | 0 => simp [exS] at hy hl; subst hy; subst hl; exact r1.le (Qz (Heap.le.refl _) (g2.trans (g3.trans g4)))
  | 1 => simp [exS] at hy hl; subst hy; subst hl; exact r2.le (Qz g1 (g3.trans g4))
  | 2 => simp [exS] at hy hl; subst hy; subst hl; exact r3.le (Qz (g1.trans g2) g4)
  | 3 => simp [exS] at hy hl; subst hy; subst hl; exact r4.le (Qz w3 (Heap.le.refl _))
  | i + 4 => simp at hy
 have w5 := w3.trans (g4.trans g5)
 have hC5 : Hc.le G5 := lT.trans w5
 refine QbI rT r5 ((Heap.new_le _ _).trans w5) (Heap.new_le _ _) (by decide) (Qf3 QiO) ?_
 -- the first look's rows
 refine jn.inl (Qq rfl ?_)
 rw [Ea] at rA
 refine Qbf (QaH (nwR (xs := [⟨2, 1, [], Sl.nil⟩, ⟨4, 0, [97], Sl.nil⟩]) (l := [vN 1, vT [97]]) rfl (fun B => ⟨Qdp _ _, QdU _ _, trivial⟩) rfl fun c1 I1 i1 s1 => ?_))
 refine Qbf (QaH (nwR (xs := [⟨2, 2, [], Sl.nil⟩, ⟨4, 0, [97], Sl.nil⟩]) (l := [vN 2, vT [97]]) rfl (fun B => ⟨Qdp _ _, QdU _ _, trivial⟩) rfl fun c2 I2 i2 s2 => ?_))
 refine nwRs (H0 := G5) (i1.trans i2) (ts := [Sl.of (some (c1, 0)) 2 2, Sl.of (some (c2, 0)) 2 2]) (ls := [[vN 1, vT [97]], [vN 2, vT [97]]]) (n := 2) rfl (fun i y l hy hl => ?_) rfl rfl fun c3 I3 i3 s3 => ?_
 ·match i with
  | 0 => simp at hy hl; subst hy; subst hl; exact s1.le (Qz (Heap.le.refl _) i2)
  | 1 => simp at hy hl; subst hy; subst hl; exact s2.le (Qz i1 (Heap.le.refl _))
  | i + 2 => simp at hy
 have hC6 : Hc.le I3 := hC5.trans (i1.trans (i2.trans i3))
 have okA : ∀ r ∈ [[vN 1, vT [97]], [vN 2, vT [97]]], okRow r := by rw [← QhQ]; exact fun r hr => QiO r (List.mem_filter.1 hr).1
 have okB : ∀ r ∈ [[vN 1, vT [98]]], okRow r := by rw [← QiP]; exact fun r hr => QiO r (List.mem_filter.1 hr).1
 refine QbI rA s3 (nA3.le.trans hC6) (Heap.new_le _ _) (by decide) (Qf3 okA) ?_
 -- the second look's rows
 refine jn.inl (Qq rfl ?_)
 rw [Eb] at rB
 refine Qbf (QaH (nwR (xs := [⟨2, 1, [], Sl.nil⟩, ⟨4, 0, [98], Sl.nil⟩]) (l := [vN 1, vT [98]]) rfl (fun B => ⟨Qdp _ _, QdU _ _, trivial⟩) rfl fun d1 J1 j1 u1 => ?_))
 refine nwRs (H0 := I3) j1 (ts := [Sl.of (some (d1, 0)) 2 2]) (ls := [[vN 1, vT [98]]]) (n := 1) rfl (fun i y l hy hl => ?_) rfl rfl fun d3 J3 j3 u3 => ?_
 ·match i with
  | 0 => simp at hy hl; subst hy; subst hl; exact u1
  | i + 1 => simp at hy
 have hC7 : Hc.le J3 := hC6.trans (j1.trans j3)
 refine QbI rB u3 (nB2.le.trans hC7) (Heap.new_le _ _) (by decide) (Qf3 okB) ?_
 rw [lC]
 exact k J3 (bC.le.trans hC7)
end
end
section
open Go Go.Proofs
mutual
def pV : V → Nat
 | .mk _ _ s l => 1 + s.length / 64 + pVs l
def pVs : List V → Nat
 | [] => 0
 | v :: l => pV v + pVs l
end
/-- the parts ahead of a place, as they are counted -/
def pre (l : List V) (i : Nat) : Nat := l.length + ((l.take i).map fun v => pVs v.l + v.s.length / 64).sum
section
variable {C : Ctx}
end
end
section
open Go Go.Proofs
section
variable {C : Ctx} {B N H D : Heap} {s : Sl} {ls : List (List V)}
end
end
section
open Go Go.Proofs
/-- two indexes, and a part of memory that both keep -/
structure S2 (N D : Heap) (x y : Nat) (ox : Own_) (Ax : Heap) (oy : Own_) (Ay : Heap) (Rx Ry : List (List V)) : Prop where
 ix : IX ox Ax D x Rx
 iy : IX oy Ay D y Ry
 dj : Dj ox Ax oy Ay
 bx : Bs ox N D
 bz : Bs oy N D
section
variable {C : Ctx} {B N D D2 H Ax Ay A2 : Heap} {x y : Nat} {ox oy o2 : Own_} {Rx Ry R2 : List (List V)} {s : Sl} {ls : List (List V)}
theorem S2.stepy (h : S2 N D x y ox Ax oy Ay Rx Ry) (hm : Mv oy Ay D o2 A2 D2) (hi : IX o2 A2 D2 y R2) : S2 N D2 x y ox Ax o2 A2 Rx R2 := by
 obtain ⟨q1, q2⟩ := h.ix.other hm h.dj.symm
 have b2 := h.bz.mv hm
 exact ⟨q1, hi, q2.symm, ⟨b2.le, h.bx.ap⟩, b2⟩
theorem S2.up (h : S2 N D x y ox Ax oy Ay Rx Ry) (hle : D.le D2) : S2 N D2 x y ox Ax oy Ay Rx Ry := ⟨h.ix.up hle, h.iy.up hle, h.dj, h.bx.up hle, h.bz.up hle⟩
end
end
section
open Go Go.Proofs
section
variable {C : Ctx} {o o2 : Own_} {A A2 B H H2 D : Heap} {x m : Nat} {R : List (List V)}
end
end
section
open Go Go.Proofs
section
variable {C : Ctx} {o : Own_} {A B H D : Heap} {x c : Nat} {R S : List (List V)} {s t : Sl} {ps : List Int} {vs : List V}
theorem IX.lookBad (hFm : FmtC C) {K : Sl → Int → Heap → Prop} (h : IX o A H x R) (hb : Bs o B H) (hp : IL B s ps) (ha : Ask B t vs) (hps : PsOk ps) (hl : ps.length ≠ vs.length) (k : K Sl.nil 1 H) : Qe C (some (x, 0)) s t K H := by
 obtain ⟨⟨m, g, L, p⟩, q1, q2, q3, q4⟩ := h
 exact Qiz hFm p q1 q2 q3 (by omega) hp ha.v hb.le hps ha.f (fun _ => k) (fun h => absurd h hl) fun h => absurd h hl
/-- a block that is nobody's is written -/
theorem IX.putN {g : GO} {mu : Bool} (h : IX o A H x R) (ho : o c = none) (hA : A c = none) : IX o A (H.put c g mu) x R := by
 have hO := h.oh
 obtain ⟨⟨m, g', L, p⟩, q⟩ := h
 refine ⟨⟨m, g', L, p.keep (fun d e hd => ?_) fun d w hw => ?_⟩, by assumption, by assumption, by assumption, by assumption⟩
 ·have : d ≠ c := fun e' => by rw [e', hA] at hd; cases hd
  rw [Heap.put_ne _ _ _ this]; exact hO.le d e hd
 ·have : d ≠ c := fun e' => by rw [e', ho] at hw; cases hw
  rw [Heap.put_ne _ _ _ this]
theorem Qi0 : (∀ {s : Sl} {K : Bool → Int → Heap → Prop}, K false 2 H → Qr C none s K H) ∧ (∀ {s : Sl} {K : Bool → Int → Heap → Prop}, K false 2 H → Qw C none s K H) ∧ (∀ {s t : Sl} {K : Sl → Int → Heap → Prop}, K Sl.nil 2 H → Qe C none s t K H) ∧ (∀ {s : Sl} {K : Bool → Heap → Prop}, K false H → QS C none s K H) ∧ (∀ {K : Int → Heap → Prop}, K 0 H → QT C none K H) ∧ (∀ {K : Sl → Heap → Prop}, K Sl.nil H → QR C none K H) ∧ ∀ {K : Option (Nat × Nat) → Heap → Prop}, K none H → Qbd C none K H := by
 refine ⟨fun h => ?_, fun h => ?_, fun h => ?_, fun h => ?_, fun h => ?_, fun h => ?_, fun h => ?_⟩
 ·exact Qb9 _ _ _ _ _ (Qq rfl h)
 ·exact Qb6 _ _ _ _ _ (Qq rfl h)
 ·exact QbM _ _ _ _ _ _ (Qq rfl h)
 ·exact Qb7 _ _ _ _ _ (Qq rfl h)
 ·exact Qb8 _ _ _ _ (Qq rfl h)
 ·exact Qb5 _ _ _ _ (Qq rfl h)
 ·exact Qek _ _ _ _ (Qq rfl h)
def vZ : V := .mk 0 0 [] []
theorem QkI (H : Heap) : VIs H vZ ⟨0, 0, [], Sl.nil⟩ := ⟨rfl, rfl, rfl, [], .inl rfl, rfl, trivial⟩
theorem VRow.nil : VRow H Sl.nil [] := ⟨[], .inl rfl, rfl, trivial⟩
theorem IL.nil : IL H Sl.nil [] := ⟨[], .inl rfl, rfl, rfl, Nat.zero_le _, fun i v y hv => by simp at hv⟩
theorem okz : okRow [vZ] ∧ okRow [] ∧ okRow [vN 3, vT [97]] ∧ okRow [vN 1, vT [97]] := by
 refine ⟨?_, ?_, ?_, ?_⟩ <;> refine ⟨⟨?_, ?_, ?_⟩, ?_⟩ <;> simp [vN, vT, vZ, VBs, VB, vsizes, vsize, vtot, vtots]
def s1 : List (List V) := [[vN 1, vT [97]], [vN 1, vT [98]], [vN 2, vT [97]]]
def s2 : List (List V) := [[], [vN 1, vT [97]], [vN 1, vT [98]], [vN 2, vT [97]]]
def s3 : List (List V) := [[vN 1], [vN 1, vT [98]], [vN 2, vT [97]], [vN 3, vT [97]]]
theorem Qk8 : Rise s1 ∧ Rise s2 ∧ Rise s3 := by
 refine ⟨?_, ?_, ?_⟩ <;> unfold Rise <;> first | unfold s1 | unfold s2 | unfold s3
 all_goals
  simp only [List.pairwise_cons, List.mem_cons, List.not_mem_nil, or_false, forall_eq_or_imp, forall_eq, List.Pairwise.nil, and_true, false_implies, implies_true]
  decide +kernel
theorem Qlf : s1.filter (picksB [] []) = s1 ∧ s2.filter (picksB [0] [vZ]) = [] ∧ s3.filter (picksB [1] [vT [97]]) = [[vN 2, vT [97]], [vN 3, vT [97]]] := ⟨rfl, rfl, rfl⟩
theorem Qld : mayR [vZ] = false ∧ mayR ([] : List V) = true ∧ mayR [vN 3, vT [97]] = true ∧ mayR [vN 1, vT [97]] = true ∧ mayR [vN 1] = true := by decide +kernel
theorem Qbq {a b : List V} (h : sameVs a b = false) : a ≠ b := fun e => by rw [Qe7.2 e] at h; cases h
theorem Qjf (r : List V) : r ∈ s1 ↔ r ∈ exP ∧ r ≠ [vN 1] := by
 have n1 : [vN 1, vT [97]] ≠ [vN 1] := Qbq rfl
 have n2 : [vN 1, vT [98]] ≠ [vN 1] := Qbq rfl
 have n3 : [vN 2, vT [97]] ≠ [vN 1] := Qbq rfl
 simp only [s1, exP, List.mem_cons, List.not_mem_nil, or_false]
 constructor
 ·rintro (rfl | rfl | rfl)
  ·exact ⟨.inl rfl, n1⟩
  ·exact ⟨.inr (.inr (.inl rfl)), n2⟩
  ·exact ⟨.inr (.inl rfl), n3⟩
 ·rintro ⟨rfl | rfl | rfl | rfl, h⟩
  ·exact .inl rfl
  ·exact .inr (.inr rfl)
  ·exact .inr (.inl rfl)
  ·exact absurd rfl h
theorem Qk7 (r : List V) : r ∈ s3 ↔ (r ∈ exP ∨ r = [vN 3, vT [97]]) ∧ r ≠ [vN 1, vT [97]] := by
 have n1 : [vN 1] ≠ [vN 1, vT [97]] := Qbq rfl
 have n2 : [vN 1, vT [98]] ≠ [vN 1, vT [97]] := Qbq rfl
 have n3 : [vN 2, vT [97]] ≠ [vN 1, vT [97]] := Qbq rfl
 have n4 : [vN 3, vT [97]] ≠ [vN 1, vT [97]] := Qbq rfl
 simp only [s3, exP, List.mem_cons, List.not_mem_nil, or_false]
 constructor
 ·rintro (rfl | rfl | rfl | rfl)
  ·exact ⟨.inl (.inr (.inr (.inr rfl))), n1⟩
  ·exact ⟨.inl (.inr (.inr (.inl rfl))), n2⟩
  ·exact ⟨.inl (.inr (.inl rfl)), n3⟩
  ·exact ⟨.inr rfl, n4⟩
 ·rintro ⟨(rfl | rfl | rfl | rfl) | rfl, h⟩
  ·exact absurd rfl h
  ·exact .inr (.inr (.inl rfl))
  ·exact .inr (.inl rfl)
  ·exact .inl rfl
  ·exact .inr (.inr (.inr rfl))
theorem Qc4 {H0 H2 : Heap} {t : Sl} {l : List V} (h : VRow (Heap.new H0 H2) t l) (hl : okRow l) : Ask (Heap.new H0 H2) t l := ⟨h, hl.1, hl.2⟩
theorem QgH (hFm : FmtC C) {K : Bool → Heap → Prop} (k : ∀ H2, K true H2) : Q0 C K H := by
 apply Qel
 unfold Qb1
 obtain ⟨kz, ke, k3, k1a⟩ := okz
 obtain ⟨kA, _, kN⟩ := okl
 obtain ⟨mz, me, m3, m1a, m1⟩ := Qld
 obtain ⟨r1, r2, r3⟩ := Qk8
 obtain ⟨f1, f2, f3⟩ := Qlf
 refine Qj3 hFm fun H1 h1 => ?_
 refine Qh rfl ?_
 refine Qe1 fun x o A H2 R e1 e2 e3 hI hR _ => ?_
 have in1 : [vN 1] ∈ R := (hR _).2 (by simp [exP])
 -- x.Del([1]), twice
 refine Qbf (nwR (xs := [⟨2, 1, [], Sl.nil⟩]) (l := [vN 1]) rfl (fun B => ⟨Qdp _ _, trivial⟩) rfl fun b1 E1 g1 w1 => ?_)
 refine (hI.up g1).del (Qcc hI.oh g1) (Qc4 w1 kN) fun a1 x1 o1 H3 R1 c1 i1 q1 b1' _ _ => ?_
 have ha1 : a1 = true := b1'.2 in1
 have hR1 : ∀ r, r ∈ R1 ↔ r ∈ s1 := fun r => by rw [q1, hR, Qjf]
 refine Qbf (nwR (xs := [⟨2, 1, [], Sl.nil⟩]) (l := [vN 1]) rfl (fun B => ⟨Qdp _ _, trivial⟩) rfl fun b2 E2 g2 w2 => ?_)
 refine (i1.up g2).del (Qcc i1.oh g2) (Qc4 w2 kN) fun a2 x2 o2 H4 R2 c2 i2 q2 b2' _ _ => ?_
 have ha2 : a2 = false := by
  cases a2 with
  | false => rfl
  | true => exact absurd rfl ((Qjf _).1 ((hR1 _).1 (b2'.1 rfl))).2
 have hR2 : ∀ r, r ∈ R2 ↔ r ∈ s1 := fun r => by
  rw [q2, hR1]
  exact ⟨fun h => h.1, fun h => ⟨h, ((Qjf r).1 h).2⟩⟩
 -- x.Look([0], nil)
 refine nwI (ps := [0]) rfl rfl (by simp) fun b3 E3 g3 p3 => ?_
 refine (i2.up g3).lookBad hFm (Qcc i2.oh g3) p3 (vs := []) ⟨VRow.nil, ke.1, ke.2⟩ (psok (by decide) (by simp)) (by simp) ?_
 -- x.Put([{}]), x.Del([{}])
 refine nwR (xs := [⟨0, 0, [], Sl.nil⟩]) (l := [vZ]) rfl (fun B => ⟨QkI _, trivial⟩) rfl fun b4 E4 g4 w4 => ?_
 have i3 := (i2.up g3).up g4
 refine i3.put (by have := i2.len_of r1 hR2; rw [this]; decide) (Qcc (i2.up g3).oh g4) (Qc4 w4 kz) fun a3 x3 o3 A3 H5 R3 c3 i4 q3 _ e4 _ => ?_
 rw [mz] at e4
 have hR3 : ∀ r, r ∈ R3 ↔ r ∈ s1 := fun r => by rw [q3, hR2, mz]; simp
 refine nwR (xs := [⟨0, 0, [], Sl.nil⟩]) (l := [vZ]) rfl (fun B => ⟨QkI _, trivial⟩) rfl fun b5 E5 g5 w5 => ?_
 refine (i4.up g5).del (Qcc i4.oh g5) (Qc4 w5 kz) fun a4 x4 o4 H6 R4 c4 i5 q4 _ e5 _ => ?_
 rw [mz] at e5
 have hR4 : ∀ r, r ∈ R4 ↔ r ∈ s1 := fun r => by
  rw [q4, hR3]
  refine ⟨fun h => h.1, fun h => ⟨h, fun e => ?_⟩⟩
  have := (i4.f r ((hR3 r).2 h)).2
  rw [e, mz] at this; cases this
 -- x.Look(nil, nil)
 refine i5.look hFm (B := Heap.wo_ o4 H6) Bs.wo IL.nil (ps := []) (vs := []) ⟨VRow.nil, ke.1, ke.2⟩ (psok (by decide) (by simp)) rfl fun o5 A5 D5 T5 t5 y5 R5 H7 c5 i6 u5 v5 => ?_
 have T5e := Qdo r1 hR4 u5 v5
 rw [f1] at T5e
 have l5 := u5.rows.len
 rw [T5e] at l5
 have i6 := i6.up u5.le
 -- x.Put(nil)
 refine i6.put (by have := i6.len_of r1 hR4; rw [this]; decide) (B := Heap.wo_ o5 H7) Bs.wo ⟨VRow.nil, ke.1, ke.2⟩ fun a6 x6 o6 A6 H8 R6 c6 i7 q6 b6 e6 _ => ?_
 rw [me] at e6
 have nin : ([] : List V) ∉ R4 := fun h => by
  have := (hR4 _).1 h
  simp [s1] at this
 have ha6 : a6 = true := b6.2 ⟨me, nin⟩
 have hR6 : ∀ r, r ∈ R6 ↔ r ∈ s2 := fun r => by
  rw [q6, hR4, me]
  simp only [s1, s2, List.mem_cons, List.not_mem_nil, or_false, and_true]
  exact ⟨fun h => h.elim .inr .inl, fun h => h.elim .inr .inl⟩
 -- x.Look([0], [{}])
 refine nwI (ps := [0]) rfl rfl (by simp) fun b7 E7 g7 p7 => ?_
 refine nwR (xs := [⟨0, 0, [], Sl.nil⟩]) (l := [vZ]) rfl (fun B => ⟨QkI _, trivial⟩) rfl fun b8 E8 g8 w8 => ?_
 have g78 := g7.trans g8
 refine (i7.up g78).look hFm (Qcc i7.oh g78) (ps := [0]) (vs := [vZ]) (SlIs.le (Qz (Heap.le.refl _) g8) p7 fun _ _ _ h => h) (Qc4 (w8.le (Qz g7 (Heap.le.refl _))) kz) (psok (by decide) (by simp)) rfl fun o7 A7 D7 T7 t7 y7 R7 H9 c7 i8 u7 v7 => ?_
 have T7e := Qdo r2 hR6 u7 v7
 rw [f2] at T7e
 have l7 := u7.rows.len
 rw [T7e] at l7
 have i8 := i8.up u7.le
 -- another
 refine Qe1 fun z oz Az Hz Rz d1 d2 d3 jz hRz _ => ?_
 have hRz : ∀ r, r ∈ Rz ↔ r ∈ exS := fun r => (hRz r).trans (QgU r).symm
 have hdj : Dj o7 A7 oz Az := by
  refine ⟨fun c w hw => ⟨?_, ?_⟩, fun c w hw => i8.oh.le.none (d2 c w hw)⟩
  ·cases he : oz c with
   | none => rfl
   | some w' => exact absurd (d2 c w' he) (i8.oh.oh c w hw)
  ·cases he : Az c with
   | none => rfl
   | some e => exact absurd (d3 c (by rw [he]; simp)) (i8.oh.oh c w hw)
 have hS : S2 (fun _ => none) Hz x z o7 A7 oz Az R6 Rz := ⟨i8.up d1, jz, hdj, ⟨(fun c e h => by cases h), fun _ _ _ => rfl⟩, ⟨(fun c e h => by cases h), fun _ _ _ => rfl⟩⟩
 intro bp np
 have gp := Heap.le_put np (g := .row [.int .i64 1]) (m := true)
 have hpl : IL (Heap.new Hz (Hz.put bp (.row [.int .i64 1]))) (Sl.of (some (bp, 0)) 1 1) [1] := ⟨[1], .inr ⟨rfl, (bp, 0), rfl, Qig np⟩, rfl, rfl, by simp, fun i v y h1 h2 => by rw [h1] at h2; injection h2 with h2; exact h2.symm⟩
 have hat : (Hz.put bp (.row [.int .i64 1])) bp = some (true, .row [.int .i64 1]) := Heap.put_same ..
 have hzo : ∀ w, oz bp = some w → False := fun w hw => jz.oh.oh bp w hw np
 have hzA : Az bp = none := jz.oh.le.none np
 have hxo : ∀ w, o7 bp = some w → False := fun w hw => hS.ix.oh.oh bp w hw np
 have hxA : A7 bp = none := hS.ix.oh.le.none np
 generalize Hz.put bp (.row [.int .i64 1]) = Hp at *
 refine QaH (nwR (xs := [⟨4, 0, [97], Sl.nil⟩]) (l := [vT [97]]) rfl (fun B => ⟨QdU _ _, trivial⟩) rfl fun b9 E9 g9 w9 => ?_)
 have gz := gp.trans g9
 have hS1 := hS.up gz
 refine hS1.iy.look hFm (Qcc jz.oh gz) (ps := [1]) (vs := [vT [97]]) (SlIs.le (Qz (Heap.le.refl _) g9) hpl fun _ _ _ h => h) (Qc4 (w9.le (Qz gp (Heap.le.refl _))) kA) (psok (by decide) (by simp)) rfl fun o9 A9 D9 T9 t9 y9 R9 H10 c9 i9 u9 v9 => ?_
 have T9e := Qdo Qdc hRz u9 v9
 rw [QhQ] at T9e
 have l9 := u9.rows.len
 rw [T9e] at l9
 have hS2 := (hS1.stepy c9 i9).up u9.le
 have hE9 : E9 bp = some (true, .row [.int .i64 1]) := g9 _ _ hat
 have hD9 : D9 bp = some (true, .row [.int .i64 1]) := c9.c.kp _ _ hE9 fun w hw => (hzo w hw).elim
 have hH10 := u9.le _ _ hD9
 have hzo9 : o9 bp = none := by
  cases he : o9 bp with
  | none => rfl
  | some w =>
   rcases c9.c.dn _ _ he with h | ⟨h, _⟩
   ·exact (hzo w h).elim
   ·rw [hE9] at h; cases h
 have hzA9 : A9 bp = none := by
  cases he : A9 bp with
  | none => rfl
  | some e =>
   rcases c9.n bp (by rw [he]; simp) with h | h
   ·exact absurd hzA h
   ·rw [hE9] at h; cases h
 have hxo9 : o7 bp = none := by
  cases he : o7 bp with
  | none => rfl
  | some w => exact (hxo w he).elim
 refine ⟨(bp, 0), rfl, rfl, by omega, by simp, ⟨_, hH10, by simp, ?_⟩⟩
 have hS3 : S2 (fun _ => none) (H10.put bp (.row ((List.set [Value.int .i64 1] (0 + (0 : Int).toNat * 1) (.int .i64 0))))) x z o7 A7 o9 A9 R6 Rz := ⟨hS2.ix.putN hxo9 hxA, hS2.iy.putN hzo9 hzA9, hS2.dj, ⟨(fun c e h => by cases h), fun _ _ _ => rfl⟩, ⟨(fun c e h => by cases h), fun _ _ _ => rfl⟩⟩
 show Qf C 3 _ (H10.put bp (.row ((List.set [Value.int .i64 1] (0 + (0 : Int).toNat * 1) (.int .i64 0)))))
 generalize H10.put bp (.row ((List.set [Value.int .i64 1] (0 + (0 : Int).toNat * 1) (.int .i64 0)))) = H11 at *
 -- z.Put([3, a]), z.Del([1, a])
 refine Qbf (QaH (nwR (xs := [⟨2, 3, [], Sl.nil⟩, ⟨4, 0, [97], Sl.nil⟩]) (l := [vN 3, vT [97]]) rfl (fun B => ⟨Qdp _ _, QdU _ _, trivial⟩) rfl fun b10 E10 g10 w10 => ?_))
 have hS4 := hS3.up g10
 refine hS4.iy.put (by have := hS4.iy.len_of Qdc hRz; rw [this]; decide) (Qcc hS3.iy.oh g10) (Qc4 w10 k3) fun a10 x10 o10 A10 H12 R10 c10 i10 q10 _ _ _ => ?_
 have hS5 := hS4.stepy c10 i10
 refine Qbf (QaH (nwR (xs := [⟨2, 1, [], Sl.nil⟩, ⟨4, 0, [97], Sl.nil⟩]) (l := [vN 1, vT [97]]) rfl (fun B => ⟨Qdp _ _, QdU _ _, trivial⟩) rfl fun b11 E11 g11 w11 => ?_))
 have hS6 := hS5.up g11
 refine hS6.iy.del (Qcc hS5.iy.oh g11) (Qc4 w11 k1a) fun a11 x11 o11 H13 R11 c11 i11 q11 _ _ _ => ?_
 have hS7 := hS6.stepy c11 i11
 have hR11 : ∀ r, r ∈ R11 ↔ r ∈ s3 := fun r => by
  rw [q11, q10, hRz, QgU, Qk7, m3]; simp
 refine nwI (ps := [1]) rfl rfl (by simp) fun b12 E12 g12 p12 => ?_
 refine QaH (nwR (xs := [⟨4, 0, [97], Sl.nil⟩]) (l := [vT [97]]) rfl (fun B => ⟨QdU _ _, trivial⟩) rfl fun b13 E13 g13 w13 => ?_)
 have g123 := g12.trans g13
 have hS8 := hS7.up g123
 refine hS8.iy.look hFm (Qcc hS7.iy.oh g123) (ps := [1]) (vs := [vT [97]]) (SlIs.le (Qz (Heap.le.refl _) g13) p12 fun _ _ _ h => h) (Qc4 (w13.le (Qz g12 (Heap.le.refl _))) kA) (psok (by decide) (by simp)) rfl fun o12 A12 D12 T12 t12 y12 R12 H14 c12 i12 u12 v12 => ?_
 have T12e := Qdo r3 hR11 u12 v12
 rw [f3] at T12e
 have hS9 := (hS8.stepy c12 i12).up u12.le
 have rr := u12.rows
 rw [T12e] at rr
 rw [l9]
 refine jn.inl (Qh rfl ?_)
 refine Qbf (QaH (nwR (xs := [⟨2, 2, [], Sl.nil⟩, ⟨4, 0, [97], Sl.nil⟩]) (l := [vN 2, vT [97]]) rfl (fun B => ⟨Qdp _ _, QdU _ _, trivial⟩) rfl fun b14 E14 g14 w14 => ?_))
 refine Qbf (QaH (nwR (xs := [⟨2, 3, [], Sl.nil⟩, ⟨4, 0, [97], Sl.nil⟩]) (l := [vN 3, vT [97]]) rfl (fun B => ⟨Qdp _ _, QdU _ _, trivial⟩) rfl fun b15 E15 g15 w15 => ?_))
 refine nwRs (H0 := H14) (g14.trans g15) (ts := [Sl.of (some (b14, 0)) 2 2, Sl.of (some (b15, 0)) 2 2]) (ls := [[vN 2, vT [97]], [vN 3, vT [97]]]) (n := 2) rfl (fun i y l hy hl => ?_) rfl rfl fun b16 E16 g16 w16 => ?_
 ·match i with
  | 0 => simp at hy hl; subst hy; subst hl; exact w14.le (Qz (Heap.le.refl _) g15)
  | 1 => simp at hy hl; subst hy; subst hl; exact w15.le (Qz g14 (Heap.le.refl _))
  | i + 2 => simp at hy
 have g46 := g14.trans (g15.trans g16)
 have hfin : ∀ r ∈ [[vN 2, vT [97]], [vN 3, vT [97]]], VBs r ∧ r.length ≤ 140737488355328 := by
  intro r hr
  simp only [List.mem_cons, List.not_mem_nil, or_false] at hr
  rcases hr with rfl | rfl <;> refine ⟨?_, ?_⟩ <;> simp [vN, vT, VBs, VB]
 refine QbI rr w16 ((Heap.new_le _ _).trans g46) (Heap.new_le _ _) (by decide) hfin ?_
 refine Qh rfl ?_
 obtain ⟨n1, n2, n3, n4, n5, n6, n7⟩ := Qi0 (C := C) (H := E16)
 refine n1 (n2 (n3 ?_))
 subst ha1; subst ha2; subst ha6
 rw [e4, e5, e6, l5, l7]
 refine jn.inl (Qq rfl ?_)
 have hx := hS9.ix.up g46
 refine hx.has (B := Heap.wo_ o7 E16) Bs.wo ⟨VRow.nil, ke.1, ke.2⟩ fun b hb H15 h15 => ?_
 have hbt : b = true := hb.2 ((hR6 _).2 (by simp [s2]))
 subst hbt
 refine jn.inl (Qq rfl ?_)
 obtain ⟨n1, n2, n3, n4, n5, n6, n7⟩ := Qi0 (C := C) (H := H15)
 refine n4 ?_
 refine jn.inl (Qq rfl ?_)
 refine n5 (n6 ?_)
 refine jn.inl (Qq rfl ?_)
 exact n7 (k H15)
end
end
section
open Go Go.Proofs
theorem Qgc {C : Ctx} {H : Heap} (hFm : FmtC C) : Q0 C (fun r _ => r = true) H := QgH hFm fun _ => rfl
end
end Sx
end
noncomputable section

end

