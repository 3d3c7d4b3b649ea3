/-
  Texts of this family, one behind the other: UdS4, UdT, UdB, UdC, UdE, UdF, UdG, UdH, UdI, UdL, OpRNames, RowINames.
-/
import Derived.Test.YtnpkgflmjibkeaaGreatDoorAN3
noncomputable section
set_option linter.unusedVariables false
set_option linter.unusedSimpArgs false
set_option maxRecDepth 10000
namespace Sx
section
open Go Go.Proofs
section
variable {C : Ctx} {H A : Heap}
theorem Qhs {x y : Str} {K : Int → Heap → Prop} (k : K (vcmpS x y) H) : Qv C x y K H := by
 have nan : ∀ {s : Str} {K : Bool → Heap → Prop}, K false H → QW C s K H := fun {s K} k => by
  apply QbQ
  unfold Qa5
  simpa using k
 apply Qbo
 unfold QaK
 obtain ⟨h1, h2, h3, h4⟩ := vslt x y
 refine nan (nan (Qk rfl (Qk rfl ?_)))
 refine ift.of (fun h => ?_) (fun h => ?_)
 ·rw [h1] at h
  have := of_decide_eq_true h
  rw [show vcmpS x y = -1 by omega] at k; exact k
 ·have hlt : ¬ vcmpS x y < 0 := by rw [h1] at h; exact of_decide_eq_false h
  rw [h, Bool.false_or]
  refine ift.of (fun h => ?_) (fun h => ?_)
  ·have hne : x ≠ y := by simpa using h
   have : vcmpS x y ≠ 0 := fun e => hne (h2.1 e)
   rw [show vcmpS x y = 1 by omega] at k; exact k
  ·have he : x = y := by simpa using h
   rw [show vcmpS x y = 0 from h2.2 he] at k; exact k
theorem QjG {b : Nat} {x y : Int} {m : Bool} {K : Int → Heap → Prop} (h : H b = some (m, .row [.int .i64 x, .int .i64 y])) (k : K (if x ≠ 0 then x else y) H) : Qa6 C (Sl.of (some (b, 0)) 2 2) K H := by
 apply Qd1
 unfold QcT
 refine ⟨fun i D => D = H ∧ (i = 0 ∨ (i = 1 ∧ x = 0) ∨ (i = 2 ∧ x = 0 ∧ y = 0)), fun i _ => 2 - i.toNat, ⟨rfl, .inl rfl⟩, ?_⟩
 rintro i D ⟨rfl, h0 | ⟨h0, h1⟩ | ⟨h0, h1, h2⟩⟩ <;> subst h0
 ·refine Qm rfl ⟨(b, 0), rfl, rfl, by omega, by simp [Sl.of], ⟨x, by rw [Qn h]; rfl, ?_⟩⟩
  refine ift.of (fun h => ?_) (fun h => ?_)
  ·rw [if_pos (by simpa using h)] at k; exact k
  ·exact ⟨⟨rfl, .inr (.inl ⟨rfl, by simpa using h⟩)⟩, by show 2 - (1 : Int).toNat < 2 - (0 : Int).toNat; decide⟩
 ·refine Qm rfl ⟨(b, 0), rfl, rfl, by omega, by simp [Sl.of], ⟨y, by rw [Qn h]; rfl, ?_⟩⟩
  rw [if_neg (by omega)] at k
  refine ift.of (fun h => k) (fun h => ?_)
  exact ⟨⟨rfl, .inr (.inr ⟨rfl, h1, by simpa using h⟩)⟩, by show 2 - (2 : Int).toNat < 2 - (1 : Int).toNat; decide⟩
 ·refine Qk rfl ?_
  rw [if_neg (by omega), h2] at k; exact k
/-- a change in memory -/
structure CgIs (A : Heap) (v : Qb) (d : NR) : Prop where
 rel : v.Row.Rel = d.1
 row : VRow A v.Row.L d.2
 b : VBs d.2
 l : d.2.length ≤ 140737488355328
theorem Qip {v w : Qb} {d e : NR} {K : Int → Heap → Prop} (hv : CgIs A v d) (hw : CgIs A w e) (hA : A.le H) (k : ∀ H2, H.le H2 → K (cmpN d e) H2) : Qbf C v w K H := by
 apply QdS
 unfold Qb3
 intro b1 n1 b3 n3
 have l1 := Heap.le_put n1 (g := .row (Qb.c v)) (m := true)
 have l3 := Heap.le_put n3 (g := .row (Qb.c w)) (m := true)
 have c1 := l3 _ _ (show (H.put b1 (.row (Qb.c v))) b1 = some (true, .row (Qb.c v)) from Heap.put_same ..)
 have c3 : ((H.put b1 (.row (Qb.c v))).put b3 (.row (Qb.c w))) b3 = some (true, .row (Qb.c w)) := Heap.put_same ..
 have lE := l1.trans l3
 generalize (H.put b1 (.row (Qb.c v))).put b3 (.row (Qb.c w)) = E at *
 have hAE := hA.trans lE
 refine ⟨E, Heap.le.refl _, ⟨v.Row.Rel, by rw [Qn c1]; rfl, ⟨w.Row.Rel, by rw [Qn c3]; rfl, ⟨v.Row.L, by rw [Qn c1]; rfl, ⟨w.Row.L, by rw [Qn c3]; rfl, ?_⟩⟩⟩⟩⟩
 refine Qhs ⟨Heap.le.refl _, ?_⟩
 refine Qff (hv.row.le hAE) (hw.row.le hAE) hv.l hw.l hv.b hw.b ⟨Heap.le.refl _, ?_⟩
 intro b22 n22
 have l22 := Heap.le_put n22 (g := .row [.int .i64 (vcmpS v.Row.Rel w.Row.Rel), .int .i64 (cmpR d.2 e.2)]) (m := true)
 refine ⟨l22, QjG (Heap.put_same ..) ⟨l22, ?_⟩⟩
 rw [hv.rel, hw.rel]
 exact k _ (lE.trans (by rw [hv.rel, hw.rel] at l22; exact l22))
end
/-- changes that can be compared, in a part of memory -/
def ZC (A : Heap) : Type := {z : Qb × NR // CgIs A z.1 z.2}
instance (A : Heap) : Inhabited (ZC A) := ⟨⟨(⟨⟨[], Sl.nil⟩, 0⟩, ([], [])), ⟨rfl, ⟨[], .inl rfl, rfl, trivial⟩, trivial, Nat.zero_le _⟩⟩⟩
def ZC.cf {A : Heap} (a b : ZC A) : Int := cmpN a.1.2 b.1.2
def ZC.en {A : Heap} (z : ZC A) : List Value := Qb.c z.1.1
theorem QjJ (A : Heap) : Go.Sort.SWO (ltOf (ZC.cf (A := A))) := by
 have hL := Lin.nr
 refine ⟨fun x => ?_, fun x y z h1 h2 => ?_, fun x y z h1 h2 => ?_⟩
 ·have := hL.refl (a := x.1.2) trivial
  unfold ltOf ZC.cf; rw [this]; rfl
 ·have h1 := of_decide_eq_true h1
  have h2 := of_decide_eq_true h2
  have := (hL.tr x.1.2 y.1.2 z.1.2 trivial trivial trivial (by unfold ZC.cf at h1; omega) (by unfold ZC.cf at h2; omega)).2 (.inl h1)
  exact decide_eq_true this
 ·have h1 := of_decide_eq_false h1
  have h2 := of_decide_eq_false h2
  refine decide_eq_false ?_
  unfold ZC.cf at *
  have a1 := hL.anti x.1.2 y.1.2 trivial trivial
  have a2 := hL.anti y.1.2 z.1.2 trivial trivial
  have a3 := hL.anti x.1.2 z.1.2 trivial trivial
  have := (hL.tr z.1.2 y.1.2 x.1.2 trivial trivial trivial (by omega) (by omega)).1
  omega
theorem Qgg {α : Type} [Inhabited α] {enc : α → List Value} {kk : Nat} {w : World} {blk m c : Nat} {dk : Array α} {os : Array Obj} (hc : c ≠ blk) (hl : c < w.heap.size) : (Go.Proofs.sortWorldK enc kk w blk 0 m dk os).heap[c]? = w.heap[c]? := by
 unfold Go.Proofs.sortWorldK Go.Sort.putRowK Go.Sort.grow Go.Sort.putRow Go.Sort.mapBlock Go.Sort.ahead
 simp only
 rw [Array.getElem?_append_left (by simpa using hl), Array.getElem?_modify, if_neg hc.symm]
theorem QhN {C : Ctx} {w : World} {H A : Heap} {blk size : Nat} (hs : St C w H) (hA : A.le H) (hb : A blk = none) : CmpLays Tryz.prog 34 #[] (ZC.en (A := A)) 3 ZC.cf blk 0 size w := by
 intro m os dk hd x y
 have hrd : ∀ p v, rd A p = some v → rd (heapOf (Go.Proofs.sortWorldK (ZC.en (A := A)) 3 w blk 0 m dk os)) p = some v := fun p v h =>
  Qhh hs hA (fun c hc => Qgg (fun e => hc (by rw [e]; exact hb)) (by
   cases hac : A c with
   | none => exact absurd hac hc
   | some e => exact hs.lt (hA _ _ hac))) p v h
 have hx : CgIs (heapOf (Go.Proofs.sortWorldK (ZC.en (A := A)) 3 w blk 0 m dk os)) x.1.1 x.1.2 := ⟨x.2.rel, x.2.row.to hrd, x.2.b, x.2.l⟩
 have hy : CgIs (heapOf (Go.Proofs.sortWorldK (ZC.en (A := A)) 3 w blk 0 m dk os)) y.1.1 y.1.2 := ⟨y.2.rel, y.2.row.to hrd, y.2.b, y.2.l⟩
 have hspec : Qbf (ctxOf (Go.Proofs.sortWorldK (ZC.en (A := A)) 3 w blk 0 m dk os)) x.1.1 y.1.1 (fun r _ => r = cmpN x.1.2 y.1.2) (heapOf (Go.Proofs.sortWorldK (ZC.en (A := A)) 3 w blk 0 m dk os)) :=
  Qip hx hy (Heap.le.refl _) fun _ _ => rfl
 have hcall := hspec _ (Qfn _)
 refine hcall.mono ?_
 rintro e w' ⟨v, H', rfl, hst, r, rfl, hr⟩
 subst hr
 exact ⟨rfl, QhS hst⟩
theorem QfH {α : Type} [Inhabited α] {enc : α → List Value} {k : Nat} (hk : ∀ x, (enc x).length = k) (hk0 : 0 < k) (d : Array α) : (Go.Sort.flatK enc k d).toList = d.toList.flatMap enc := by
 have hfl : ∀ (l : List α), (l.flatMap enc).length = l.length * k := by
  intro l
  induction l with
  | nil => simp
  | cons a l ih => rw [List.flatMap_cons, List.length_append, ih, hk, List.length_cons, Nat.add_mul]; omega
 apply List.ext_getElem?
 intro t
 by_cases ht : t < d.size * k
 ·have hd : t / k < d.size := (Nat.div_lt_iff_lt_mul hk0).2 ht
  have h1 : (Go.Sort.flatK enc k d).toList[t]? = some ((enc d[t / k]!)[t % k]!) := by
   rw [Array.getElem?_toList, Array.getElem?_eq_getElem (by simpa using ht)]
   have := Go.Sort.get_flatK enc k d t ht
   rw [getElem!_pos _ _ (by simpa using ht)] at this
   rw [this]
  have hm : t % k < (enc d[t / k]!).length := by rw [hk]; exact Nat.mod_lt _ hk0
  have h2 := Qdw enc k hk d.toList (t / k) d[t / k]! (by rw [Array.getElem?_toList, Array.getElem?_eq_getElem hd, getElem!_pos d _ hd]) (t % k) _ (List.getElem?_eq_getElem hm)
  rw [h1, getElem!_pos (enc d[t / k]!) _ hm]
  rw [show t / k * k + t % k = t by rw [Nat.mul_comm]; exact Nat.div_add_mod t k] at h2
  exact h2.symm
 ·rw [List.getElem?_eq_none (by simp; omega), List.getElem?_eq_none (by rw [hfl]; simp; omega)]
theorem Qiv {A : Heap} : ∀ (zs : List (Qb × NR)), (∀ z ∈ zs, CgIs A z.1 z.2) → ∃ dl : List (ZC A), dl.map (fun z => z.1) = zs
 | [], _ => ⟨[], rfl⟩
 | z :: zs, h => by
  obtain ⟨dl, e⟩ := Qiv zs fun z hz => h z (List.mem_cons_of_mem _ hz)
  exact ⟨⟨z, h z (List.mem_cons_self ..)⟩ :: dl, congrArg (fun l => z :: l) e⟩
theorem QiI {C : Ctx} {w : World} {H : Heap} {blk : Nat} {d : Array Value} {sp : List Value} (hs : St C w H) (hb : H blk = some (true, .row (d.toList ++ sp))) : Go.Sort.Holds id w blk 0 d := by
 intro j hj
 obtain ⟨ob, ho, hr⟩ := hs.blk _ _ _ hb
 cases ob <;> simp only [GO.rel] at hr
 rename_i c t fr
 obtain ⟨rfl, hfr⟩ := hr
 have hfr := hfr trivial
 have hl : 0 + j < (d.toList ++ sp).length := by simp; omega
 constructor
 ·unfold World.cell?
  simp only [ho]
  rw [if_neg (by simp), List.getElem?_toArray, Nat.zero_add, List.getElem?_append_left (by simpa using hj), Array.getElem?_toList, Array.getElem?_eq_getElem hj]
  simp [hj]
 ·unfold World.frozen?
  simp only [ho]
  obtain ⟨lo, hi⟩ := fr
  simp only at hfr ⊢
  rcases hfr with h | h
  ·subst h; simp; try omega
  ·simp; try omega
theorem Qi1 {C : Ctx} {H0 H : Heap} {s : Sl} {zs : List (Qb × NR)} {K : Heap → Prop} (ho : OwnF H0 H 3 s (zs.flatMap fun z => Qb.c z.1)) (hz : ∀ z ∈ zs, CgIs (H.off s) z.1 z.2) (hn : zs.length ≤ 1000000000)
 (k : ∀ (ws : List (Qb × NR)) H2, ws.Perm zs → ws.Pairwise (fun a b => cmpN a.2 b.2 ≤ 0) → OwnF H0 H2 3 s (ws.flatMap fun z => Qb.c z.1) → H2.off s = H.off s → K H2) : QM C s (.func (.func 34) (List.toArray []) (List.toArray [])) K H := by
 intro w hw
 have hfl : ∀ (l : List (Qb × NR)), (l.flatMap fun z => Qb.c z.1).length = l.length * 3 := by
  intro l
  induction l with
  | nil => rfl
  | cons a l ih => rw [List.flatMap_cons, List.length_append, ih, List.length_cons, Nat.add_mul]; show 3 + _ = _; omega
 obtain ⟨hle, ⟨hlen, hx, hcap, hcase⟩, hfr⟩ := ho
 rw [hfl] at hlen
 have hlen : s.len = zs.length := by omega
 by_cases h0 : zs = []
 ·have hl0 : s.len = 0 := by rw [hlen, h0]; rfl
  have hall := AnyF.slices_SortFunc_none (P := Tryz.prog) (ρ := Tryz.laysSrk_ren) Tryz.laysSrk s.ad s.cap (.func (.func 34) #[] #[]) w
  have harg : (#[.slice s.ad 0 s.cap, .func (.func 34) #[] #[]] : Array Value) = [slv s, .func (.func 34) (List.toArray []) (List.toArray [])].toArray := by
   unfold slv; rw [hl0]
  rw [← harg]
  refine hall.mono ?_
  rintro e w' ⟨rfl, rfl⟩
  exact ⟨.tuple #[], H, rfl, hw, rfl, k zs H (List.Perm.refl _) (by rw [h0]; exact .nil) ⟨hle, ⟨by rw [hfl]; omega, hx, hcap, hcase⟩, hfr⟩ rfl⟩
 ·rcases hcase with ⟨_, hc0⟩ | ⟨b, sp, hp, hb, hsz⟩
  ·have : zs.length = 0 := by omega
   exact absurd (List.length_eq_zero_iff.1 this) h0
  ·have hoff : (H.off s) b = none := Heap.off_fresh s H _ hp
   have had : s.ad = some ⟨b, 0, none⟩ := by unfold Sl.ad; rw [hp, hx]; rfl
   obtain ⟨dl, hdl⟩ := Qiv zs hz
   have hdv : dl.toArray.toList.map (fun z : ZC (H.off s) => z.1) = zs := hdl
   have hdm : (dl.toArray.toList.flatMap ZC.en) = zs.flatMap fun z => Qb.c z.1 := by
    rw [← hdv, List.flatMap_map]; rfl
   have hds : dl.toArray.size = zs.length := by rw [← hdv]; simp
   generalize dl.toArray = d at *
   have hk3 : ∀ z : ZC (H.off s), (ZC.en z).length = 3 := fun z => rfl
   have hkd := QfH hk3 (by omega) d
   have h1c : ∀ z : ZC (H.off s), ∀ v ∈ ZC.en z, v.oneCell' = true := fun z v hv => by
    simp only [ZC.en, Qb.c, List.mem_cons, List.not_mem_nil, or_false] at hv
    rcases hv with rfl | rfl | rfl <;> rfl
   have hall := AnyQ.slices_SortFunc Tryz.laysSrk 3 Tryz.isAgg43 Tryz.sizeOf43 ZC.en hk3 h1c ZC.cf (QjJ _) 34 #[] b 0 s.cap d w (Qbt QdV) (QhN hw (Heap.off_le s H) hoff) (QiI (sp := sp) hw (by rw [hkd, hdm]; exact hb)) (hw.lt hb) (by omega)
   have harg : (#[.slice (some ⟨b, 0, none⟩) d.size s.cap, .func (.func 34) #[] #[]] : Array Value) = [slv s, .func (.func 34) (List.toArray []) (List.toArray [])].toArray := by
    unfold slv; rw [had, hds, hlen]
   rw [← harg]
   refine hall.mono ?_
   rintro e w' ⟨rfl, d', n, os, hperm, hsort, rfl⟩
   obtain ⟨p1, _, p3⟩ := hperm
   have hP : d'.toList.Perm d.toList := by
    have e1 : d'.extract 0 d.size = d' := by rw [← p1]; simp
    have e2 : d.extract 0 d.size = d := by simp
    rw [e1, e2] at p3; exact p3
   have hwp : (d'.toList.map fun z : ZC (H.off s) => z.1).Perm zs := by
    have := hP.map (fun z : ZC (H.off s) => z.1)
    rw [hdv] at this; exact this
   have hdm' : (d'.toList.flatMap ZC.en) = (d'.toList.map fun z : ZC (H.off s) => z.1).flatMap fun z => Qb.c z.1 := by
    rw [List.flatMap_map]; rfl
   have hst := St.sortW (enc := id) (n := n) (os := os) (d := Go.Sort.flatK ZC.en 3 d') hw hb (by rw [Go.Sort.size_flatK, p1, hfl, hds])
   rw [List.map_id, QfH hk3 (by omega) d', hdm'] at hst
   refine ⟨.tuple #[], _, rfl, hst, rfl, k (d'.toList.map fun z => z.1) _ hwp ?_ ⟨?_, ⟨?_, hx, hcap, .inr ⟨b, sp, hp, Heap.put_same .., ?_⟩⟩, hfr⟩ ?_⟩
   ·rw [List.pairwise_map, List.pairwise_iff_getElem]
    intro i j hi hj hij
    have hj2 : j < d'.size := by simpa using hj
    have hi2 : i < d'.size := by omega
    have h1 := of_decide_eq_false (hsort i j (Nat.zero_le _) hij (by omega))
    have e1 : d'[i]! = d'[i] := by simp [hi2]
    have e2 : d'[j]! = d'[j] := by simp [hj2]
    rw [e1, e2] at h1
    unfold ZC.cf at h1
    have := Lin.nr.anti d'[i].1.2 d'[j].1.2 trivial trivial
    simp only [Array.getElem_toList]
    omega
   ·intro c e hc
    have : c ≠ b := fun e' => by rw [e'] at hc; have := hfr _ hp; rw [this] at hc; cases hc
    rw [Heap.put_ne _ _ _ this]; exact hle _ _ hc
   ·rw [hfl, hwp.length_eq]; omega
   ·rw [List.length_append, hfl] at hsz ⊢
    rw [hwp.length_eq]; omega
   ·funext c
    unfold Heap.off
    split
    ·rfl
    ·rename_i hc
     have : c ≠ b := fun e => hc (by rw [hp, e]; rfl)
     rw [Heap.put_ne _ _ _ this]
end
section
open Go Go.Proofs
/-- rows told: rising, those of R, each in new memory -/
structure Told (H H2 : Heap) (R : List V → Prop) (T : List (List V)) (s : Sl) (ys : List Sl) : Prop where
 og : Og H H2 T s ys
 len : ys.length = T.length
 rise : Rise T
 mem : ∀ r, r ∈ T ↔ R r
/-- names told -/
structure NmTold (H H2 : Heap) (S : Sta) (W : List Str) (s : Sl) : Prop where
 own : OwnF H H2 1 s (W.map sv)
 rise : RiseT W
 mem : ∀ n, n ∈ W ↔ ∃ r, S (n, r)
section
variable {C : Ctx} {o : Own_} {A H H2 D : Heap} {x n N it m : Nat} {a : Nat → Sta} {R : List V → Prop} {nm : Str}
theorem OwnF.del {H0 H : Heap} {z : Nat} {s : Sl} {cs : List Value} {e : Bool × GO} (h : OwnF H0 H z s cs) (hi : H0 it = some e) : OwnF (H0.del it) (H.del it) z s cs := by
 obtain ⟨h1, ⟨h2, h3, h4, h5⟩, h6⟩ := h
 refine ⟨fun c e' hc => ?_, ⟨h2, h3, h4, ?_⟩, h6.le (Heap.del_le _ _)⟩
 ·by_cases hci : c = it
  ·rw [hci, Heap.del_same] at hc; cases hc
  ·rw [Heap.del_ne _ hci] at hc ⊢; exact h1 _ _ hc
 ·rcases h5 with h5 | ⟨b, sp, q1, q2, q3⟩
  ·exact .inl h5
  ·refine .inr ⟨b, sp, q1, ?_, q3⟩
   have : b ≠ it := fun e' => by have := h6 _ q1; rw [e', hi] at this; cases this
   rw [Heap.del_ne _ this]; exact q2
theorem Qe5 {s : Sl} : (H.del it).off s = (H.off s).del it := by
 funext c
 unfold Heap.off Heap.del
 by_cases h1 : c = it
 ·rw [if_pos h1, if_pos h1]; split <;> rfl
 ·rw [if_neg h1, if_neg h1]
theorem QdX {g : GO} {mu : Bool} : (H.put it g mu).del it = H.del it := by
 funext c
 by_cases h1 : c = it
 ·rw [h1, Heap.del_same, Heap.del_same]
 ·rw [Heap.del_ne _ h1, Heap.del_ne _ h1, Heap.put_ne _ _ _ h1]
theorem Qg6 (hit : H it = none) : H.del it = H := by
 funext c
 by_cases hc : c = it
 ·rw [hc, Heap.del_same, hit]
 ·rw [Heap.del_ne _ hc]
theorem Made.del {r : List V} {t : Sl} {e : Bool × GO} (h : Made D H2 r t) (hi : D it = some e) : Made (D.del it) (H2.del it) r t := by
 have hn : ∀ c, D c = none → c ≠ it := fun c hc e' => by rw [e', hi] at hc; cases hc
 refine ⟨fun c e' hc => ?_, h.row.le fun c e' hc => ?_, ?_, h.cp⟩
 ·by_cases hci : c = it
  ·rw [hci, Heap.del_same] at hc; cases hc
  ·rw [Heap.del_ne _ hci] at hc ⊢; exact h.le _ _ hc
 ·obtain ⟨q1, q2⟩ := Heap.new_inv hc
  exact Heap.new_some (by rw [Heap.del_ne _ (hn c q1)]; exact q2) (by rw [Heap.del_ne _ (hn c q1)]; exact q1)
 ·obtain ⟨j, hj⟩ := h.sp
  exact ⟨j, hj.to fun c e' hc he => ⟨by rw [Heap.del_ne _ (hn c hc)]; exact hc, by rw [Heap.del_ne _ (hn c hc)]; exact he⟩⟩
theorem Og.more {B : Heap} {ls : List (List V)} {s : Sl} {ys : List Sl} {r : List V} (h : Og H B ls s ys) (hl : ys.length = ls.length) : Og H B (ls ++ [r]) s ys :=
 ⟨h.own, by simp; omega, fun j l y hj hy => h.done j l y (by
  have := (List.getElem?_eq_some_iff.1 hy).1
  rw [List.getElem?_append_left (by omega)] at hj; exact hj) hy⟩
theorem Qiw : ∀ {ys : List Sl} {ls : List (List V)}, ys.length = ls.length → (ys.zip ls).map (fun z => z.1) = ys ∧ (ys.zip ls).map (fun z => z.2) = ls
 | [], [], _ => ⟨rfl, rfl⟩
 | y :: ys, l :: ls, h => by
  obtain ⟨h1, h2⟩ := Qiw (ys := ys) (ls := ls) (by simpa using h)
  simp [h1, h2]
theorem QjK {ys : List Sl} {ls : List (List V)} {z : Sl × List V} (h : z ∈ ys.zip ls) : ∃ j : Nat, ls[j]? = some z.2 ∧ ys[j]? = some z.1 := by
 obtain ⟨j, hj⟩ := List.mem_iff_getElem?.1 h
 rw [List.getElem?_zip_eq_some] at hj
 exact ⟨j, hj.2, hj.1⟩
theorem It.same {α κ : Type} [DecidableEq κ] {ke : κ → Value} {enc : α → Value} {it m : Nat} {l vs : List (κ × α)} (h : It ke enc H it m l vs) (h1 : H2 it = H it) (h2 : H2 m = H m) : It ke enc H2 it m l vs := by
 obtain ⟨⟨es, ck, seen, q1, q2, q3⟩, h4, h5, h6⟩ := h
 exact ⟨⟨es, ck, seen, ⟨by rw [h2]; exact q1.at_, q1.ents, q1.st⟩, by rw [h1]; exact q2, q3⟩, h4, h5, h6⟩
theorem It.at_ {α κ : Type} [DecidableEq κ] {ke : κ → Value} {enc : α → Value} {it m : Nat} {l vs : List (κ × α)} (h : It ke enc H it m l vs) : (∃ ob, H it = some (true, .obj ob)) ∧ ∃ ob, H m = some (true, .obj ob) := by
 obtain ⟨⟨es, ck, seen, q1, q2, q3⟩, h4, h5, h6⟩ := h
 exact ⟨⟨_, q2⟩, _, q1.at_⟩
/-- the list of the rows of a leaf -/
theorem Qjw {K : Sl → Heap → Prop} {y : Option Nat} (hl : LfIs A H y R) (hA : A.le H) (hF : ∀ r, R r → inR r) {M0 : Nat} (hM0 : M0 ≤ 1000000) (hN : ∀ e M, y = some e → RM A H e R M → ∃ M', RM A H e R M' ∧ M' ≤ M0)
 (k : ∀ T s ys H2, Told H H2 R T s ys → T.length ≤ M0 → K s H2) :
 rgM sv slv y (fun b9 H10 =>
 lp (α := Sl) Sl.nil H10 (fun x11 J12 H13 =>
 nxB sv slv b9 (fun b14 H15 =>
 ift b14
 (enM sv slv b9 (fun k17 x18 =>
 Qar C x18 (fun r20 H21 =>
 apd ([slv Sl.nil]) 24 x11 ([slv r20]) 1 (fun r22 H23 =>
 J12 r22 H23) H21) H15) H15)
 (Qw C x11 (.func (.func 37) (List.toArray []) (List.toArray []) : Value) (fun H24 =>
 K x11 H24) H15)) H13)) H := by
  rcases hl with ⟨rfl, hn⟩ | ⟨m, M, rfl, hMM⟩
  ·refine .inl ⟨rfl, fun it hit => ?_⟩
   refine ⟨fun s D => s = Sl.nil ∧ D = H.put it (.obj (.mapIter none 0 #[] 0)), fun _ _ => 0, ⟨rfl, rfl⟩, ?_⟩
   rintro _ D ⟨rfl, rfl⟩
   refine .inl ⟨Heap.put_same .., Qk rfl ?_⟩
   refine Qhn (H0 := H) (zs := []) ⟨Heap.le_put hit, Own.nil _ 1, Fresh.nil _⟩ (fun z hz => by cases hz) (by simp) fun ws H3 hw hs hown hoff => ?_
   have : ws = [] := List.Perm.eq_nil hw
   subst this
   exact k [] Sl.nil [] H3 ⟨⟨hown, Nat.le_refl _, fun j l y hj => by simp at hj⟩, rfl, .nil, fun r => ⟨fun h => (by cases h), fun h => absurd h (hn r)⟩⟩ (Nat.zero_le _)
  ·obtain ⟨M', hRM, hM'⟩ := hN m M rfl hMM
   obtain ⟨gm, hgm⟩ := hRM.isS
   obtain ⟨l, h1, h2, h3, h4⟩ := hRM
   refine .inr ⟨m, l, rfl, h1, fun it ob hit hI => ?_⟩
   refine ⟨fun s D => ∃ vs ls ys, It sv slv D it m l vs ∧ Og H (D.del it) ls s ys ∧ ys.length = ls.length ∧ ls.map showK = vs.map (fun p => p.1) ∧ ∀ r ∈ ls, R r, fun _ D => l.length - itN D it, ⟨[], [], [], hI, ?_, rfl, rfl, fun r hr => by cases hr⟩, ?_⟩
   ·rw [QdX, Qg6 hit]; exact Og.nil
   ·rintro s D ⟨vs, ls, ys, hIt, hO, hyl, hk, hR⟩
    have hlsl : ls.length = vs.length := by have := congrArg List.length hk; simpa using this
    refine .inr ⟨m, l, vs, hIt, fun hall => ?_, fun p hp hnv ob2 hI2 => ?_⟩
    ·refine Qk rfl ?_
     have hmem : ∀ r, r ∈ ls ↔ R r := fun r => ⟨hR r, fun hr => by
      obtain ⟨s', hs'⟩ := h3 r hr
      have : showK r ∈ ls.map showK := by rw [hk]; exact List.mem_map.2 ⟨_, hall _ hs', rfl⟩
      obtain ⟨r', hr', e⟩ := List.mem_map.1 this
      rw [← (hF r' (hR r' hr')).inj (hF r hr) e]; exact hr'⟩
     have hnd : ls.Nodup := by
      have h5 : (ls.map showK).Nodup := by rw [hk, List.Nodup, List.pairwise_map]; exact hIt.nd
      rw [List.Nodup, List.pairwise_map] at h5
      exact h5.imp fun {a b} hab e => hab (by rw [e])
     have hfew := hIt.few
     obtain ⟨z1, z2⟩ := Qiw hyl
     have hdone : ∀ z ∈ ys.zip ls, Made H ((D.del it).off s) z.2 z.1 := fun z hz => by
      obtain ⟨j, a, b⟩ := QjK hz
      exact hO.done j _ _ a b
     have hoffle : ((D.del it).off s).le (D.off s) := by rw [Qe5]; exact Heap.del_le _ _
     refine Qhn (H0 := H) (zs := ys.zip ls) ?_ (fun z hz => ?_) ?_ fun ws H3 hw hs hown hoff => ?_
     ·rw [show (ys.zip ls).map (fun z => slv z.1) = ((ys.zip ls).map (fun z => z.1)).map slv by rw [List.map_map]; rfl, z1]
      exact hO.own.up (Heap.del_le _ _)
     ·have hr : R z.2 := hR _ (by rw [← z2]; exact List.mem_map.2 ⟨z, hz, rfl⟩)
      have hf := hF _ hr
      refine ⟨(hdone z hz).row2.le hoffle, hf.b, by have := hf.tookR.len; omega⟩
     ·rw [List.length_zip, hyl, Nat.min_self]; omega
     ·have hTp : (ws.map fun z => z.2).Perm ls := by
       have := hw.map fun z : Sl × List V => z.2
       rw [z2] at this; exact this
      have hTn : (ws.map fun z => z.2).Nodup := hTp.symm.nodup hnd
      refine k (ws.map fun z => z.2) s (ws.map fun z => z.1) H3 ⟨⟨?_, by simp, fun j l' y hj hy => ?_⟩, by simp, ?_, fun r => hTp.mem_iff.trans (hmem r)⟩ (by rw [hTp.length_eq]; omega)
      ·rw [List.map_map]; exact hown
      ·rw [List.getElem?_map] at hj hy
       cases hwj : ws[j]? with
       | none => rw [hwj] at hj; cases hj
       | some z =>
        rw [hwj] at hj hy
        simp only [Option.map_some, Option.some.injEq] at hj hy
        subst hj; subst hy
        rw [hoff]
        exact (hdone z (hw.subset (List.mem_of_getElem? hwj))).up hoffle
      ·have hs2 : (ws.map fun z => z.2).Pairwise fun a b => cmpR a b ≤ 0 := by rw [List.pairwise_map]; exact hs
       refine List.Pairwise.imp_of_mem (fun {a b} ha hb hab => ?_) (hs2.and hTn)
       have ra := (hF _ (hR _ (hTp.subset ha))).m
       have rb := (hF _ (hR _ (hTp.subset hb))).m
       have hne : cmpR a b ≠ 0 := fun e => hab.2 ((Qgp ra rb).1 e)
       have := hab.1
       omega
    ·refine Qm rfl ⟨p.1, p.2, ⟨m, l, vs, hI2⟩, ?_⟩
     obtain ⟨r, hr, hpk, hv⟩ := h2 p hp
     obtain ⟨⟨ob3, a1⟩, ob4, a2⟩ := hI2.at_
     have hAit : A it = none := hA.none hit
     have hHD : H.le (D.del it) := hO.own.le
     have hDel : ((D.put it (.obj ob2)).del it) = D.del it := QdX
     have hle : (D.del it).le (D.put it (.obj ob2)) := by rw [← hDel]; exact Heap.del_le _ _
     refine Qgj hv ((hA.trans hHD).trans hle) (by have := (hF r hr).z; omega) fun t2 H3 hM => ?_
     have hM2 := hM.del a1
     rw [hDel] at hM2
     have hOwn3 : Own H3 1 s (ys.map slv) := (hO.own.own.le hle).le hM.le
     have hsit : ∀ q, s.p = some q → q.1 ≠ it := fun q hq e => by
      obtain ⟨g, hg⟩ := hO.own.own.mine hq
      rw [e, Heap.del_same] at hg; cases hg
     have hsm : ∀ q, s.p = some q → q.1 ≠ m := fun q hq e => by
      have := hO.own.fresh q hq
      rw [e, hgm] at this; cases this
     have hit3 : (H3.off s) it = some (true, .obj ob3) := Heap.off_some (hM.le _ _ a1) hsit
     have hm3 : (H3.off s) m = some (true, .obj ob4) := Heap.off_some (hM.le _ _ a2) hsm
     have hsl : s.len = ys.length := by have := hOwn3.1; simpa using this.symm
     have hfew := hIt.few
     refine Qf0 (zc := [slv Sl.nil]) hOwn3.off rfl (by omega) (by omega) fun r2 H4 q1 q2 => ?_
     have e1 := hI2.cnt
     have e2 := hI2.few
     have e3 := hIt.cnt
     have hI4 : It sv slv H4 it m l (vs ++ [p]) := hI2.same ((q1.le _ _ hit3).trans a1.symm) ((q1.le _ _ hm3).trans a2.symm)
     have e4 := hI4.cnt
     simp only [List.length_append, List.length_singleton] at e1 e2 e4
     refine ⟨⟨vs ++ [p], ls ++ [r], ys ++ [t2], hI4, ?_, by simp [hyl], by rw [List.map_append, List.map_append, hk]; simp [hpk], fun r' hr' => ?_⟩, by dsimp only; omega⟩
     ·have hq : OwnF ((H3.del it).off s) (H4.del it) 1 r2 (ys.map slv ++ [slv t2]) := by rw [Qe5]; exact q1.del hit3
      have hi : ys.length < (ls ++ [r]).length := by simp; omega
      refine Og.step (hO.more hyl) hi ?_ hq
      have : (ls ++ [r])[ys.length] = r := by
       rw [List.getElem_append_right (by omega)]; simp
      rw [this]; exact hM2
     ·rcases List.mem_append.1 hr' with hr' | hr'
      ·exact hR r' hr'
      ·rw [List.mem_singleton] at hr'; rw [hr']; exact hr
theorem RelsL.lookN {S : Sta} {L : List (Str × Option Nat)} {X : Str → Prop} {K : Option Nat → Bool → Prop} (h : RelsL o A H m S N L X) (k : ∀ x is, LfIs A H x (fun r => S (nm, r)) → (∀ e M, x = some e → RM A H e (fun r => S (nm, r)) M → ∃ M', RM A H e (fun r => S (nm, r)) M' ∧ M' ≤ N) → K x is) : lkM sv mv none (some m) nm K H := by
 refine h.ms.is.lk (fun x hx => ?_) fun hx => ?_
 ·obtain ⟨e, q1, _, q3, _⟩ := h.lf _ (QaI hx)
  dsimp only at q1 q3
  exact k _ _ (.inr ⟨e, N, q1, q3⟩) fun e' M he _ => by rw [q1] at he; injection he with he; subst he; exact ⟨N, q3, Nat.le_refl _⟩
 ·refine k _ _ (.inl ⟨rfl, fun r hr => ?_⟩) fun e M he => by cases he
  obtain ⟨e, he⟩ := h.al nm r hr
  rw [QaS h.ms.is.nd he] at hx; cases hx
theorem Qji {K : Sl → Heap → Prop} (h : LG o A H x a n N) (hN : N ≤ 1000000) (k : ∀ T s ys H2, Told H H2 (fun r => a n (nm, r)) T s ys → T.length ≤ N → K s H2) : QaH C (some (x, 0)) nm K H := by
 apply QcZ
 unfold QbD
 have hf := h.f n (Nat.le_refl _)
 obtain ⟨⟨m, s, T, p1, _⟩, _⟩ := h
 obtain ⟨L, hR⟩ := p1.rl
 refine Qk rfl ⟨_, rfl, p1.ld0 (hR.lookN fun y is hl hM => ?_)⟩
 exact Qjw hl p1.oh.le (fun r hr => hf _ hr) hN hM k
theorem QiA {K : Sl → Heap → Prop} (h : LG o A H x a n N) (hN : N ≤ 1000000) (k : ∀ W s H2, NmTold H H2 (a n) W s → W.length ≤ N → K s H2) : Qal C (some (x, 0)) K H := by
 apply Qct
 unfold Qbk
 obtain ⟨⟨m, s0, T, p1, _⟩, _⟩ := h
 obtain ⟨L, hR⟩ := p1.rl
 obtain ⟨gm, hgm⟩ := hR.mine
 have hLN := hR.ln
 refine Qk rfl ⟨_, rfl, p1.ld0 ?_⟩
 refine .inr ⟨m, L, rfl, hR.ms, fun it ob hit hI => ?_⟩
 refine ⟨fun s D => ∃ vs, It sv mv D it m L vs ∧ OwnF H (D.del it) 1 s (vs.map fun p => sv p.1), fun _ D => L.length - itN D it, ⟨[], hI, ?_⟩, ?_⟩
 ·rw [QdX, Qg6 hit]; exact OwnF.nil H 1
 ·rintro s D ⟨vs, hIt, hO⟩
  have hfew := hIt.few
  refine .inr ⟨m, L, vs, hIt, fun hall => ?_, fun p hp hnv ob2 hI2 => ?_⟩
  ·refine Qk rfl ?_
   refine Qi2 (H0 := H) (zs := vs.map fun p => p.1) (by rw [List.map_map]; exact hO.up (Heap.del_le _ _)) (by rw [List.length_map]; omega) fun ws H3 hw hs hown => ?_
   have hnd : (vs.map fun p => p.1).Nodup := by rw [List.Nodup, List.pairwise_map]; exact hIt.nd
   refine k ws s H3 ⟨hown, ?_, fun nm => ?_⟩ (by rw [hw.length_eq, List.length_map]; omega)
   ·refine List.Pairwise.imp (fun {a b} hab => ?_) (hs.and (hw.symm.nodup hnd))
    have : vcmpS a b ≠ 0 := fun e => hab.2 ((vslt a b).2.1.1 e)
    have := hab.1
    omega
   ·rw [hw.mem_iff, List.mem_map]
    constructor
    ·rintro ⟨p, hp, rfl⟩
     obtain ⟨e, _, _, _, q4⟩ := hR.lf p (hIt.sub p hp)
     exact q4 id
    ·rintro ⟨r, hr⟩
     obtain ⟨e, he⟩ := hR.al nm r hr
     exact ⟨_, hall _ he, rfl⟩
  ·refine Qm rfl ⟨p.1, p.2, ⟨m, L, vs, hI2⟩, ?_⟩
   obtain ⟨⟨ob3, a1⟩, ob4, a2⟩ := hI2.at_
   have hDel : ((D.put it (.obj ob2)).del it) = D.del it := QdX
   have hle : (D.del it).le (D.put it (.obj ob2)) := by rw [← hDel]; exact Heap.del_le _ _
   have hOwn3 : Own (D.put it (.obj ob2)) 1 s (vs.map fun p => sv p.1) := hO.own.le hle
   have hsit : ∀ q, s.p = some q → q.1 ≠ it := fun q hq e => by
    obtain ⟨g, hg⟩ := hO.own.mine hq
    rw [e, Heap.del_same] at hg; cases hg
   have hsm : ∀ q, s.p = some q → q.1 ≠ m := fun q hq e => by
    have := hO.fresh q hq
    rw [e, hgm] at this; cases this
   have hit3 : ((D.put it (.obj ob2)).off s) it = some (true, .obj ob3) := Heap.off_some a1 hsit
   have hm3 : ((D.put it (.obj ob2)).off s) m = some (true, .obj ob4) := Heap.off_some a2 hsm
   have hsl : s.len = vs.length := by have := hOwn3.1; simpa using this.symm
   refine Qf0 (zc := [sv []]) hOwn3.off rfl (by omega) (by omega) fun r2 H4 q1 q2 => ?_
   have e1 := hI2.cnt
   have e2 := hI2.few
   have e3 := hIt.cnt
   have hI4 : It sv mv H4 it m L (vs ++ [p]) := hI2.same ((q1.le _ _ hit3).trans a1.symm) ((q1.le _ _ hm3).trans a2.symm)
   have e4 := hI4.cnt
   simp only [List.length_append, List.length_singleton] at e1 e2 e4
   refine ⟨⟨vs ++ [p], hI4, ?_⟩, by dsimp only; omega⟩
   have hq : OwnF (((D.put it (.obj ob2)).del it).off s) (H4.del it) 1 r2 ((vs.map fun p => sv p.1) ++ [sv p.1]) := by rw [Qe5]; exact q1.del hit3
   rw [hDel] at hq
   rw [List.map_append]
   refine ⟨(fun c e hc => hq.le _ _ (Heap.off_some (hO.le _ _ hc) fun q hq' e' => ?_)), hq.own, fun q hq' => ?_⟩
   ·have := hO.fresh q hq'
    rw [e', hc] at this; cases this
   ·have h1 := hq.fresh q hq'
    cases hH : H q.1 with
    | none => rfl
    | some e =>
     rw [Heap.off_some (hO.le _ _ hH) fun q2 hq2 e' => by
      have := hO.fresh q2 hq2
      rw [e', hH] at this; cases this] at h1
     cases h1
end
end
section
open Go Go.Proofs
section
variable {C : Ctx} {o o2 : Own_} {A B H H2 D : Heap} {x m n N yl : Nat} {s : Sl} {S : Sta} {T : List Th} {t : Th} {a : Nat → Sta}
theorem Chg.tmp {P : Uw → Prop} {it : Nat} {g : GO} {mu : Bool} (h : Chg P o H o2 D) (hn : H it = none) (ho : ∀ w, o2 it = some w → False) : Chg P o H o2 (D.put it g mu) := by
 refine ⟨fun c e hc hw => ?_, h.up, fun c w hw => ?_, fun c hc => ?_⟩
 ·have : c ≠ it := fun e' => by rw [e', hn] at hc; cases hc
  rw [Heap.put_ne _ _ _ this]; exact h.kp c e hc hw
 ·have : c ≠ it := fun e' => ho w (by rw [← e']; exact hw)
  rw [Heap.put_ne _ _ _ this]; exact h.dn c w hw
 ·have : c ≠ it := fun e' => hc (by rw [e']; exact hn)
  rw [Heap.put_ne _ _ _ this]; exact h.li c hc
theorem Dn.at_ (h : Dn o A H x s T) {i : Nat} (hi : T[i]? = some t) : ∃ v b, ThIs A x t v ∧ s.p = some (b, 0) ∧ rds H (b, i * 4) (Qc.c v) := by
 obtain ⟨⟨xs, ⟨q1, q2, q3, q4⟩, h2, h3⟩, ho⟩ := h
 have hlt : i < T.length := (List.getElem?_eq_some_iff.1 hi).1
 have hx : xs[i]? = some xs[i] := List.getElem?_eq_getElem (by omega)
 rw [QcW] at q1
 rcases q4 with ⟨w1, w2⟩ | ⟨b, sp, w1, w2, w3⟩
 ·omega
 ·refine ⟨_, b, h3 i t _ hi hx, w1, QfN fun j v hj => ?_⟩
  rw [Qn w2]
  have := Qdw Qc.c 4 Qiq xs i _ hx j v hj
  rw [List.getElem?_append_left (List.getElem?_eq_some_iff.1 this).1]; exact this
/-- while things are undone: those behind j are -/
structure BkI (o : Own_) (A H B : Heap) (x m : Nat) (s : Sl) (a : Nat → Sta) (T : List Th) (n N yl : Nat) (o2 : Own_) (H2 : Heap) (j : Nat) : Prop where
 lc : Lc o2 A H2 x m s (a j) (N + 2 * (n - j))
 dn : Dn o2 A H2 x s T
 bs : Bs o2 B H2
 cg : Chg mapP o H o2 H2
 ny : o2 yl = none
theorem BkI.puty {j : Nat} {g : GO} (h : BkI o A H B x m s a T n N yl o2 H2 j) (hy : H yl = none) (hB : B yl = none) (hA : A yl = none) : BkI o A H B x m s a T n N yl o2 (H2.put yl g) j := by
 have hne : ∀ c w, o2 c = some w → c ≠ yl := fun c w hw e => by rw [e, h.ny] at hw; cases hw
 refine ⟨h.lc.keep (fun c e hc => ?_) fun c w hw => Heap.put_ne _ _ _ (hne c w hw), h.dn.keep fun c hw => ⟨hw, Heap.put_ne _ _ _ (hne c _ hw)⟩, ⟨fun c e hc => ?_, h.bs.ap⟩, h.cg.tmp hy (fun w hw => by rw [h.ny] at hw; cases hw), h.ny⟩
 ·have : c ≠ yl := fun e' => by rw [e', hA] at hc; cases hc
  rw [Heap.put_ne _ _ _ this]; exact h.lc.oh.le c e hc
 ·have : c ≠ yl := fun e' => by rw [e', hB] at hc; cases hc
  rw [Heap.put_ne _ _ _ this]; exact h.bs.le c e hc
theorem BkI.up {j : Nat} {H3 : Heap} (h : BkI o A H B x m s a T n N yl o2 H2 j) (hle : H2.le H3) : BkI o A H B x m s a T n N yl o2 H3 j :=
 ⟨h.lc.up hle, h.dn.keep fun c hw => ⟨hw, h.lc.oh.eq_le hle hw⟩, h.bs.up hle, h.cg.trans (Chg.of_le hle), h.ny⟩
/-- what yield is called with, and what follows -/
def BkY (o : Own_) (A H B : Heap) (x m : Nat) (s : Sl) (a : Nat → Sta) (T : List Th) (n N yl : Nat) (r : Loop) (us : List Value) (K : Bool → Heap → Prop) (H2 : Heap) : Prop :=
 ∃ (i : Int) (j : Nat) (t : Th) (v : Qc) (o2 : Own_), us = [.int .i64 i, .agg (Qc.c v).toArray] ∧ T[j]? = some t ∧ ThIs A x t v ∧ BkI o A H B x m s a T n N yl o2 H2 (j + 1) ∧ H2 yl = some (true, Rf.lrec r .ready none) ∧
  ∀ o3 H3, BkI o A H B x m s a T n N yl o3 H3 j → H3 yl = some (true, Rf.lrec r .ready none) → K true H3
theorem QgN {jj : Int} {K : Int → Heap → Prop} (h : LG o A H x a n N) (hnn : n ≤ 1000000) (k1 : ¬ (0 ≤ jj ∧ jj ≤ n) → K 1 H) (k0 : 0 ≤ jj → jj ≤ n → ∀ o2 H2, Mv o A H o2 A H2 → LG o2 A H2 x a jj.toNat (N + 2 * (n - jj.toNat)) → K 0 H2) : QS C (some (x, 0)) jj K H := by
 apply QcX
 unfold QbB
 refine Qho h ?_
 by_cases hj : 0 ≤ jj ∧ jj ≤ n
 rotate_left
 ·rw [if_neg hj]
  exact Qm rfl (k1 hj)
 rw [if_pos hj]
 refine Qk rfl ?_
 obtain ⟨h0, h1⟩ := hj
 obtain ⟨mk, rfl⟩ := Int.eq_ofNat_of_zero_le h0
 have hmk : mk ≤ n := by omega
 have hmkn : (mk : Int).toNat ≤ n := by omega
 have hmts := h.f
 have hnms := h.nm
 have hO := h.oh
 obtain ⟨⟨m, s, T, p1, p2, p3, p4⟩, _, _⟩ := h
 obtain ⟨⟨xs, q1, q2, q3⟩, q4⟩ := p2
 have p2 : Dn o A H x s T := ⟨⟨xs, q1, q2, q3⟩, q4⟩
 have hsl : s.len = n := by have h1 := q1.1; rw [QcW] at h1; omega
 have hcap := q1.2.2.1
 refine ⟨_, rfl, p1.ld1 ⟨by omega, by omega, by omega, by omega, _, rfl, ?_⟩⟩
 generalize ht8 : (⟨if (s.cap : Int) = (mk : Int) then s.p else s.p.map (fun p => (p.1, p.2 + (mk : Int).toNat * 4)), ((s.len : Int) - (mk : Int)).toNat, ((s.cap : Int) - (mk : Int)).toNat, if (s.cap : Int) = (mk : Int) ∨ (mk : Int).toNat * 4 = 0 then s.x else none⟩ : Sl) = t8
 have h8l : t8.len = n - mk := by rw [← ht8]; show ((s.len : Int) - (mk : Int)).toNat = _; omega
 apply QaA
 unfold QL
 intro b1 nb1
 have l1 := Heap.le_put nb1 (g := .row [slv t8]) (m := true)
 have c1 : (H.put b1 (.row [slv t8])) b1 = some (true, .row [slv t8]) := Heap.put_same ..
 generalize H.put b1 (.row [slv t8]) = H1 at *
 refine ⟨70, [pv (some (b1, 0))], rfl, Qan, fun D yl r hD hyl hne => ?_⟩
 have hHD : H D = none := l1.none hD
 have hHy : H yl = none := l1.none hyl
 have hAy : A yl = none := hO.le.none hHy
 have hAD : A D = none := hO.le.none hHD
 have ob1 : o b1 = none := by
  cases e : o b1 with
  | none => rfl
  | some w => exact absurd nb1 (hO.oh _ _ e)
 have oD : o D = none := by
  cases e : o D with
  | none => rfl
  | some w => exact absurd hHD (hO.oh _ _ e)
 have oy : o yl = none := by
  cases e : o yl with
  | none => rfl
  | some w => exact absurd hHy (hO.oh _ _ e)
 have hle2 : H1.le (H1.put D (.obj (.deferred (some [])))) := Heap.le_put hD
 have hyD : (H1.put D (.obj (.deferred (some [])))) yl = none := by rw [Heap.put_ne _ _ _ hne.symm]; exact hyl
 have bs0 : Bs o (Heap.wo_ o (H1.put D (.obj (.deferred (some []))))) (H1.put D (.obj (.deferred (some [])))) := Bs.wo
 have hBy : (Heap.wo_ o (H1.put D (.obj (.deferred (some []))))) yl = none := by rw [Heap.wo_none oy]; exact hyD
 have hBb : (Heap.wo_ o (H1.put D (.obj (.deferred (some []))))) b1 = some (true, .row [slv t8]) := by rw [Heap.wo_none ob1]; exact hle2 _ _ c1
 have hBD : (Heap.wo_ o (H1.put D (.obj (.deferred (some []))))) D = some (true, .obj (.deferred (some []))) := by rw [Heap.wo_none oD]; exact Heap.put_same ..
 have I0 : BkI o A H (Heap.wo_ o (H1.put D (.obj (.deferred (some []))))) x m s a T n N yl o (H1.put D (.obj (.deferred (some [])))) n := by
  have hh := l1.trans hle2
  exact ⟨by rw [show n - n = 0 by omega]; exact p1.up hh, p2.keep fun c hw => ⟨hw, hO.eq_le hh hw⟩, bs0, Chg.of_le hh, oy⟩
 generalize H1.put D (.obj (.deferred (some []))) = HD at *
 generalize Heap.wo_ o HD = B0 at *
 refine ⟨BkY o A H B0 x m s a T n N yl r, fun us K2 H2 hY => ?_, fun hy => ?_⟩
 ·-- a round
  obtain ⟨i, j, t, v, o2, rfl, htj, hth, hI, hyr, hK⟩ := hY
  refine ⟨hyr, rfl, i, v, rfl, ?_⟩
  intro b42 n42
  refine ⟨hth.cell, nwT rfl ?_⟩
  have l42 := Heap.le_put n42 (g := .row (Qc.c v)) (m := true)
  have c42 : (H2.put b42 (.row (Qc.c v))) b42 = some (true, .row (Qc.c v)) := Heap.put_same ..
  have ny : b42 ≠ yl := fun e => by rw [← e, n42] at hyr; cases hyr
  have hI2 := hI.up l42
  have hyr2 := l42 _ _ hyr
  generalize H2.put b42 (.row (Qc.c v)) = H3 at *
  refine ⟨hyr2, ?_⟩
  have hI3 := hI2.puty (g := Rf.lrec r .busy none) hHy hBy hAy
  have hy3 : (H3.put yl (Rf.lrec r .busy none)) yl = some (true, Rf.lrec r .busy none) := Heap.put_same ..
  have c43 : (H3.put yl (Rf.lrec r .busy none)) b42 = some (true, .row (Qc.c v)) := by rw [Heap.put_ne _ _ _ ny]; exact c42
  generalize H3.put yl (Rf.lrec r .busy none) = H4 at *
  refine ⟨v.undo_, by rw [Qn c43]; rfl, ?_⟩
  have hlt : j < T.length := (List.getElem?_eq_some_iff.1 htj).1
  refine Qis hI3.lc (hmts (j + 1) (by omega)) hth.und (p4 j t htj) fun o3 H5 hc5 L5 => ?_
  have hnew : o3 yl = none := by
   cases e : o3 yl with
   | none => rfl
   | some w =>
    rcases hc5.dn _ _ e with e1 | ⟨e1, _⟩
    ·rw [hI3.ny] at e1; cases e1
    ·rw [hy3] at e1; cases e1
  have hy5 : H5 yl = some (true, Rf.lrec r .busy none) := hc5.kp _ _ hy3 fun w hw => by rw [hI3.ny] at hw; cases hw
  have I5 : BkI o A H B0 x m s a T n N yl o3 H5 j := ⟨L5.more (by omega), hI3.dn.chg hI3.lc.oh hc5, hI3.bs.mv (A := A) (A2 := A) ⟨hc5.imp fun _ _ => trivial, Heap.le.refl _, fun c hc => .inl hc⟩, hI3.cg.trans hc5, hnew⟩
  exact ⟨rfl, hy5, hK o3 _ (I5.puty hHy hBy hAy) (Heap.put_same ..)⟩
 ·refine Spec.mono (Qai C hy (b1, 0) (fun H4 => ∃ st pend, H4 yl = some (true, Rf.lrec r st pend) ∧ st ≠ .busy ∧ (pend = none ∧ _ ∨ pend = some .ret ∧ _)) (HD.put yl (Rf.lrec r .ready none)) ?_) fun u H4 hh => hh.2
  have I1 := I0.puty (g := Rf.lrec r .ready none) hHy hBy hAy
  have hy1 : (HD.put yl (Rf.lrec r .ready none)) yl = some (true, Rf.lrec r .ready none) := Heap.put_same ..
  unfold QF
  generalize HD.put yl (Rf.lrec r .ready none) = H2 at *
  refine ⟨t8, by rw [Qn (I1.bs.le _ _ hBb)]; rfl, ?_⟩
  dsimp only
  rw [h8l]
  rw [QcG (by omega) (by omega)]
  refine ⟨fun y H' => ∃ (i : Nat) (o2 : Own_), y = (i : Int) - 1 ∧ i ≤ n - mk ∧ BkI o A H B0 x m s a T n N yl o2 H' (mk + i) ∧ H' yl = some (true, Rf.lrec r .ready none), fun y _ => (y + 1).toNat, ⟨n - mk, o, rfl, Nat.le_refl _, by rw [show mk + (n - mk) = n by omega]; exact I1, hy1⟩, ?_⟩
  rintro _ H3 ⟨i, o2, rfl, hi, I3, hy3⟩
  refine ift.of (fun hge => ?_) (fun hge => ?_)
  ·have hge := of_decide_eq_true hge
   have hi1 : 1 ≤ i := by omega
   have hti : T[mk + (i - 1)]? = some (T[mk + (i - 1)]'(by omega)) := List.getElem?_eq_getElem _
   obtain ⟨v, b, hth, hsp, hrd⟩ := I3.dn.at_ hti
   have hs8 : t8.p = some (b, mk * 4) ∧ t8.x = none := by
    rw [← ht8]
    have hne : ¬ (s.cap : Int) = (mk : Int) := by omega
    refine ⟨?_, ?_⟩
    ·show (if (s.cap : Int) = (mk : Int) then s.p else s.p.map (fun p => (p.1, p.2 + (mk : Int).toNat * 4))) = _
     rw [if_neg hne, hsp]; simp
    ·show (if (s.cap : Int) = (mk : Int) ∨ (mk : Int).toNat * 4 = 0 then s.x else none) = none
     rw [q1.2.1]; split <;> rfl
   refine ⟨t8, by rw [Qn (I3.bs.le _ _ hBb)]; rfl, (b, mk * 4), hs8.1, hs8.2, by omega, by rw [h8l]; omega, v, ?_, ?_⟩
   ·show rds H3 (b, mk * 4 + ((i : Int) - 1).toNat * 4) _
    rw [show mk * 4 + ((i : Int) - 1).toNat * 4 = (mk + (i - 1)) * 4 by omega]
    exact hrd
   ·refine ⟨(i : Int) - 1, mk + (i - 1), _, v, o2, rfl, hti, hth, by rw [show mk + (i - 1) + 1 = mk + i by omega]; exact I3, hy3, fun o3 H4 I4 hy4 => Qk rfl ?_⟩
    rw [QcG (by omega) (by omega)]
    exact ⟨⟨i - 1, o3, by omega, by omega, I4, hy4⟩, by dsimp only; omega⟩
  ·have hge := of_decide_eq_false hge
   have hi0 : i = 0 := by omega
   subst hi0
   refine ⟨.ready, none, hy3, by decide, .inl ⟨rfl, ?_⟩⟩
   have I4 := I3.puty (g := Rf.lrec r .exhausted none) hHy hBy hAy
   generalize H3.put yl (Rf.lrec r .exhausted none) = H4 at *
   refine ⟨_, rfl, I4.lc.ld1 ⟨by omega, by omega, by omega, by omega, _, rfl, _, rfl, _, I4.lc.hx, by simp, ?_⟩⟩
   generalize ht61 : (⟨if (mk : Int) = 0 then s.p else s.p.map (fun p => (p.1, p.2 + (0 : Int).toNat * 4)), ((mk : Int) - 0).toNat, ((mk : Int) - 0).toNat, if (mk : Int) = 0 ∨ (0 : Int).toNat * 4 = 0 then s.x else none⟩ : Sl) = t61
   have e61 : t61 = ⟨s.p, mk, mk, s.x⟩ := by
    rw [← ht61]
    have : s.p.map (fun p : Nat × Nat => (p.1, p.2 + (0 : Int).toNat * 4)) = s.p := by cases s.p <;> simp
    rw [this]
    simp
   subst e61
   have hxD : D ≠ x := fun e => by rw [e, p1.hx] at hHD; cases hHD
   show Rf.mk1 (H4.put x (.row [mv (some m), slv ⟨s.p, mk, mk, s.x⟩])) D _
   refine ⟨(H4.put x (.row [mv (some m), slv ⟨s.p, mk, mk, s.x⟩])).del D, Heap.del_le _ _, Heap.del_same .., by rw [Heap.put_ne _ _ _ hxD]; exact I4.bs.le _ _ hBD, ?_⟩
   have oD2 : o2 D = none := by
    cases e : o2 D with
    | none => rfl
    | some w => rw [I4.bs.ap _ _ e] at hBD; cases hBD
   have hcx : Chg (fun _ => True) o2 H4 o2 (H4.put x (.row [mv (some m), slv ⟨s.p, mk, mk, s.x⟩])) := Chg.put I4.lc.ox trivial
   have hcg := (I4.cg.imp (Q := fun _ => True) fun _ _ => trivial).trans hcx
   have hoc := I4.lc.oh.chg hcx
   have hxs : ∀ c w, o2 c = some w → c ≠ D := fun c w hw e => by rw [e, oD2] at hw; cases hw
   have hdel : ∀ c w, o2 c = some w → w ≠ .log → ((H4.put x (.row [mv (some m), slv ⟨s.p, mk, mk, s.x⟩])).del D) c = H4 c := fun c w hw hwl => by
    rw [Heap.del_ne _ (hxs c w hw)]
    exact Heap.put_ne _ _ _ fun e => by rw [e, I4.lc.ox] at hw; injection hw with hw; exact hwl hw.symm
   refine k0 h0 h1 o2 _ ⟨⟨fun c e hc hn => ?_, hcg.up, fun c w hw => ?_, fun c hc => ?_⟩, Heap.le.refl _, fun c hc => .inl hc⟩ ⟨⟨m, ⟨s.p, mk, mk, s.x⟩, T.take mk, ⟨⟨fun c e hc => ?_, hoc.ap, fun c w hw => ?_⟩, ?_, I4.lc.ox, ?_⟩, ⟨?_, fun q hq => I4.dn.ow q hq⟩, by simp [p3]; omega, fun i t hi => ?_⟩, fun i hi => hmts i (Nat.le_trans hi hmkn), fun i hi => hnms i (Nat.le_trans hi hmkn)⟩
   ·rw [Heap.del_ne _ (fun e' => by rw [e', hHD] at hc; cases hc)]; exact hcg.kp c e hc hn
   ·rcases hcg.dn c w hw with e | ⟨e1, e2, e3⟩
    ·exact .inl e
    ·exact .inr ⟨e1, e2, by rw [Heap.del_ne _ (hxs c w hw)]; exact e3⟩
   ·rw [Heap.del_ne _ (fun e' => hc (by rw [e']; exact hHD))]; exact hcg.li c hc
   ·rw [Heap.del_ne _ (fun e' => by rw [e', hAD] at hc; cases hc)]; exact hoc.le c e hc
   ·rw [Heap.del_ne _ (hxs c w hw)]; exact hoc.oh c w hw
   ·rw [Heap.del_ne _ hxD.symm]; exact Heap.put_same ..
   ·obtain ⟨L, hR⟩ := I4.lc.rl
    refine ⟨L, ?_⟩
    have := hR.keep (o2 := o2) (H2 := ((H4.put x (.row [mv (some m), slv ⟨s.p, mk, mk, s.x⟩])).del D)) fun c w hw hp => ⟨hw, hdel c w hw fun e => by subst e; exact hp⟩
    exact this
   ·obtain ⟨⟨ys, w1, w2, w3⟩, w4⟩ := I4.dn
    obtain ⟨v1, v2, v3, v4⟩ := w1
    refine ⟨ys.take mk, ⟨by rw [QcW, List.length_take]; show min mk ys.length * 4 = mk * 4; rw [Nat.min_eq_left (by omega)], v2, Nat.le_refl _, ?_⟩, by rw [List.length_take, List.length_take]; omega, fun i t v hi hv => ?_⟩
    ·rcases v4 with ⟨e1, e2⟩ | ⟨b, sp, e1, e2, e3⟩
     ·exact .inl ⟨e1, by show mk = 0; omega⟩
     ·refine .inr ⟨b, (ys.drop mk).flatMap Qc.c ++ sp, e1, ?_, ?_⟩
      ·rw [hdel b .done (w4 _ e1) (fun e => by cases e), e2, ← List.append_assoc, ← List.flatMap_append, List.take_append_drop]
      ·rw [← List.append_assoc, ← List.flatMap_append, List.take_append_drop]
       have : mk * 4 ≤ s.cap * 4 := Nat.mul_le_mul_right _ (by omega)
       exact Nat.le_trans this e3
    ·rw [List.getElem?_take] at hi hv
     split at hi
     ·rename_i hlt
      rw [if_pos hlt] at hv
      exact w3 i t v hi hv
     ·cases hi
   ·rw [List.getElem?_take] at hi
    split at hi
    ·exact p4 i t hi
    ·cases hi
end
end
section
open Go Go.Proofs
/-- changes that grow, each row a copy -/
structure OgC (H B : Heap) (cs : List (Qb × NR)) (s : Sl) : Prop where
 own : OwnF H B 3 s (cs.flatMap fun z => Qb.c z.1)
 done : ∀ z ∈ cs, Made H (B.off s) z.2.2 z.1.Row.L ∧ z.1.Row.Rel = z.2.1
theorem OgC.nil {H B : Heap} (h : H.le B) : OgC H B [] Sl.nil := ⟨⟨h, Own.nil _ 3, Fresh.nil _⟩, fun z hz => by cases hz⟩
theorem OgC.step {H B B2 B4 : Heap} {cs : List (Qb × NR)} {s r t : Sl} {l : List V} {n : Str} {k : Int} (h : OgC H B cs s) (hm : Made B B2 l t) (h4 : OwnF (B2.off s) B4 3 r ((cs.flatMap fun z => Qb.c z.1) ++ Qb.c (⟨⟨n, t⟩, k⟩ : Qb))) : OgC H B4 (cs ++ [((⟨⟨n, t⟩, k⟩ : Qb), (n, l))]) r := by
 have hoff : H.le (B2.off s) := Heap.le_off (h.own.le.trans hm.le) h.own.fresh
 have h34 : (B2.off s).le (B4.off r) := Heap.le_off h4.le h4.fresh
 have h12 : (B.off s).le (B2.off s) := Heap.le_off ((Heap.off_le s B).trans hm.le) (Heap.off_fresh s B)
 refine ⟨?_, fun z hz => ?_⟩
 ·rw [List.flatMap_append]
  have := h4.down hoff
  simpa using this
 ·rcases List.mem_append.1 hz with hz | hz
  ·obtain ⟨q1, q2⟩ := h.done z hz
   exact ⟨q1.up (h12.trans h34), q2⟩
  ·rw [List.mem_singleton] at hz
   subst hz
   exact ⟨(hm.off h.own.le h.own.fresh fun p hp => h.own.own.mine hp).up h34, rfl⟩
theorem Qg4 (l : List (Qb × NR)) : (l.flatMap fun z => Qb.c z.1).length = l.length * 3 := by
 induction l with
 | nil => rfl
 | cons a l ih => rw [List.flatMap_cons, List.length_append, ih, List.length_cons, Nat.add_mul]; show 3 + _ = _; omega
/-- what is new since a mark, told in new memory -/
structure SinceIs (H H2 : Heap) (S0 S : Sta) (s : Sl) (ws : List (Qb × NR)) : Prop where
 og : OgC H H2 ws s
 isd : IsD S0 S (ws.map fun z => (z.2, z.1.N))
/-- what was turned an odd number of times -/
structure TnI (A D : Heap) (b4 : Nat) (S0 S : Sta) (l : List ((Str × Str) × Sl)) (k : Nat) : Prop where
 ms : MapS kp slv D b4 l
 of : ∀ p ∈ l, ∃ y : NR, p.1 = (y.1, showK y.2) ∧ VRow A p.2 y.2 ∧ ¬ (S y ↔ S0 y) ∧ inR y.2
 al : ∀ y, ¬ (S y ↔ S0 y) → ∃ s, ((y.1, showK y.2), s) ∈ l
 ln : l.length ≤ k
section
variable {C : Ctx} {o : Own_} {A B H H2 D : Heap} {x m n N b4 k : Nat} {s : Sl} {S0 S S2 : Sta} {T : List Th} {t : Th} {a : Nat → Sta} {l : List ((Str × Str) × Sl)}
theorem Qf7 {x y : NR} (hx : inR x.2) (hy : inR y.2) (e : (x.1, showK x.2) = (y.1, showK y.2)) : x = y := by
 have h := Prod.ext_iff.1 e
 exact Prod.ext h.1 (hx.inj hy h.2)
/-- one thing more -/
theorem TnI.step {K : Heap → Prop} {v : Sl} (h : TnI A D b4 S0 S l k) (hF : FineS S) (hF0 : FineS S0) (hx : inR t.2.2) (hv : VRow A v t.2.2) (hst : stepS t S S2)
 (kk : ∀ g l2, TnI A (D.put b4 g) b4 S0 S2 l2 (k + 1) → K (D.put b4 g))
 {Kx : Sl → Bool → Prop} (f1 : ∀ z, delS kp slv (some b4) (t.2.1, showK t.2.2) K D → Kx z true) (f0 : upS kp slv (some b4) (t.2.1, showK t.2.2) v K D → Kx Sl.nil false) :
 lkM kp slv Sl.nil (some b4) (t.2.1, showK t.2.2) Kx D := by
 obtain ⟨ht1, ht2⟩ := hst.turn
 have hin : ∀ y, ¬ (S y ↔ S0 y) → inR y.2 := fun y hy => by
  by_cases h1 : S y
  ·exact hF y h1
  ·by_cases h2 : S0 y
   ·exact hF0 y h2
   ·exact absurd ⟨fun h => absurd h h1, fun h => absurd h h2⟩ hy
 refine h.ms.is.lk (fun z hz => f1 _ ?_) fun hz => f0 ?_
 ·obtain ⟨y, q1, q2, q3, q4⟩ := h.of _ (QaI hz)
  dsimp only at q1
  have hxy : t.2 = y := Qf7 hx q4 q1
  subst hxy
  refine .inr ⟨b4, l, rfl, h.ms, fun g l2 w1 w2 => kk g l2 ⟨w1, fun p hp => ?_, fun y hy => ?_, ?_⟩⟩
  ·obtain ⟨e1, e2⟩ := (w2 p).1 hp
   obtain ⟨y, r1, r2, r3, r4⟩ := h.of p e1
   have hne : y ≠ t.2 := fun e => e2 (by rw [r1, e])
   exact ⟨y, r1, r2, by rw [ht2 y hne]; exact r3, r4⟩
  ·have hne : y ≠ t.2 := fun e => hy (by
    rw [e, ht1]
    constructor
    ·intro h1; exact Classical.byContradiction fun h2 => q3 ⟨fun h => absurd h h1, fun h => absurd h h2⟩
    ·intro h1 h2; exact q3 ⟨fun _ => h1, fun _ => h2⟩)
   rw [ht2 y hne] at hy
   obtain ⟨s', hs'⟩ := h.al y hy
   exact ⟨s', (w2 _).2 ⟨hs', fun e => hne (Qf7 (hin y hy) hx e)⟩⟩
  ·have := Qgs (f := fun p : (Str × Str) × Sl => p.1) w1.is.nd fun p hp => ((w2 p).1 hp).1
   have := h.ln
   omega
 ·have hsame : S t.2 ↔ S0 t.2 := Classical.byContradiction fun hc => by
   obtain ⟨s', hs'⟩ := h.al _ hc
   rw [QaS h.ms.is.nd hs'] at hz; cases hz
  refine ⟨b4, l, rfl, h.ms, fun g l2 w1 w2 w3 => kk g l2 ⟨w1, fun p hp => ?_, fun y hy => ?_, ?_⟩⟩
  ·have hl := QaS w1.is.nd (k := p.1) (x := p.2) hp
   rw [w2] at hl
   split at hl
   ·rename_i he
    injection hl with hl
    refine ⟨t.2, he, hl ▸ hv, fun hc => ?_, hx⟩
    rw [ht1, hsame] at hc
    by_cases h0 : S0 t.2
    ·exact hc.2 h0 h0
    ·exact h0 (hc.1 h0)
   ·obtain ⟨y, r1, r2, r3, r4⟩ := h.of p (QaI hl)
    rename_i he
    have hne : y ≠ t.2 := fun e => he (by rw [r1, e])
    exact ⟨y, r1, r2, by rw [ht2 y hne]; exact r3, r4⟩
  ·by_cases hne : y = t.2
   ·subst hne; exact ⟨v, QaI (by rw [w2, if_pos rfl])⟩
   ·rw [ht2 y hne] at hy
    obtain ⟨s', hs'⟩ := h.al y hy
    refine ⟨s', QaI ?_⟩
    rw [w2, if_neg fun e => hne (Qf7 (hin y hy) hx e)]
    exact QaS h.ms.is.nd hs'
  ·have := h.ln
   rw [w3]; split <;> omega
end
end
section
open Go Go.Proofs
section
variable {C : Ctx} {o : Own_} {A B H H2 D : Heap} {x m n N b4 k : Nat} {s : Sl} {S0 S S2 : Sta} {T : List Th} {t : Th} {a : Nat → Sta} {l : List ((Str × Str) × Sl)}
theorem fS2 {H : Heap} {b j : Nat} {mu : Bool} {cs : List Value} {t : Str} {K : Str → Prop} (h : H b = some (mu, .row cs)) (hj : cs[j]? = some (sv t)) (k : K t) : ldS H ((b, 0).1, (b, 0).2 + j) K := ⟨t, by rw [Qn h, Nat.zero_add]; exact hj, k⟩
theorem Qid {b : Nat} {g : GO} (h : H.le D) (hb : H b = none) : H.le (D.put b g) := fun c e hc => by
 rw [Heap.put_ne _ _ _ (fun e' => by rw [e', hb] at hc; cases hc)]; exact h c e hc
theorem QfT {jj : Int} {K : Sl → Int → Heap → Prop} (h : LG o A H x a n N) (hnn : n ≤ 1000000) (k1 : ¬ (0 ≤ jj ∧ jj ≤ n) → K Sl.nil 1 H)
 (k0 : ∀ s ws H2, 0 ≤ jj → jj ≤ n → SinceIs H H2 (a jj.toNat) (a n) s ws → ws.length ≤ n - jj.toNat → K s 0 H2) : Qy C (some (x, 0)) jj K H := by
 apply Qcu
 unfold Qbl
 refine Qho h ?_
 by_cases hj : 0 ≤ jj ∧ jj ≤ n
 rotate_left
 ·rw [if_neg hj]
  exact Qm rfl (k1 hj)
 rw [if_pos hj]
 refine Qk rfl ?_
 obtain ⟨h0, h1⟩ := hj
 obtain ⟨mk, rfl⟩ := Int.eq_ofNat_of_zero_le h0
 have hmk : mk ≤ n := by omega
 have hmn : (mk : Int).toNat = mk := by omega
 rw [hmn] at k0
 have hF := h.f
 have hLG := h
 obtain ⟨⟨m, s, T, p1, p2, p3, p4⟩, _, _⟩ := h
 have hsl : s.len = n := by
  obtain ⟨⟨xs, q1, q2, _⟩, _⟩ := p2
  have h1 := q1.1; rw [QcW] at h1; omega
 have hcap : s.len ≤ s.cap := by obtain ⟨⟨xs, q1, q2, _⟩, _⟩ := p2; exact q1.2.2.1
 have hsx : s.x = none := by obtain ⟨⟨xs, q1, q2, _⟩, _⟩ := p2; exact q1.2.1
 intro b4 nb4
 have l4 := Heap.le_put nb4 (g := .obj (.map #[] 0)) (m := true)
 have hm4 : MapS kp slv (H.put b4 (.obj (.map #[] 0))) b4 ([] : List ((Str × Str) × Sl)) := MapS.new
 generalize H.put b4 (.obj (.map #[] 0)) = H5 at *
 refine ⟨_, rfl, (p1.up l4).ld1 ⟨by omega, by omega, by omega, by omega, _, rfl, ?_⟩⟩
 generalize ht8 : (⟨if (s.cap : Int) = (mk : Int) then s.p else s.p.map (fun p => (p.1, p.2 + (mk : Int).toNat * 4)), ((s.len : Int) - (mk : Int)).toNat, ((s.cap : Int) - (mk : Int)).toNat, if (s.cap : Int) = (mk : Int) ∨ (mk : Int).toNat * 4 = 0 then s.x else none⟩ : Sl) = t8
 have h8l : t8.len = n - mk := by rw [← ht8]; show ((s.len : Int) - (mk : Int)).toNat = _; omega
 refine ⟨fun y D => ∃ (i : Nat) (l : List ((Str × Str) × Sl)), y = (i : Int) ∧ i ≤ n - mk ∧ H.le D ∧ TnI A D b4 (a mk) (a (mk + i)) l i, fun y _ => n - mk - y.toNat, ⟨0, [], rfl, Nat.zero_le _, l4, hm4, fun p hp => (by cases hp), fun y hy => absurd Iff.rfl hy, Nat.le_refl _⟩, ?_⟩
 rintro _ D ⟨i, l, rfl, hi, hHD, hT⟩
 rw [h8l]
 refine ift.of (fun hlt => ?_) (fun hge => ?_)
 ·have hlt : i < n - mk := by have := of_decide_eq_true hlt; omega
  have hti : T[mk + i]? = some (T[mk + i]'(by omega)) := List.getElem?_eq_getElem _
  obtain ⟨v, b, hth, hsp, hrd⟩ := p2.at_ hti
  have hs8 : t8.p = some (b, mk * 4) ∧ t8.x = none := by
   rw [← ht8]
   have hne : ¬ (s.cap : Int) = (mk : Int) := by omega
   refine ⟨?_, ?_⟩
   ·show (if (s.cap : Int) = (mk : Int) then s.p else s.p.map (fun p => (p.1, p.2 + (mk : Int).toNat * 4))) = _
    rw [if_neg hne, hsp]; simp
   ·show (if (s.cap : Int) = (mk : Int) ∨ (mk : Int).toNat * 4 = 0 then s.x else none) = none
    rw [hsx]; split <;> rfl
  refine ⟨fun _ D2 => ∃ l, H.le D2 ∧ TnI A D2 b4 (a mk) (a (mk + (i + 1))) l (i + 1), ?_, ?_⟩
  ·refine ⟨(b, mk * 4), hs8.1, hs8.2, by omega, by rw [h8l]; omega, v, ?_, ?_⟩
   ·show rds D (b, mk * 4 + (i : Int).toNat * 4) _
    rw [show mk * 4 + (i : Int).toNat * 4 = (mk + i) * 4 by omega]
    exact Qih hHD hrd
   ·intro b31 n31
    refine ⟨hth.cell, nwT rfl ?_⟩
    have l31 := Heap.le_put n31 (g := .row (Qc.c v)) (m := true)
    have c31 : (D.put b31 (.row (Qc.c v))) b31 = some (true, .row (Qc.c v)) := Heap.put_same ..
    generalize D.put b31 (.row (Qc.c v)) = D1 at *
    refine fS2 (j := 0) c31 rfl (fS2 (j := 1) c31 rfl ?_)
    intro b39 n39
    refine nwT rfl ?_
    have l39 := Heap.le_put n39 (g := .row (Qg.c (⟨v.rel_, v.key_⟩ : Qg))) (m := true)
    have c39 : (D1.put b39 (.row (Qg.c (⟨v.rel_, v.key_⟩ : Qg)))) b39 = some (true, .row (Qg.c (⟨v.rel_, v.key_⟩ : Qg))) := Heap.put_same ..
    have c31' := l39 _ _ c31
    generalize D1.put b39 (.row (Qg.c (⟨v.rel_, v.key_⟩ : Qg))) = D2 at *
    refine bxT (c := Qg.c) c39 ?_
    have lD := l31.trans l39
    have hHD2 := hHD.trans lD
    have hT2 : TnI A D2 b4 (a mk) (a (mk + i)) l i := ⟨hT.ms.le lD, hT.of, hT.al, hT.ln⟩
    have hst := p4 (mk + i) _ hti
    have hrow := hth.row
    have hrel := hth.rel
    have hkey := hth.key
    dsimp only
    rw [hrel, hkey] at c39 ⊢
    refine hT2.step (hF _ (by omega)) (hF _ hmk) hth.inn hrow hst (K := fun D2 => ∃ l, H.le D2 ∧ TnI A D2 b4 (a mk) (a (mk + (i + 1))) l (i + 1)) (fun g l2 w1 => ⟨l2, Qid hHD2 nb4, w1⟩) (fun z hd => Qm rfl (bxT (c := Qg.c) c39 hd)) fun hu => Qk rfl (bxT (c := Qg.c) c39 (fL (j := 2) c31' rfl hu))
  ·rintro _ D2 ⟨l2, w1, w2⟩
   rw [QcG (by omega) (by omega)]
   exact ⟨⟨i + 1, l2, by omega, by omega, w1, w2⟩, by first | omega | (dsimp only; omega)⟩
 ·have hie : i = n - mk := by have := of_decide_eq_false hge; omega
  subst hie
  rw [show mk + (n - mk) = n by omega] at hT
  have hin : ∀ y, ¬ (a n y ↔ a mk y) → inR y.2 := fun y hy => by
   by_cases h1 : a n y
   ·exact hF n (Nat.le_refl _) y h1
   ·by_cases h2 : a mk y
    ·exact hF mk hmk y h2
    ·exact absurd ⟨fun h => absurd h h1, fun h => absurd h h2⟩ hy
  obtain ⟨⟨ob4, cb4⟩, hb4⟩ : (∃ ob, D b4 = some (true, .obj ob)) ∧ True := by
   obtain ⟨es, ck, hm⟩ := hT.ms
   exact ⟨⟨_, hm.at_⟩, trivial⟩
  have hTl := hT.ln
  have hAD : A.le D := p1.oh.le.trans hHD
  refine .inr ⟨b4, l, rfl, hT.ms, fun it ob hit hI => ?_⟩
  refine ⟨fun s E => ∃ vs cs, It kp slv E it b4 l vs ∧ OgC D (E.del it) cs s ∧ (cs.map fun z => (z.2.1, showK z.2.2)) = vs.map (fun p => p.1) ∧ ∀ z ∈ cs, ¬ (a n z.2 ↔ a mk z.2) ∧ ((a n z.2 ∧ z.1.N = 1) ∨ (¬ a n z.2 ∧ z.1.N = -1)), fun _ E => l.length - itN E it, ⟨[], [], hI, ?_, rfl, fun z hz => by cases hz⟩, ?_⟩
  ·rw [QdX, Qg6 hit]; exact OgC.nil (Heap.le.refl _)
  rintro u E ⟨vs, cs, hIt, hO, hk, hR⟩
  have hlsl : cs.length = vs.length := by have := congrArg List.length hk; simpa using this
  have hfew := hIt.few
  refine .inr ⟨b4, l, vs, hIt, fun hall => ?_, fun p hp hnv ob2 hI2 => ?_⟩
  ·refine Qk rfl ?_
   have hmem : ∀ y, y ∈ (cs.map fun z => z.2) ↔ ¬ (a n y ↔ a mk y) := fun y => ⟨fun hy => by
    obtain ⟨z, hz, rfl⟩ := List.mem_map.1 hy
    exact (hR z hz).1, fun hy => by
    obtain ⟨s', hs'⟩ := hT.al y hy
    have : (y.1, showK y.2) ∈ cs.map fun z => (z.2.1, showK z.2.2) := by rw [hk]; exact List.mem_map.2 ⟨_, hall _ hs', rfl⟩
    obtain ⟨z, hz, e⟩ := List.mem_map.1 this
    have := Qf7 (x := z.2) (y := y) (hin _ (hR z hz).1) (hin y hy) e
    exact List.mem_map.2 ⟨z, hz, this⟩⟩
   have hnd : (cs.map fun z => z.2).Nodup := by
    have h5 : (cs.map fun z => (z.2.1, showK z.2.2)).Nodup := by rw [hk, List.Nodup, List.pairwise_map]; exact hIt.nd
    rw [List.Nodup, List.pairwise_map] at h5 ⊢
    exact h5.imp fun {a b} hab e => hab (by rw [e])
   have hoffle : ((E.del it).off u).le (E.off u) := by rw [Qe5]; exact Heap.del_le _ _
   refine Qi1 (H0 := D) (zs := cs) (hO.own.up (Heap.del_le _ _)) (fun z hz => ?_) (by omega) fun ws H3 hw hs hown hoff => ?_
   ·obtain ⟨q1, q2⟩ := hO.done z hz
    have hf := hin _ (hR z hz).1
    exact ⟨q2, q1.row2.le hoffle, hf.b, by have := hf.tookR.len; omega⟩
   ·have hwn : (ws.map fun z => z.2).Nodup := (hw.map fun z => z.2).symm.nodup hnd
    refine k0 u ws H3 h0 h1 ⟨⟨hown.down hHD, fun z hz => ?_⟩, ⟨?_, fun y c => ?_⟩⟩ (by rw [hw.length_eq]; omega)
    ·obtain ⟨q1, q2⟩ := hO.done z (hw.subset hz)
     rw [hoff]
     exact ⟨(q1.up hoffle).down hHD, q2⟩
    ·rw [List.map_map]
     show RiseN (ws.map fun z => z.2)
     have hs2 : (ws.map fun z => z.2).Pairwise fun a b => cmpN a b ≤ 0 := by rw [List.pairwise_map]; exact hs
     refine List.Pairwise.imp_of_mem (fun {a b} ha hb hab => ?_) (hs2.and hwn)
     have ra := (hin _ ((hmem a).1 ((hw.map fun z => z.2).subset ha))).m
     have rb := (hin _ ((hmem b).1 ((hw.map fun z => z.2).subset hb))).m
     have hne : cmpN a b ≠ 0 := fun e => hab.2 ((QhL ra rb).1 e)
     have := hab.1
     omega
    ·constructor
     ·intro hy
      obtain ⟨z, hz, e⟩ := List.mem_map.1 hy
      obtain ⟨r1, r2⟩ := hR z (hw.subset hz)
      injection e with e1 e2
      subst e1; subst e2
      rcases r2 with ⟨r2, r3⟩ | ⟨r2, r3⟩
      ·exact .inl ⟨r3, r2, fun h => r1 ⟨fun _ => h, fun _ => r2⟩⟩
      ·exact .inr ⟨r3, Classical.byContradiction fun h => r1 ⟨fun h2 => absurd h2 r2, fun h2 => absurd h2 h⟩, r2⟩
     ·intro hy
      have hmy : y ∈ cs.map fun z => z.2 := (hmem y).2 (by
       rcases hy with ⟨_, h1, h2⟩ | ⟨_, h1, h2⟩
       ·exact fun h3 => h2 (h3.1 h1)
       ·exact fun h3 => h2 (h3.2 h1))
      obtain ⟨z, hz, rfl⟩ := List.mem_map.1 hmy
      refine List.mem_map.2 ⟨z, hw.symm.subset hz, ?_⟩
      obtain ⟨_, r2⟩ := hR z hz
      rcases hy with ⟨e, h1, h2⟩ | ⟨e, h1, h2⟩ <;> rcases r2 with ⟨r2, r3⟩ | ⟨r2, r3⟩
      ·rw [r3, e]
      ·exact absurd h1 r2
      ·exact absurd r2 h2
      ·rw [r3, e]
  ·refine Qm rfl ⟨p.1, p.2, ⟨b4, l, vs, hI2⟩, ?_⟩
   obtain ⟨y, hpk, hv, hty, hyin⟩ := hT.of p hp
   obtain ⟨⟨ob3, a1⟩, ob5, a2⟩ := hI2.at_
   have hDit : D it = none := hit
   have hDel : ((E.put it (.obj ob2)).del it) = E.del it := QdX
   have hle : (E.del it).le (E.put it (.obj ob2)) := by rw [← hDel]; exact Heap.del_le _ _
   have hDE : D.le (E.put it (.obj ob2)) := hO.own.le.trans hle
   have hOw : Own (E.put it (.obj ob2)) 3 u (cs.flatMap fun z => Qb.c z.1) := hO.own.own.le hle
   generalize E.put it (.obj ob2) = E1 at *
   rw [hpk]
   intro b67 n67
   refine nwT rfl ?_
   have l67 := Heap.le_put n67 (g := .row (Qg.c (⟨y.1, showK y.2⟩ : Qg))) (m := true)
   have c67 : (E1.put b67 (.row (Qg.c (⟨y.1, showK y.2⟩ : Qg)))) b67 = some (true, .row (Qg.c (⟨y.1, showK y.2⟩ : Qg))) := Heap.put_same ..
   show jn _ _
   dsimp only
   generalize E1.put b67 (.row (Qg.c (⟨y.1, showK y.2⟩ : Qg))) = E2 at *
   have hADE2 : A.le E2 := hAD.trans (hDE.trans l67)
   have hyz : vsizes y.2 ≤ 1000000 := by have := hyin.z; omega
   refine ⟨fun q E3 => ∃ (b : Nat) (t : Sl) (G : Heap), q = (b, 0) ∧ Made E2 G y.2 t ∧ G b = none ∧ E3 = G.put b (.row (Qb.c (⟨⟨y.1, t⟩, -1⟩ : Qb))), ?_, ?_⟩
   ·refine ⟨E2, Heap.le.refl _, fS2 (j := 0) c67 rfl ⟨?_, ?_⟩⟩
    ·refine Qgj hv hADE2 hyz fun t2 G hM => ⟨hM.le, ?_⟩
     intro b82 n82
     exact ⟨hM.le.trans (Heap.le_put n82), nwT rfl ⟨b82, t2, G, rfl, hM, n82, rfl⟩⟩
    ·intro b86 n86
     have l86 := Heap.le_put n86 (g := .row (Qb.c Qb.zero)) (m := true)
     have c86 : (E2.put b86 (.row (Qb.c Qb.zero))) b86 = some (true, .row (Qb.c Qb.zero)) := Heap.put_same ..
     refine ⟨l86, Qgj hv (hADE2.trans l86) hyz fun t2 G hM => ⟨l86.trans hM.le, ?_⟩⟩
     have hg := hM.le _ _ c86
     have hM2 := hM.del c86
     rw [QdX, Qg6 n86] at hM2
     refine ⟨_, hg, by simp [Qb.c], b86, t2, G.del b86, rfl, hM2, Heap.del_same .., ?_⟩
     funext c
     by_cases hc : c = b86
     ·subst hc; rw [Heap.put_same, Heap.put_same]; rfl
     ·rw [Heap.put_ne _ _ _ hc, Heap.put_ne _ _ _ hc, Heap.del_ne _ hc]
   ·rintro _ E3 ⟨b, t, G, rfl, hM, hGb, rfl⟩
    have lG := Heap.le_put hGb (g := .row (Qb.c (⟨⟨y.1, t⟩, -1⟩ : Qb))) (m := true)
    have hHG : H.le (G.put b (.row (Qb.c (⟨⟨y.1, t⟩, -1⟩ : Qb)))) := hHD.trans (hDE.trans (l67.trans (hM.le.trans lG)))
    have c67' := lG _ _ (hM.le _ _ c67)
    have cb : (G.put b (.row (Qb.c (⟨⟨y.1, t⟩, -1⟩ : Qb)))) b = some (true, .row (Qb.c (⟨⟨y.1, t⟩, -1⟩ : Qb))) := Heap.put_same ..
    refine ⟨fun _ E4 => ∃ c : Int, ((a n y ∧ c = 1) ∨ (¬ a n y ∧ c = -1)) ∧ E4 = G.put b (.row (Qb.c (⟨⟨y.1, t⟩, c⟩ : Qb))), ?_, ?_⟩
    ·have hP := p1.up hHG
     obtain ⟨L, hRL⟩ := hP.rl
     refine ⟨_, rfl, hP.ld0 (fS2 (j := 0) c67' rfl (hRL.look fun q is hl => fS2 (j := 1) c67' rfl ?_))⟩
     refine hl.look (fun r' hr' => hF n (Nat.le_refl _) _ hr') hyin (fun hS s2 hs2 => Qm rfl ?_) fun hS => Qk rfl ⟨-1, .inr ⟨hS, rfl⟩, rfl⟩
     refine ⟨_, cb, by simp [Qb.c], 1, .inl ⟨hS, rfl⟩, ?_⟩
     rw [Heap.put_put]; rfl
    ·rintro _ E4 ⟨c, hc, rfl⟩
     have lG4 := Heap.le_put hGb (g := .row (Qb.c (⟨⟨y.1, t⟩, c⟩ : Qb))) (m := true)
     refine bxT (c := Qb.c) (x := (⟨⟨y.1, t⟩, c⟩ : Qb)) (Heap.put_same ..) ?_
     have hE1G : E1.le (G.put b (.row (Qb.c (⟨⟨y.1, t⟩, c⟩ : Qb)))) := l67.trans (hM.le.trans lG4)
     have hM3 : Made E1 (G.put b (.row (Qb.c (⟨⟨y.1, t⟩, c⟩ : Qb)))) y.2 t := (hM.up lG4).down l67
     generalize G.put b (.row (Qb.c (⟨⟨y.1, t⟩, c⟩ : Qb))) = E5 at *
     have hM4 := hM3.del a1
     rw [hDel] at hM4
     have hOwn3 : Own E5 3 u (cs.flatMap fun z => Qb.c z.1) := hOw.le hE1G
     have hsit : ∀ q, u.p = some q → q.1 ≠ it := fun q hq e => by
      obtain ⟨g, hg⟩ := hO.own.own.mine hq
      rw [e, Heap.del_same] at hg; cases hg
     have hsm : ∀ q, u.p = some q → q.1 ≠ b4 := fun q hq e => by
      have := hO.own.fresh q hq
      rw [e, cb4] at this; cases this
     have hit3 : (E5.off u) it = some (true, .obj ob3) := Heap.off_some (hE1G _ _ a1) hsit
     have hm3 : (E5.off u) b4 = some (true, .obj ob5) := Heap.off_some (hE1G _ _ a2) hsm
     have hsl3 : u.len = cs.length := by have h1 := hOwn3.1; rw [Qg4] at h1; omega
     refine Qf0 (zc := Qb.c Qb.zero) hOwn3.off rfl (by omega) (by omega) fun r2 H4 q1 q2 => ?_
     have e1 := hI2.cnt
     have e2 := hI2.few
     have e3 := hIt.cnt
     have hI4 : It kp slv H4 it b4 l (vs ++ [p]) := hI2.same ((q1.le _ _ hit3).trans a1.symm) ((q1.le _ _ hm3).trans a2.symm)
     have e4 := hI4.cnt
     simp only [List.length_append, List.length_singleton] at e1 e2 e4
     refine ⟨⟨vs ++ [p], cs ++ [((⟨⟨y.1, t⟩, c⟩ : Qb), y)], hI4, ?_, by rw [List.map_append, List.map_append, hk]; simp [hpk], fun z hz => ?_⟩, by first | omega | (dsimp only; omega)⟩
     ·have hq : OwnF ((E5.del it).off u) (H4.del it) 3 r2 ((cs.flatMap fun z => Qb.c z.1) ++ Qb.c (⟨⟨y.1, t⟩, c⟩ : Qb)) := by
       rw [Qe5]
       have := q1.del hit3
       rw [List.append_nil] at this; exact this
      exact OgC.step hO hM4 hq
     ·rcases List.mem_append.1 hz with hz | hz
      ·exact hR z hz
      ·rw [List.mem_singleton] at hz
       subst hz
       exact ⟨hty, hc⟩
end
end
section
open Go Go.Proofs
theorem Qec {H0 H H2 H3 : Heap} (h1 : H0.le H) (h2 : H2.le H3) : (Heap.new H H2).le (Heap.new H0 H3) := fun c e hc => by
 obtain ⟨a, b⟩ := Heap.new_inv hc
 exact Heap.new_some (h2 _ _ b) (h1.none a)
theorem QiR {T U : List (List V)} (h1 : Rise T) (h2 : Rise U) (he : ∀ r, r ∈ T ↔ r ∈ U) : T = U := Qf1 (P := fun _ => True) Lin.row h1 h2 (fun _ _ => trivial) he
section
variable {C : Ctx} {o o2 : Own_} {A B H H2 D : Heap} {x n N : Nat} {s t : Sl} {S : Sta} {a : Nat → Sta} {W : List NR} {R : List V → Prop} {T : List (List V)} {ys : List Sl}
theorem OwnF.new {z : Nat} {s : Sl} {cs : List Value} (h : OwnF H H2 z s cs) : Own (Heap.new H H2) z s cs := by
 obtain ⟨h1, ⟨q1, q2, q3, q4⟩, h3⟩ := h
 refine ⟨q1, q2, q3, ?_⟩
 rcases q4 with q4 | ⟨b, sp, r1, r2, r3⟩
 ·exact .inl q4
 ·exact .inr ⟨b, sp, r1, Heap.new_some r2 (h3 _ r1), r3⟩
theorem Told.rows (h : Told D H2 R T s ys) : VRows (Heap.new D H2) s T := by
 have ho := h.og.own
 refine ⟨ys, ho.new.rdsl, by have := ho.len; simpa using this, h.len, fun i y l hy hl => ?_⟩
 refine (h.og.done i l y hl hy).row.le fun c e hc => ?_
 obtain ⟨a, b⟩ := Heap.new_inv hc
 exact Heap.new_some ((Heap.off_le _ _) _ _ b) a
theorem Qgt (hO : OH o A D) (hle : D.le H) : Bs o (Heap.new D H) H := ⟨Heap.new_le _ _, fun c w hw => by
 cases hh : Heap.new D H c with
 | none => rfl
 | some e => exact absurd (Heap.new_inv hh).1 (hO.oh c w hw)⟩
/-- named rows that grow -/
structure OgR (H B : Heap) (cs : List (Qd × NR)) (s : Sl) : Prop where
 own : OwnF H B 2 s (cs.flatMap fun z => Qd.c z.1)
 done : ∀ z ∈ cs, VRow (Heap.new H (B.off s)) z.1.L z.2.2 ∧ z.1.Rel = z.2.1
end
end
section
open Go Go.Proofs
structure OpV where
 k : Int
 n : Int
 rel : Str
 row : List V
/-- not large -/
structure FewOp (l : List OpV) : Prop where
 len : l.length ≤ 400
 op : ∀ o ∈ l, okR o.row ∧ o.rel.length ≤ 1000000
section
variable {C : Ctx} {o o2 : Own_} {A B H H2 D : Heap} {x n N : Nat} {s t : Sl} {S : Sta} {a : Nat → Sta}
/-- what a step makes of what is there -/
structure Stp (a : Nat → Sta) (n : Nat) (a2 : Nat → Sta) (n2 : Nat) : Prop where
 le : n ≤ n2
 old : ∀ i, i ≤ n → a2 i = a i
theorem Stp.trans {a2 a3 : Nat → Sta} {n2 n3 : Nat} (h : Stp a n a2 n2) (h' : Stp a2 n2 a3 n3) : Stp a n a3 n3 := ⟨Nat.le_trans h.le h'.le, fun i hi => (h'.old i (Nat.le_trans hi h.le)).trans (h.old i hi)⟩
end
end
section
open Go Go.Proofs
def vN (n : Int) : V := .mk 2 n [] []
theorem QjL (H : Heap) (n : Int) : VIs H (vN n) ⟨2, n, [], Sl.nil⟩ := ⟨rfl, rfl, rfl, [], .inl rfl, rfl, trivial⟩
/-- changes in memory -/
def CgR (A : Heap) (v : Cg) (x : Qb) : Prop := x.Row.Rel = v.1.1 ∧ VRow A x.Row.L v.1.2 ∧ x.N = v.2
def NChs (A : Heap) (s : Sl) (D : List Cg) : Prop := SlIs (CgR A) Qb.c A s D
section
variable {C : Ctx} {o o2 : Own_} {A B H H2 E : Heap} {x n N : Nat} {s t : Sl} {S S0 : Sta} {a : Nat → Sta} {D : List Cg}
theorem SinceIs.chs {ws : List (Qb × NR)} (h : SinceIs H H2 S0 S s ws) (hl : ws.length ≤ 1000000) : NChs (Heap.new H H2) s (ws.map fun z => (z.2, z.1.N)) := by
 have hx := h.og.own.own.1
 rw [Qg4] at hx
 refine ⟨ws.map fun z => z.1, ?_, by rw [List.length_map]; omega, by simp, by simp; omega, fun i v y hv hy => ?_⟩
 ·rw [List.flatMap_map]; exact h.og.own.new.rdsl
 ·rw [List.getElem?_map] at hv hy
  cases hc : ws[i]? with
  | none => rw [hc] at hv; cases hv
  | some z =>
   rw [hc] at hv hy
   simp only [Option.map_some, Option.some.injEq] at hv hy
   subst hv; subst hy
   obtain ⟨q1, q2⟩ := h.og.done z (List.mem_of_getElem? hc)
   exact ⟨q2, q1.row.le (Qec (Heap.le.refl _) (Heap.off_le _ _)), rfl⟩
theorem QfF {K : Bool → Heap → Prop} (hs : NChs A s D) (ht : NChs B t D) (hA : A.le H) (hB : B.le H) (hb : ∀ z ∈ D, VBs z.1.2 ∧ z.1.2.length ≤ 140737488355328) (k : K true H) : Qad C s t K H := by
 apply QdD
 unfold QbI
 have l1 := SlIs.len hs
 have l2 := SlIs.len ht
 have hbd := SlIs.bd hs
 refine Qk (by rw [l1, l2]; simp) ?_
 refine ⟨fun y E => E = H ∧ ∃ i : Nat, y = (i : Int) ∧ i ≤ D.length, fun y _ => D.length - y.toNat, ⟨rfl, 0, rfl, Nat.zero_le _⟩, ?_⟩
 rintro _ E ⟨rfl, i, rfl, hi⟩
 rw [l1]
 refine ift.of (fun h => ?_) (fun h => k)
 have hlt : i < D.length := by have := of_decide_eq_true h; omega
 refine ⟨fun b D2 => D2 = E ∧ b = false, ?_, ?_⟩
 ·refine ⟨E, Heap.le.refl _, ?_⟩
  refine SlIs.fI hs hA (z := 3) (fun _ => rfl) (by omega) rfl hlt (j := 2) (q := .i64) (f := fun x => x.N) (fun _ => rfl) fun y hy => ?_
  refine SlIs.fI ht hB (z := 3) (fun _ => rfl) (by omega) rfl hlt (j := 2) (q := .i64) (f := fun x => x.N) (fun _ => rfl) fun z hz => ?_
  rw [hy.2.2, hz.2.2]
  refine Qk (by simp) ?_
  refine SlIs.at_ hs hA (z := 3) (fun _ => rfl) (by omega) rfl hlt fun p y hy hr => ⟨y.Row.Rel, hr 0 _ rfl, ?_⟩
  refine SlIs.at_ ht hB (z := 3) (fun _ => rfl) (by omega) rfl hlt fun p z hz hr => ⟨z.Row.Rel, hr 0 _ rfl, ?_⟩
  rw [hy.1, hz.1]
  refine Qk (by simp) ?_
  refine SlIs.at_ hs hA (z := 3) (fun _ => rfl) (by omega) rfl hlt fun p y hy hr => ⟨y.Row.L, hr 1 _ rfl, ?_⟩
  refine SlIs.at_ ht hB (z := 3) (fun _ => rfl) (by omega) rfl hlt fun p z hz hr => ⟨z.Row.L, hr 1 _ rfl, ?_⟩
  have hm := hb _ (List.getElem_mem hlt)
  refine Qhq (hy.2.1.le hA) (hz.2.1.le hB) hm.2 hm.1 ⟨Heap.le.refl _, rfl, ?_⟩
  rw [QhA.2 rfl]; rfl
 ·rintro _ D2 ⟨rfl, rfl⟩
  refine Qk rfl ?_
  rw [QcG (by omega) (by omega)]
  exact ⟨⟨rfl, i + 1, by omega, by omega⟩, by first | omega | (dsimp only; omega)⟩
theorem Qdm {rel : Str} {j : Int} {K : Qd → Heap → Prop} (k : ∀ t H2, H.le H2 → VRow (Heap.new H H2) t [vN j] → K ⟨rel, t⟩ H2) : QK C rel j K H := by
 apply Qgm
 unfold QeL
 intro b1 n1 b3 n3
 have ne : b3 ≠ b1 := fun e => by rw [e, Heap.put_same] at n3; cases n3
 have n3' : H b3 = none := by rw [Heap.put_ne _ _ _ ne] at n3; exact n3
 refine ⟨_, by rw [Heap.put_ne _ _ _ ne.symm, Heap.put_same], by simp [Qd.c], ?_⟩
 have e : splice (Qd.c Qd.zero) (b1, 0).2 (Qd.c (⟨rel, Sl.of (some (b3, 0)) 1 1⟩ : Qd)) = Qd.c (⟨rel, Sl.of (some (b3, 0)) 1 1⟩ : Qd) := rfl
 rw [e]
 refine bxT (c := Qd.c) (x := (⟨rel, Sl.of (some (b3, 0)) 1 1⟩ : Qd)) (Heap.put_same ..) (k _ _ (fun c e hc => ?_) ⟨[⟨2, j, [], Sl.nil⟩], .inr ⟨rfl, (b3, 0), rfl, ?_⟩, rfl, QjL _ _, trivial⟩)
 ·have h1 : c ≠ b1 := fun e' => by rw [e', n1] at hc; cases hc
  have h3 : c ≠ b3 := fun e' => by rw [e', n3'] at hc; cases hc
  rw [Heap.put_ne _ _ _ h1, Heap.put_ne _ _ _ h3, Heap.put_ne _ _ _ h1]; exact hc
 ·refine Qcq (m := true) (Heap.new_some (by rw [Heap.put_ne _ _ _ ne, Heap.put_same]) n3') fun j v hj => ?_
  rw [Nat.zero_add]; exact hj
theorem okN1 {j : Int} (h : 0 ≤ j) (h2 : j ≤ 10) : okR [vN j] := ⟨by simp [vN, VBs, VB]; omega, by simp [vN, vsizes, vsize]⟩
theorem okn1 : okR [vN 1] := okN1 (by omega) (by omega)
theorem okn2 : okR [vN 2] := okN1 (by omega) (by omega)
theorem mayN1 (j : Int) : mayR [vN j] = true := by rfl
theorem inn1 : inR [vN 1] := ⟨okn1, mayN1 1⟩
theorem inn2 : inR [vN 2] := ⟨okn2, mayN1 2⟩
abbrev xR1 : NR := ([114], [vN 1])
abbrev xR2 : NR := ([114], [vN 2])
abbrev xS1 : NR := ([115], [vN 1])
theorem x12 : xR1 ≠ xR2 := fun e => by simp [vN] at e
theorem x1s : xR1 ≠ xS1 := fun e => by simp at e
theorem x2s : xR2 ≠ xS1 := fun e => by simp at e
/-- what is there at each mark -/
def exA : Nat → Sta
 | 0 => noS
 | 1 => fun y => y = xR1
 | 2 => fun y => y = xR1 ∨ y = xR2
 | 3 => fun y => y = xR2
 | _ => fun y => y = xR2 ∨ y = xS1
theorem exA1 : putS noS xR1 = exA 1 := by funext y; exact propext ⟨fun h => h.elim (fun h => h.elim) id, .inr⟩
theorem exA2 : putS (exA 1) xR2 = exA 2 := rfl
theorem exA3 : Qew (exA 2) xR1 = exA 3 := by
 funext y
 refine propext ⟨fun ⟨h1, h2⟩ => h1.resolve_left h2, fun h => ⟨.inr h, fun e => x12 (e.symm.trans h)⟩⟩
theorem exA4 : putS (exA 3) xS1 = exA 4 := rfl
theorem exD2 : IsD (exA 2) (exA 4) [(xR1, -1), (xS1, 1)] := by
 refine ⟨?_, fun y c => ?_⟩
 ·unfold RiseN
  simp only [List.map_cons, List.map_nil, List.pairwise_cons, List.mem_cons, List.not_mem_nil, or_false, forall_eq, List.Pairwise.nil, and_true, false_implies, implies_true]
  decide +kernel
 ·simp only [List.mem_cons, List.not_mem_nil, or_false, Prod.mk.injEq]
  show (y = xR1 ∧ c = -1 ∨ y = xS1 ∧ c = 1) ↔ (c = 1 ∧ (y = xR2 ∨ y = xS1) ∧ ¬ (y = xR1 ∨ y = xR2)) ∨ (c = -1 ∧ (y = xR1 ∨ y = xR2) ∧ ¬ (y = xR2 ∨ y = xS1))
  constructor
  ·rintro (⟨rfl, rfl⟩ | ⟨rfl, rfl⟩)
   ·exact .inr ⟨rfl, .inl rfl, fun h => h.elim x12 x1s⟩
   ·exact .inl ⟨rfl, .inr rfl, fun h => h.elim (fun e => x1s e.symm) fun e => x2s e.symm⟩
  ·rintro (⟨rfl, h1, h2⟩ | ⟨rfl, h1, h2⟩)
   ·exact .inr ⟨h1.resolve_left fun e => h2 (.inr e), rfl⟩
   ·exact .inl ⟨h1.resolve_right fun e => h2 (.inl e), rfl⟩
theorem exD0 : IsD (exA 0) (exA 4) [(xR2, 1), (xS1, 1)] := by
 refine ⟨?_, fun y c => ?_⟩
 ·unfold RiseN
  simp only [List.map_cons, List.map_nil, List.pairwise_cons, List.mem_cons, List.not_mem_nil, or_false, forall_eq, List.Pairwise.nil, and_true, false_implies, implies_true]
  decide +kernel
 ·simp only [List.mem_cons, List.not_mem_nil, or_false, Prod.mk.injEq]
  show (y = xR2 ∧ c = 1 ∨ y = xS1 ∧ c = 1) ↔ (c = 1 ∧ (y = xR2 ∨ y = xS1) ∧ ¬ False) ∨ (c = -1 ∧ False ∧ ¬ (y = xR2 ∨ y = xS1))
  constructor
  ·rintro (⟨rfl, rfl⟩ | ⟨rfl, rfl⟩)
   ·exact .inl ⟨rfl, .inl rfl, id⟩
   ·exact .inl ⟨rfl, .inr rfl, id⟩
  ·rintro (⟨rfl, h1, h2⟩ | ⟨rfl, h1, h2⟩)
   ·exact h1.imp (fun e => ⟨e, rfl⟩) fun e => ⟨e, rfl⟩
   ·exact h1.elim
theorem exRows : Rise [[vN 1], [vN 2]] := by
 unfold Rise
 simp only [List.pairwise_cons, List.mem_cons, List.not_mem_nil, or_false, forall_eq, List.Pairwise.nil, and_true, false_implies, implies_true]
 decide +kernel
/-- a log whose states are known -/
structure LE (o : Own_) (A H : Heap) (x : Nat) (n N : Nat) : Prop where
 g : ∃ a, LG o A H x a n N ∧ ∀ i, i ≤ n → a i = exA i
theorem LE.up (h : LE o A H x n N) (hle : H.le H2) : LE o A H2 x n N := by
 obtain ⟨a, h1, h2⟩ := h.g
 exact ⟨a, h1.up hle, h2⟩
theorem LE.put (hFm : FmtC C) {y : NR} {K : Bool → Int → Heap → Prop} (h : LE o A H x n N) (hn : n ≤ 10) (hle : H.le E) (hv : VRow (Heap.new H E) t y.2) (hr : inR y.2) (hnm : y.1.length ≤ 1000000) (hno : ¬ exA n y) (hS : putS (exA n) y = exA (n + 1))
 (k : ∀ o2 A2 H2, Mv o A E o2 A2 H2 → LE o2 A2 H2 x (n + 1) (N + 2) → K true 0 H2) : Qx C (some (x, 0)) ⟨y.1, t⟩ K E := by
 obtain ⟨a, h1, h2⟩ := h.g
 have hb := Qgt h1.oh hle
 have e := h2 n (Nat.le_refl _)
 refine QhH hFm (h1.up hle) (by omega) hb hv hr.tookR hnm (fun hm => by rw [hr.m] at hm; cases hm) (fun _ hc => by rw [e] at hc; exact absurd hc hno) fun _ _ o2 A2 H2 m1 l1 => k o2 A2 H2 m1 ⟨_, l1, fun i hi => ?_⟩
 by_cases hin : i ≤ n
 ·rw [Qd9 hin]; exact h2 i hin
 ·have : i = n + 1 := by omega
  subst this
  rw [Qd8, e]; exact hS
theorem LE.put0 (hFm : FmtC C) {y : NR} {K : Bool → Int → Heap → Prop} (h : LE o A H x n N) (hn : n ≤ 10) (hle : H.le E) (hv : VRow (Heap.new H E) t y.2) (hr : inR y.2) (hnm : y.1.length ≤ 1000000) (hyes : exA n y)
 (k : ∀ H2, E.le H2 → LE o A H2 x n N → K false 0 H2) : Qx C (some (x, 0)) ⟨y.1, t⟩ K E := by
 obtain ⟨a, h1, h2⟩ := h.g
 have hb := Qgt h1.oh hle
 have e := h2 n (Nat.le_refl _)
 exact QhH hFm (h1.up hle) (by omega) hb hv hr.tookR hnm (fun hm => by rw [hr.m] at hm; cases hm) (fun _ hc H2 hl => k H2 hl ⟨a, h1.up (hle.trans hl), h2⟩) fun _ hc => absurd (by rw [e]; exact hyes) hc
theorem LE.del (hFm : FmtC C) {y : NR} {K : Bool → Int → Heap → Prop} (h : LE o A H x n N) (hn : n ≤ 10) (hle : H.le E) (hv : VRow (Heap.new H E) t y.2) (hr : inR y.2) (hyes : exA n y) (hS : Qew (exA n) y = exA (n + 1))
 (k : ∀ o2 A2 H2, Mv o A E o2 A2 H2 → LE o2 A2 H2 x (n + 1) (N + 2) → K true 0 H2) : Qaq C (some (x, 0)) ⟨y.1, t⟩ K E := by
 obtain ⟨a, h1, h2⟩ := h.g
 have hb := Qgt h1.oh hle
 have e := h2 n (Nat.le_refl _)
 refine Qjy hFm (h1.up hle) (by omega) hb hv hr.tookR (fun hm => by rw [hr.m] at hm; cases hm) (fun _ hc => absurd (by rw [e]; exact hyes) hc) fun _ _ o2 A2 H2 m1 l1 => k o2 A2 H2 m1 ⟨_, l1, fun i hi => ?_⟩
 by_cases hin : i ≤ n
 ·rw [Qd9 hin]; exact h2 i hin
 ·have : i = n + 1 := by omega
  subst this
  rw [Qd8, e]; exact hS
theorem LE.has (hFm : FmtC C) {y : NR} {K : Bool → Heap → Prop} (h : LE o A H x n N) (hle : H.le E) (hv : VRow (Heap.new H E) t y.2) (hr : okR y.2)
 (k : ∀ b H2, E.le H2 → (b = true ↔ exA n y) → K b H2) : Q6 C (some (x, 0)) ⟨y.1, t⟩ K E := by
 obtain ⟨a, h1, h2⟩ := h.g
 have hb := Qgt h1.oh hle
 refine Qjz hFm (h1.up hle) hb hv hr fun b H2 hl hiff => k b H2 hl ?_
 rw [hiff, h2 n (Nat.le_refl _)]
theorem LE.since {j : Nat} {K : Sl → Int → Heap → Prop} (h : LE o A H x n N) (hn : n ≤ 10) (hj : j ≤ n) {D : List Cg} (hD : IsD (exA j) (exA n) D)
 (k : ∀ s H2, H.le H2 → NChs (Heap.new H H2) s D → K s 0 H2) : Qy C (some (x, 0)) (j : Int) K H := by
 obtain ⟨a, h1, h2⟩ := h.g
 refine QfT h1 (by omega) (fun hc => absurd ⟨by omega, by omega⟩ hc) fun s ws H2 _ _ hS hl => k s H2 hS.og.own.le ?_
 have := hS.chs (by omega)
 have hi := hS.isd
 rw [show (j : Int).toNat = j by omega, h2 j hj, h2 n (Nat.le_refl _)] at hi
 rw [hi.uniq hD] at this
 exact this
theorem QiE (hFm : FmtC C) {K : Bool → Heap → Prop} (k : ∀ H2, H.le H2 → K true H2) : QcJ C K H := by
 apply Qft
 unfold QdL
 refine Qi5 fun x o H2 hle0 hno h0 => ?_
 have e0 : LE o (fun _ => none) H2 x 0 0 := ⟨_, h0, fun i hi => by rw [Nat.le_zero.1 hi]; rfl⟩
 have bs0 : Bs o H H2 := ⟨hle0, fun c w hw => hno c w hw⟩
 refine Qdm fun t1 E1 l1 r1 => LE.put hFm (y := xR1) e0 (by omega) l1 r1 inn1 (by decide) (fun h => h) exA1 fun o1 A1 H1 m1 e1 => ?_
 have bs1 := (bs0.up l1).mv m1
 refine Qdm fun t2 E2 l2 r2 => LE.put hFm (y := xR2) e1 (by omega) l2 r2 inn2 (by decide) (fun h => x12 h.symm) exA2 fun o2 A2 H2 m2 e2 => ?_
 have bs2 := (bs1.up l2).mv m2
 refine Qdm fun t3 E3 l3 r3 => LE.put0 hFm (y := xR1) e2 (by omega) l3 r3 inn1 (by decide) (.inl rfl) fun H3 l3' e3 => ?_
 have bs3 := (bs2.up l3).up l3'
 refine Qdm fun t4 E4 l4 r4 => LE.del hFm (y := xR1) e3 (by omega) l4 r4 inn1 (.inl rfl) exA3 fun o4 A4 H4 m4 e4 => ?_
 have bs4 := (bs3.up l4).mv m4
 refine Qdm fun t5 E5 l5 r5 => LE.put hFm (y := xS1) e4 (by omega) l5 r5 inn1 (by decide) (fun h => x2s h.symm) exA4 fun o5 A5 H5 m5 e5 => ?_
 have bs5 := (bs4.up l5).mv m5
 refine LE.since (j := 2) e5 (by omega) (by omega) exD2 fun s6 H6 l6 c6 => ?_
 have e6 := e5.up l6
 refine LE.since (j := 0) e6 (by omega) (by omega) exD0 fun s7 H7 l7 c7 => ?_
 have e7 := e6.up l7
 have bs7 := (bs5.up l6).up l7
 refine jn.inl (Qk rfl ?_)
 obtain ⟨a7, g7, ha7⟩ := e7.g
 refine QhG g7 (Qk rfl ?_)
 refine Qdm fun t8 E8 l8 r8 => Qdm fun t9 E9 l9 r9 => ?_
 intro b10 n10
 have l10 := Heap.le_put n10 (g := .row (Qb.c (⟨⟨[114], t8⟩, -1⟩ : Qb) ++ Qb.c (⟨⟨[115], t9⟩, 1⟩ : Qb) ++ [])) (m := true)
 have c10 : NChs (Heap.new H7 (E9.put b10 (.row (Qb.c (⟨⟨[114], t8⟩, -1⟩ : Qb) ++ Qb.c (⟨⟨[115], t9⟩, 1⟩ : Qb) ++ [])))) (Sl.of (some (b10, 0)) 2 2) [(xR1, -1), (xS1, 1)] := by
  refine ⟨[⟨⟨[114], t8⟩, -1⟩, ⟨⟨[115], t9⟩, 1⟩], .inr ⟨rfl, (b10, 0), rfl, ?_⟩, rfl, rfl, by decide, fun i v y hv hy => ?_⟩
  ·refine Qcq (m := true) (Heap.new_some (Heap.put_same ..) ((l8.trans l9).none n10)) fun j v hj => ?_
   rw [Nat.zero_add]; exact hj
  ·match i with
   | 0 => simp at hv hy; subst hv; subst hy; exact ⟨rfl, r8.le (Qec (Heap.le.refl _) (l9.trans l10)), rfl⟩
   | 1 => simp at hv hy; subst hv; subst hy; exact ⟨rfl, r9.le (Qec l8 l10), rfl⟩
   | i + 2 => simp at hv
 have hle7 := l8.trans (l9.trans l10)
 generalize E9.put b10 (.row (Qb.c (⟨⟨[114], t8⟩, -1⟩ : Qb) ++ Qb.c (⟨⟨[115], t9⟩, 1⟩ : Qb) ++ [])) = E10 at *
 refine QfF c6 c10 ((Heap.new_le _ _).trans (l7.trans hle7)) (Heap.new_le _ _) (fun z hz => ?_) ?_
 ·simp only [List.mem_cons, List.not_mem_nil, or_false] at hz
  rcases hz with rfl | rfl
  ·exact ⟨okn1.b, by simp⟩
  ·exact ⟨okn1.b, by simp⟩
 refine jn.inl (Qk rfl ?_)
 refine Qdm fun t11 E11 l11 r11 => Qdm fun t12 E12 l12 r12 => ?_
 intro b13 n13
 have l13 := Heap.le_put n13 (g := .row (Qb.c (⟨⟨[114], t11⟩, 1⟩ : Qb) ++ Qb.c (⟨⟨[115], t12⟩, 1⟩ : Qb) ++ [])) (m := true)
 have c13 : NChs (Heap.new E10 (E12.put b13 (.row (Qb.c (⟨⟨[114], t11⟩, 1⟩ : Qb) ++ Qb.c (⟨⟨[115], t12⟩, 1⟩ : Qb) ++ [])))) (Sl.of (some (b13, 0)) 2 2) [(xR2, 1), (xS1, 1)] := by
  refine ⟨[⟨⟨[114], t11⟩, 1⟩, ⟨⟨[115], t12⟩, 1⟩], .inr ⟨rfl, (b13, 0), rfl, ?_⟩, rfl, rfl, by decide, fun i v y hv hy => ?_⟩
  ·refine Qcq (m := true) (Heap.new_some (Heap.put_same ..) ((l11.trans l12).none n13)) fun j v hj => ?_
   rw [Nat.zero_add]; exact hj
  ·match i with
   | 0 => simp at hv hy; subst hv; subst hy; exact ⟨rfl, r11.le (Qec (Heap.le.refl _) (l12.trans l13)), rfl⟩
   | 1 => simp at hv hy; subst hv; subst hy; exact ⟨rfl, r12.le (Qec l11 l13), rfl⟩
   | i + 2 => simp at hv
 have hle10 := l11.trans (l12.trans l13)
 generalize E12.put b13 (.row (Qb.c (⟨⟨[114], t11⟩, 1⟩ : Qb) ++ Qb.c (⟨⟨[115], t12⟩, 1⟩ : Qb) ++ [])) = E13 at *
 refine QfF c7 c13 ((Heap.new_le _ _).trans (hle7.trans hle10)) (Heap.new_le _ _) (fun z hz => ?_) ?_
 ·simp only [List.mem_cons, List.not_mem_nil, or_false] at hz
  rcases hz with rfl | rfl
  ·exact ⟨okn2.b, by simp⟩
  ·exact ⟨okn1.b, by simp⟩
 refine Qk rfl ?_
 have g13 := g7.up (hle7.trans hle10)
 refine QgN (jj := 2) g13 (by omega) (fun hc => absurd ⟨by omega, by omega⟩ hc) fun _ _ o14 H14 m14 g14 => ?_
 have bs14 := (bs7.up (hle7.trans hle10)).mv m14
 have e14 : LE o14 A5 H14 x 2 20 := ⟨a7, g14.more (by decide), fun i hi => ha7 i (by omega)⟩
 refine jn.inl (Qm rfl ?_)
 obtain ⟨a14, gg, ha14⟩ := e14.g
 refine Qji gg (by omega) fun T sT ys H15 hT _ => ?_
 have hTe : T = [[vN 1], [vN 2]] := QiR hT.rise exRows fun r => by
  rw [hT.mem, ha14 2 (Nat.le_refl _)]
  show (([114], r) = xR1 ∨ ([114], r) = xR2) ↔ _
  simp
 have hTl := hT.rows.len
 rw [hTe] at hTl
 rw [hTl]
 refine jn.inl (Qm rfl ?_)
 have l15 := hT.og.own.le
 refine QiA (gg.up l15) (by omega) fun W sW H16 hW _ => ?_
 have hWe : W = [[114]] := Qf1 (P := fun _ => True) Lin.txt hW.rise (List.pairwise_singleton _ _) (fun _ _ => trivial) fun y => by
  rw [hW.mem, ha14 2 (Nat.le_refl _)]
  show (∃ r, (y, r) = xR1 ∨ (y, r) = xR2) ↔ _
  simp only [Prod.mk.injEq, List.mem_singleton]
  exact ⟨fun ⟨r, h⟩ => h.elim (fun h => h.1) fun h => h.1, fun h => ⟨[vN 1], .inl ⟨h, rfl⟩⟩⟩
 have hWl := hW.own.own.1
 rw [hWe] at hWl
 have hWl : sW.len = 1 := by simpa using hWl.symm
 rw [hWl]
 refine jn.inl (Qm rfl ?_)
 have l16 := hW.own.le
 have e16 := (e14.up l15).up l16
 refine Qdm fun t17 E17 l17 r17 => LE.has hFm (y := xR1) e16 l17 r17 okn1 fun b H18 l18 hb18 => ?_
 rw [hb18.2 (.inl rfl)]
 refine jn.inl (Qm rfl ?_)
 have e18 := (e16.up l17).up l18
 refine Qdm fun t19 E19 l19 r19 => LE.has hFm (y := xS1) e18 l19 r19 okn1 fun b H20 l20 hb20 => ?_
 have : b = false := by
  cases b with
  | false => rfl
  | true => exact ((hb20.1 rfl).elim (fun h => x1s h.symm) fun h => x2s h.symm).elim
 subst this
 refine jn.inl (Qm rfl ?_)
 have e20 := (e18.up l19).up l20
 obtain ⟨a20, g20, _⟩ := e20.g
 refine QhG g20 ?_
 have := (((((bs14.up l15).up l16).up l17).up l18).up l19).up l20
 exact k H20 this.le
end
end
section
open Go Go.Proofs
section
variable {C : Ctx} {o o2 : Own_} {A B H H2 E : Heap} {x n N : Nat} {s s2 t : Sl} {S S0 : Sta} {a : Nat → Sta} {l l2 : List OpV} {W : List NR}
end
end
section
open Go Go.Proofs
section
variable {C : Ctx} {H : Heap}
theorem QiB {r : Qd} {K : Bool → Int → Heap → Prop} (k : ∀ H2, H.le H2 → K false 2 H2) : Qx C none r K H := by
 apply Qdd
 unfold Qb2
 intro b1 n1 b3 n3
 have l1 := Heap.le_put n1 (g := .row [pv none]) (m := true)
 have l3 := Heap.le_put n3 (g := .row (Qd.c r)) (m := true)
 have c1 := l3 _ _ (show (H.put b1 (.row [pv none])) b1 = some (true, .row [pv none]) from Heap.put_same ..)
 exact ⟨none, by rw [Qn c1]; rfl, Qm rfl (k _ (l1.trans l3))⟩
theorem Qiy {r : Qd} {K : Bool → Int → Heap → Prop} (k : ∀ H2, H.le H2 → K false 2 H2) : Qaq C none r K H := by
 apply Qdb
 unfold Qb0
 intro b1 n1 b3 n3
 have l1 := Heap.le_put n1 (g := .row [pv none]) (m := true)
 have l3 := Heap.le_put n3 (g := .row (Qd.c r)) (m := true)
 have c1 := l3 _ _ (show (H.put b1 (.row [pv none])) b1 = some (true, .row [pv none]) from Heap.put_same ..)
 exact ⟨none, by rw [Qn c1]; rfl, Qm rfl (k _ (l1.trans l3))⟩
theorem Qiz {r : Qd} {K : Bool → Heap → Prop} (k : ∀ H2, H.le H2 → K false H2) : Q6 C none r K H := by
 apply Qdc
 unfold Qb1
 intro b1 n1
 exact Qm rfl (k _ (Heap.le_put n1))
theorem QfR {j : Int} {K : Int → Heap → Prop} (k : K 2 H) : Qam C none j K H := by
 apply Qcv
 unfold Qbm
 exact Qm rfl k
theorem Qhr {j : Int} {K : Sl → Int → Heap → Prop} (k : K Sl.nil 2 H) : Qy C none j K H := by
 apply Qcu
 unfold Qbl
 exact QfR (Qm rfl k)
theorem QhE {j : Int} {K : Int → Heap → Prop} (k : K 2 H) : QS C none j K H := by
 apply QcX
 unfold QbB
 exact QfR (Qm rfl k)
theorem QhF {K : Int → Heap → Prop} (k : K 0 H) : QE C none K H := by
 apply QcY
 unfold QbC
 exact Qm rfl k
theorem QhI {nm : Str} {K : Sl → Heap → Prop} (k : K Sl.nil H) : QaH C none nm K H := by
 apply QcZ
 unfold QbD
 exact Qm rfl k
theorem Qhp {K : Sl → Heap → Prop} (k : K Sl.nil H) : Qal C none K H := by
 apply Qct
 unfold Qbk
 exact Qm rfl k
theorem QgO {K : Heap → Prop} (k : K H) : Qbj C none K H := by
 apply Qd5
 unfold Qcf
 exact Qk rfl k
theorem Qgk (hFm : FmtC C) {K : Bool → Heap → Prop} (k : ∀ H2, K true H2) : Q7 C K H := by
 apply Qd4
 unfold Qce
 refine QiB fun H1 l1 => Qiy fun H2 l2 => Qhr (QgO ?_)
 refine Qi5 fun x o H3 l3 hno g3 => ?_
 intro b13 n13
 have l13 := Heap.le_put n13 (g := .row (Qa.c (⟨0, 0, [], Sl.nil⟩ : Qa) ++ [])) (m := true)
 have r13 : VRow (Heap.new H3 (H3.put b13 (.row (Qa.c (⟨0, 0, [], Sl.nil⟩ : Qa) ++ [])))) (Sl.of (some (b13, 0)) 1 1) [.mk 0 0 [] []] := by
  refine ⟨[⟨0, 0, [], Sl.nil⟩], .inr ⟨rfl, (b13, 0), rfl, ?_⟩, rfl, ⟨rfl, rfl, rfl, [], .inl rfl, rfl, trivial⟩, trivial⟩
  refine Qcq (m := true) (Heap.new_some (Heap.put_same ..) n13) fun j v hj => ?_
  rw [Nat.zero_add]; exact hj
 generalize H3.put b13 (.row (Qa.c (⟨0, 0, [], Sl.nil⟩ : Qa) ++ [])) = H4 at *
 have g4 := g3.up l13
 have hm : mayR [.mk 0 0 [] []] = false := by rfl
 have hok : okR [.mk 0 0 [] []] := ⟨by simp [VBs, VB], by simp [vsizes, vsize]⟩
 refine QhH hFm g4 (by omega) (Qgt g3.oh l13) r13 hok (by simp) (fun _ H5 l5 => ?_) (fun h => by rw [hm] at h; cases h) fun h => by rw [hm] at h; cases h
 have g5 := g4.up l5
 refine QfT (jj := 1) g5 (by omega) ?_ fun s ws H6 _ hc => absurd hc (by omega)
 intro _
 refine QfT (jj := -1) g5 (by omega) ?_ fun s ws H6 hc => absurd hc (by omega)
 intro _
 refine jn.inl (Qm rfl (QhE ?_))
 refine jn.inl (Qm rfl (QhF ?_))
 refine jn.inl (Qm rfl (Qiz fun H6 l6 => ?_))
 have g6 := g5.up l6
 refine jn.inl (Qm rfl (QhI ?_))
 refine jn.inl (Qm rfl (Qhp ?_))
 refine jn.inl (Qm rfl ?_)
 refine QgN (jj := 0) g6 (by omega) (fun hc => absurd ⟨by omega, by omega⟩ hc) fun _ _ o7 H7 m7 g7 => ?_
 refine jn.inl (Qm rfl ?_)
 refine QgN (jj := 1) g7 (by omega) ?_ fun _ hc => absurd hc (by simp)
 intro _
 refine jn.inl (Qm rfl ?_)
 exact QiE hFm fun H8 _ => k H8
end
end
section
open Go Go.Proofs
theorem QfU {C : Ctx} {H : Heap} (hFm : FmtC C) : Q7 C (fun r _ => r = true) H := Qgk hFm fun _ => rfl
end
end Sx
end
noncomputable section

end

