/-
  Texts of this family, one behind the other: ValP2, ValP3, ValP4, ValP5, ValR, ValW, ShowQ, BldB, ShowP, TreeI, TreeV, TreeE, TreeT1, TreeN, TreeG, TreeC1, TreeC2.
-/
import Derived.Test.YtnomkabppjlbfaaGreatDoorAT4
import Derived.Lib.ItoaNum
import Derived.Lib.ItoaLen
import Derived.Lib.IndexMore
noncomputable section
set_option linter.unusedVariables false
set_option linter.unusedSimpArgs false
set_option maxRecDepth 10000
namespace Sx
section
open Go Go.Proofs
theorem index_spec (c : UInt8) : ∀ s : Str, (Lib.indexByte s c = -1 ∧ c ∉ s) ∨ ∃ k : Nat, Lib.indexByte s c = (k : Int) ∧ ∃ a b, s = a ++ c :: b ∧ a.length = k ∧ c ∉ a
 | [] => .inl ⟨rfl, by simp⟩
 | b :: s => by
  unfold Lib.indexByte
  by_cases h : b = c
  ·subst h
   exact .inr ⟨0, by simp, [], s, rfl, rfl, by simp⟩
  ·have hb : (b == c) = false := by simpa using h
   rw [hb]
   rcases index_spec c s with ⟨h1, h2⟩ | ⟨k, h1, a, d, h2, h3, h4⟩
   ·left
    rw [h1]
    refine ⟨by simp, by simp [h2, Ne.symm h]⟩
   ·right
    refine ⟨k + 1, ?_, b :: a, d, by rw [h2]; rfl, by simp [h3], by simp [h4, Ne.symm h]⟩
    rw [h1]
    have : ((k : Int) == -1) = false := by rw [beq_eq_false_iff_ne]; omega
    simp [this]
def setD (cs : List Value) (l : Str) : List Value := l.foldl (fun cs c => cs.set c.toNat (.bool true)) cs
def setD0 : List Value := List.replicate 256 (.bool false)
def digS : Str := [48, 49, 50, 51, 52, 53, 54, 55, 56, 57]
theorem QqK (l : Str) : ∀ cs, (setD cs l).length = cs.length := by
 induction l with
 | nil => intro cs; rfl
 | cons c l ih => intro cs; simp only [setD, List.foldl_cons] at ih ⊢; rw [ih]; simp
theorem Qsr (l : Str) (c : UInt8) (cs : List Value) : setD cs (l ++ [c]) = (setD cs l).set c.toNat (.bool true) := by simp [setD]
theorem QtH (l : Str) : ∀ cs : List Value, cs.all Value.oneCell' = true → (setD cs l).all Value.oneCell' = true := by
 induction l with
 | nil => intro cs h; exact h
 | cons c l ih =>
  intro cs h
  simp only [setD, List.foldl_cons] at ih ⊢
  refine ih _ ?_
  rw [List.all_eq_true] at h ⊢
  intro x hx
  rcases List.mem_or_eq_of_mem_set hx with hx | rfl
  ·exact h x hx
  ·rfl
theorem Qte : ∀ n : Nat, n < 256 → (match (setD setD0 digS)[n]? with | some (.bool b) => b == (decide (48 ≤ n) && decide (n ≤ 57)) | _ => false) = true := by decide +kernel
theorem Qtd (c : UInt8) : (setD setD0 digS)[c.toNat]? = some (.bool (digC c)) := by
 have h := Qte c.toNat c.toBitVec.isLt
 unfold digC
 generalize (setD setD0 digS)[c.toNat]? = o at *
 cases o with
 | none => simp at h
 | some v => cases v <;> simp at h ⊢; exact h
section
variable {C : Ctx} {H : Heap}
theorem QlN {s p : Str} {K : Bool → Heap → Prop} (k : K (p.isPrefixOf s) H) : Qaj C s p K H := by
 apply QeR
 unfold Qb7
 refine ⟨fun b H' => H = H' ∧ b = p.isPrefixOf s, ?_, ?_⟩
 ·refine ift.of (fun h => ?_) (fun h => ⟨rfl, ?_⟩)
  ·have hl : p.length ≤ s.length := by have := of_decide_eq_true h; omega
   refine ⟨by omega, by omega, by omega, s.take p.length, by simp, rfl, ?_⟩
   rw [Bool.eq_iff_iff, List.isPrefixOf_iff_prefix, beq_iff_eq, List.prefix_iff_eq_take]
   exact ⟨fun h => h.symm, fun h => h.symm⟩
  ·have hl := of_decide_eq_false h
   cases hh : p.isPrefixOf s with
   | false => rfl
   | true =>
    have := (List.isPrefixOf_iff_prefix.1 hh).length_le
    omega
 ·rintro b _ ⟨rfl, rfl⟩
  exact k
theorem QoQ {s p : Str} {K : Str → Heap → Prop} (k : K (if p.isPrefixOf s then s.drop p.length else s) H) : Qd4 C s p K H := by
 apply Qi6
 unfold QfK
 apply QeP
 unfold QbV
 refine QlN ?_
 refine ift.of (fun h => ?_) (fun h => ?_)
 ·rw [if_pos h] at k
  have := (List.isPrefixOf_iff_prefix.1 h).length_le
  exact ⟨by omega, by omega, by omega, _, by simp, k⟩
 ·rw [if_neg (by rw [h]; decide)] at k; exact k
theorem Qpb {s : Str} {K : Str → Str → Bool → Heap → Prop} (hs : s.length ≤ 140737488355328) (k : match cutD s with | some (a, b) => K a b true H | none => K s [] false H) : Qgh C s [46] K H := by
 apply Qnr
 unfold Qkj
 apply Qgm
 unfold QdF
 have key : ∀ {K : Int → Heap → Prop}, K (Lib.indexByte s 46) H → QbI C s [46] K H := by
  intro K k
  apply QfR
  unfold QcV
  refine ift.of (fun h => ?_) (fun h => ?_)
  ·have hs : [46] = s := by simpa using h
   subst hs
   exact k
  ·refine QbT rfl ⟨46, by omega, rfl, ?_⟩
   apply QeS
   unfold Qb8
   exact k
 refine key ?_
 rcases index_spec 46 s with ⟨h1, h2⟩ | ⟨i, h1, a, b, h2, h3, h4⟩
 ·rw [h1]
  rw [QlE s h2] at k
  exact QbC rfl k
 ·rw [h1]
  subst h2
  rw [QlD a b h4] at k
  subst h3
  simp only [List.length_append, List.length_cons] at hs
  refine QbT (by rw [decide_eq_true_eq]; omega) ?_
  refine ⟨by omega, by omega, by simp; omega, a, by simp, ?_⟩
  have e1 : (([46] : Str).length : Int) = 1 := rfl
  rw [e1, QM (by omega) (by omega)]
  refine ⟨by omega, by simp; omega, by omega, b, ?_, k⟩
  have e2 : ((a.length : Int) + 1).toNat = a.length + 1 := by omega
  rw [List.take_of_length_le (by omega), e2, List.drop_append]
  simp
/-- the set of digits -/
def DSet (H : Heap) (b : Nat) : Prop := H b = some (true, .row (setD setD0 digS))
theorem QmL {b : Nat} {c : UInt8} {K : Bool → Heap → Prop} (h : DSet H b) (k : K (digC c) H) : QaT C (some (b, 0)) (c.toNat : Int) K H := by
 apply Qge
 unfold Qdm
 refine ⟨(b, 0), rfl, by omega, by have := c.toBitVec.isLt; have : c.toNat < 256 := this; omega, digC c, ?_, k⟩
 rw [QbU h]
 have := Qtd c
 simpa using this
theorem Qtj {b : Nat} {s : Str} {K : Str → Heap → Prop} (hs : s.length ≤ 140737488355328) (h : DSet H b) (k : ∀ t, t.length ≤ s.length → t.all digC = s.all digC → K t H) : Qcp C s (some (b, 0)) K H := by
 apply Qhb
 unfold Qej
 refine ⟨fun t H' => H = H' ∧ t.length ≤ s.length ∧ t.all digC = s.all digC, ?_, ?_⟩
 rotate_left
 ·rintro t _ ⟨rfl, h1, h2⟩
  exact k t h1 h2
 refine ⟨fun t H' => H = H' ∧ t.length ≤ s.length ∧ t.all digC = s.all digC, fun t _ => t.length, ⟨rfl, Nat.le_refl _, rfl⟩, ?_⟩
 rintro t _ ⟨rfl, h1, h2⟩
 refine ift.of (fun hh => ?_) (fun hh => ⟨rfl, h1, h2⟩)
 have hl : 0 < t.length := by have := of_decide_eq_true hh; omega
 have hne := List.ne_nil_of_length_pos hl
 have hd : t.dropLast ++ [t.getLast hne] = t := List.dropLast_concat_getLast hne
 rw [QM (by omega) (by omega)]
 refine ⟨t.getLast hne, by omega, getL hl rfl, ?_⟩
 refine QmL h ?_
 refine ift.of (fun hc => ⟨rfl, h1, h2⟩) (fun hc => ?_)
 have e1 : (t.take ((t.length : Int) - 1).toNat).drop (0 : Int).toNat = t.dropLast := by
  have : ((t.length : Int) - 1).toNat = t.length - 1 := by omega
  rw [this, List.dropLast_eq_take]; simp
 refine ⟨by omega, by omega, by omega, _, e1.symm, ?_⟩
 have hdl := List.length_dropLast (xs := t)
 refine ⟨⟨rfl, by omega, ?_⟩, by dsimp only; omega⟩
 rw [← h2]
 conv => rhs; rw [← hd]
 rw [List.all_append]
 simp at hc
 simp [hc]
theorem Qti {b : Nat} {s : Str} {K : Str → Heap → Prop} (hs : s.length ≤ 140737488355328) (h : DSet H b) (k : ∀ t, t.all digC = s.all digC → (t = [] ∨ t.all digC = false) → K t H) : QcJ C s (some (b, 0)) K H := by
 apply Qhw
 unfold QeC
 refine ⟨fun t H' => H = H' ∧ t.all digC = s.all digC ∧ (t = [] ∨ t.all digC = false), ?_, ?_⟩
 rotate_left
 ·rintro t _ ⟨rfl, h1, h2⟩
  exact k t h1 h2
 refine ⟨fun t H' => H = H' ∧ t.length ≤ s.length ∧ t.all digC = s.all digC, fun t _ => t.length, ⟨rfl, Nat.le_refl _, rfl⟩, ?_⟩
 rintro t _ ⟨rfl, h1, h2⟩
 cases t with
 | nil => exact QbC rfl ⟨rfl, h2, .inl rfl⟩
 | cons c t =>
  refine QbT (by rw [decide_eq_true_eq]; simp only [List.length_cons]; omega) ?_
  refine ⟨c, by omega, rfl, ?_⟩
  refine QmL h ?_
  refine ift.of (fun hc => ⟨rfl, h2, .inr ?_⟩) (fun hc => ?_)
  ·simp at hc; simp [hc]
  ·refine ⟨by omega, by simp only [List.length_cons]; omega, by omega, t, ?_, ⟨rfl, by simp only [List.length_cons] at h1; omega, ?_⟩, by simp⟩
   ·rw [List.take_of_length_le (by omega)]; rfl
   ·rw [← h2]; simp at hc; simp [hc]
theorem QoF {K : List Value → Bool → Heap → Prop} (k : K (setD setD0 digS) true H) : Qaf C digS K H := by
 apply Qaf.gh
 apply Qh3
 unfold Qe4
 intro b n
 refine ⟨fun x H' => ∃ i : Nat, x = (i : Int) ∧ i ≤ 10 ∧ H' = H.put b (.row (setD setD0 (digS.take i))), fun x _ => 10 - x.toNat, ⟨0, rfl, by omega, rfl⟩, ?_⟩
 rintro x _ ⟨i, rfl, hi, rfl⟩
 have hlen : (setD setD0 (digS.take i)).length = 256 := by rw [QqK]; simp [setD0]
 refine ift.of (fun h => ?_) (fun h => ?_)
 ·have hlt : i < digS.length := by have := of_decide_eq_true h; omega
  have hlt' : i < 10 := hlt
  refine ⟨digS[i], by omega, getE hlt, ?_⟩
  have hm : ∀ c ∈ digS, c.toNat < 128 := by decide
  have h128 := hm _ (List.getElem_mem hlt)
  have htk : digS.take (i + 1) = digS.take i ++ [digS[i]] := by rw [List.take_add_one, List.getElem?_eq_getElem hlt]; rfl
  generalize digS[i] = c at *
  refine QbC (by rw [decide_eq_false_iff_not]; omega) ?_
  refine ⟨by omega, by omega, _, Heap.put_same .., by rw [hlen]; simp; omega, ?_⟩
  rw [QM (by omega) (by omega), Heap.put_put]
  refine ⟨⟨i + 1, by omega, by omega, ?_⟩, by first | omega | (dsimp only; omega)⟩
  rw [htk, Qsr]
  have : (b, 0).2 + (c.toNat : Int).toNat * 1 = c.toNat := by simp
  rw [this]
 ·have hi10 : i = 10 := by have := of_decide_eq_false h; have : digS.length = 10 := rfl; omega
  subst hi10
  have e : digS.take 10 = digS := rfl
  rw [e] at hlen ⊢
  have hr : ∀ {B : Heap}, B b = some (true, .row (setD setD0 digS)) → rds B (b, 0) (setD setD0 digS) := fun h => Qhu h fun j v hj => by simpa using hj
  refine ⟨_, hlen, hr (Heap.put_same ..), hlen, QtH _ _ (by decide +kernel), _, Heap.put_same .., by simp, ?_⟩
  have esp : splice (setD setD0 digS) (b, 0).2 (setD setD0 digS) = setD setD0 digS := by
   unfold splice; simp
  rw [esp, Heap.put_put]
  exact ⟨_, hlen, hr (Heap.put_same ..), H, Gh.le (Heap.le_put n), k⟩
theorem Qrc {s : Str} {K : Str → Heap → Prop} (hs : s.length ≤ 140737488355328) (k : ∀ t, (t = [] ↔ s.all digC = true) → K t H) : Qca C s digS K H := by
 apply Qca.gh
 apply Qmx
 unfold Qjt
 refine ift.of (fun h => ?_) (fun h => ?_)
 ·have : s = [] := by simpa [digS] using h
  subst this
  exact ⟨H, Gh.refl _, k [] (by simp)⟩
 refine ⟨fun b H' => H = H' ∧ b = false, QbC rfl ⟨rfl, rfl⟩, ?_⟩
 rintro _ _ ⟨rfl, rfl⟩
 refine QbC rfl ?_
 refine QoF ?_
 intro b n
 have hlen : (setD setD0 digS).length = 256 := by rw [QqK]; simp [setD0]
 refine ⟨hlen, QtH _ _ (by decide +kernel), _, Heap.put_same .., by rw [hlen]; simp, ?_⟩
 have esp : splice (List.replicate 256 (.bool false : Value)) (b, 0).2 (setD setD0 digS) = setD setD0 digS := by
  unfold splice; simp [hlen]
 rw [esp, Heap.put_put]
 refine QbT rfl ?_
 refine Qtj hs (Heap.put_same ..) fun t ht1 ht2 => ?_
 refine Qti (by omega) (Heap.put_same ..) fun u hu1 hu2 => ?_
 refine ⟨H, Gh.le (Heap.le_put n), k u ?_⟩
 rw [← ht2, ← hu1]
 constructor
 ·rintro rfl; rfl
 ·intro h
  rcases hu2 with h2 | h2
  ·exact h2
  ·rw [h] at h2; cases h2
theorem Qnl {s : Str} {K : Int → Bool → Heap → Prop} (hs : s.length ≤ 140737488355328) (k : K (if numS s then (digits s : Int) else 0) (numS s) H) : Qhl C s K H := by
 apply QmK
 unfold QjG
 refine QoQ ?_
 have e : (if ([45] : Str).isPrefixOf s then s.drop ([45] : Str).length else s) = unmin s := by
  unfold unmin
  cases s with
  | nil => rfl
  | cons c t =>
   by_cases hc : c = 45
   ·subst hc; simp [List.isPrefixOf]
   ·simp [List.isPrefixOf, hc, Ne.symm hc]
 rw [e]
 have hul : (unmin s).length ≤ s.length := by unfold unmin; split <;> simp
 have hdg : digits s = (unmin s).length := rfl
 have hnu : numS s = (!(unmin s).isEmpty && (unmin s).all digC && !(decide ((unmin s).head? = some 48) && decide (s ≠ [48]))) := rfl
 rw [hdg, hnu] at k
 clear hdg hnu e
 generalize unmin s = d at *
 refine ⟨fun b H' => H = H' ∧ b = !(!d.isEmpty && d.all digC), ?_, ?_⟩
 ·refine ift.of (fun h => ⟨rfl, ?_⟩) (fun h => ?_)
  ·have : d = [] := by simpa using h
   subst this; rfl
  ·have hne : d ≠ [] := by simpa using h
   refine Qrc (by omega) fun t ht => ⟨rfl, ?_⟩
   have he : d.isEmpty = false := by cases d with
    | nil => exact absurd rfl hne
    | cons _ _ => rfl
   rw [he]
   cases hd : d.all digC with
   | true => rw [ht.2 hd]; rfl
   | false =>
    have : t ≠ [] := fun e => by rw [ht.1 e] at hd; cases hd
    simpa using this
 rintro b _ ⟨rfl, rfl⟩
 refine ⟨fun b H' => H = H' ∧ b = !(!d.isEmpty && d.all digC && !(decide (d.head? = some 48) && decide (s ≠ [48]))), ?_, ?_⟩
 ·refine ift.of (fun h => ⟨rfl, ?_⟩) (fun h => ?_)
  ·simp only [Bool.not_eq_true'] at h
   rw [h]; rfl
  ·simp only [Bool.not_eq_false'] at h
   rw [h]
   cases d with
   | nil => simp at h
   | cons c t =>
    refine ⟨c, by omega, rfl, rfl, ?_⟩
    rw [e48]
    simp only [List.head?_cons, Option.some.injEq, Bool.true_and, Bool.not_not]
    congr 1
    rw [decide_not]; congr 1
    rw [Bool.eq_iff_iff]; simp
 rintro b _ ⟨rfl, rfl⟩
 refine ift.of (fun h => ?_) (fun h => ?_)
 ·simp only [Bool.not_eq_true'] at h
  rw [h] at k; exact k
 ·simp only [Bool.not_eq_false'] at h
  rw [h] at k; exact k
end
end
section
open Go Go.Proofs
section
variable {C : Ctx} {H : Heap}
theorem sEmpty {s : Str} : (s == ([] : Str)) = s.isEmpty := by cases s <;> rfl
theorem lenZ {l : List V} {n : Nat} (h : n = l.length) (m : Nat) : ((n : Int) == (m : Int)) = decide (l.length = m) := by
 rw [Bool.eq_iff_iff]; simp only [beq_iff_eq, decide_eq_true_eq]; omega
end
end
section
open Go Go.Proofs
theorem Qr7 (s : Str) : namesS s = (match cutD s with | some (a, b) => nameS a && nameS b | none => nameS s && !decide (s = trueS) && !decide (s = falseS)) := by
 unfold namesS
 by_cases ht : s = trueS
 ·subst ht; rfl
 by_cases hf : s = falseS
 ·subst hf; rfl
 rw [if_neg (fun h => h.elim ht hf)]
 cases hc : cutD s with
 | none => simp [ht, hf]
 | some p => rfl
section
variable {C : Ctx} {H : Heap}
theorem Quh {v : V} {x : TV} {H : Heap} {K : Bool → Bool → Heap → Prop} (hv : VIs H v x) (hB : VB v) (k : ∀ g, (formV v = true → g = fitsV v) → K (formV v) g H) : Qap C x K H := by
 refine V.rec_ (P := fun v => ∀ {x H} {K : Bool → Bool → Heap → Prop}, VIs H v x → VB v → (∀ g, (formV v = true → g = fitsV v) → K (formV v) g H) → Qap C x K H) (fun v ih => ?_) v hv hB k
 clear hv hB k
 intro x H K hv hB k
 apply Qap.gh
 apply QkY
 unfold Qg9
 intro b1 n1
 have hr := hv.row
 have hl := hr.len
 have hbl := hB.l
 have hbs := hB.s
 have hk := hv.kind
 have hn := hv.num
 have ht := hv.txt
 have hb1 : (H.put b1 (.row (Qb.c x))) b1 = some (true, .row (Qb.c x)) := Heap.put_same ..
 have hle1 := Heap.le_put n1 (g := .row (Qb.c x)) (m := true)
 generalize H.put b1 (.row (Qb.c x)) = H1 at *
 refine bxN hb1 ?_
 refine ⟨fun b H' => H1 = H', ?_, ?_⟩
 ·exact ift.of (fun _ => bxS hb1 rfl) (fun _ => rfl)
 rintro _ _ rfl
 refine ⟨fun b H' => H1 = H', ?_, ?_⟩
 ·exact ift.of (fun _ => bxL hb1 rfl) (fun _ => rfl)
 rintro _ _ rfl
 refine ⟨fun b H' => H1 = H' ∧ b.1 = okN v.k v.n v.s v.l.length ∧ (b.1 = true → b.2 = fitN v.k v.s v.l.length), ?_, ?_⟩
 rotate_left
 ·rintro ⟨o, g⟩ _ ⟨rfl, ho, hg⟩
  dsimp only at ho hg ⊢
  subst ho
  refine bxL hb1 ?_
  refine ⟨fun y H' => ∃ i : Nat, y.2.2 = (i : Int) ∧ i ≤ v.l.length ∧ H.le H' ∧ y.1 = (okN v.k v.n v.s v.l.length && formVs (v.l.take i)) ∧ (y.1 = true → y.2.1 = (fitN v.k v.s v.l.length && fitsVs (v.l.take i))), fun y _ => v.l.length - y.2.2.toNat, ⟨0, rfl, Nat.zero_le _, hle1, by simp [formVs], fun h => by simp [fitsVs, hg h]⟩, ?_⟩
  rintro ⟨f, g', y⟩ H2 ⟨i, hy, hi, hle, h1, h2⟩
  dsimp only at hy h1 h2
  subst hy
  dsimp only
  rw [hl]
  refine ift.of (fun h => ?_) (fun h => ?_)
  ·have hlt : i < v.l.length := by have := of_decide_eq_true h; omega
   have hmem := List.getElem_mem hlt
   refine hr.ld hle rfl hlt fun z hz => ?_
   intro b20 n20
   refine ⟨_, Heap.put_same .., by simp [Qb.c], ?_⟩
   rw [Heap.put_put]
   have esp : splice (Qb.c Qb.zero) (b20, 0).2 (Qb.c z) = Qb.c z := rfl
   rw [esp]
   have hle2 := hle.trans (Heap.le_put n20 (g := .row (Qb.c z)) (m := true))
   refine bxV (Heap.put_same ..) ?_
   refine ih _ hmem (hz.le hle2) (hB.at hlt) fun q hq => ?_
   rw [QM (by omega) (by omega)]
   refine ⟨⟨i + 1, by omega, by omega, hle2, ?_, fun hh => ?_⟩, by first | omega | (dsimp only; omega)⟩
   ·rw [h1, Qp3 hlt, Bool.and_assoc]
   ·rw [Bool.and_eq_true] at hh
    rw [h2 hh.1, Qp2 hlt, hq hh.2, Bool.and_assoc]
  ·have hie : i = v.l.length := by have := of_decide_eq_false h; omega
   subst hie
   rw [List.take_length] at h1 h2
   rw [← Qqv] at h1
   rw [← Qqu] at h2
   refine ⟨H, Gh.le hle, ?_⟩
   rw [h1] at h2 ⊢
   exact k g' h2
 refine bxK hb1 ?_
 rw [hk]
 refine ift.of (fun h => ?_) (fun h => ?_)
 ·have h : v.k = 1 := by simpa using h
  have eo : okN v.k v.n v.s v.l.length = ((v.n == 0 || v.n == 1) && v.s.isEmpty && decide (v.l.length = 0)) := by rw [h]; rfl
  have ef : fitN v.k v.s v.l.length = true := by rw [h]; rfl
  rw [eo, ef]
  refine bxN hb1 ?_
  refine ⟨fun b H' => H1 = H' ∧ b = (v.n == 0 || v.n == 1), ?_, ?_⟩
  ·rw [hn]
   refine ift.of (fun h => ⟨rfl, by rw [h]; rfl⟩) (fun h => ?_)
   refine bxN hb1 ⟨rfl, ?_⟩
   rw [h, hn]; rfl
  rintro _ _ ⟨rfl, rfl⟩
  refine ⟨fun b H' => H1 = H' ∧ b = ((v.n == 0 || v.n == 1) && v.s.isEmpty), ?_, ?_⟩
  ·refine ift.of (fun h => ?_) (fun h => ⟨rfl, by rw [h]; rfl⟩)
   refine bxS hb1 ⟨rfl, ?_⟩
   rw [h, ht, sEmpty]; rfl
  rintro _ _ ⟨rfl, rfl⟩
  refine ⟨fun b H' => H1 = H' ∧ b = ((v.n == 0 || v.n == 1) && v.s.isEmpty && decide (v.l.length = 0)), ?_, ?_⟩
  ·refine ift.of (fun h => ?_) (fun h => ⟨rfl, by rw [h]; rfl⟩)
   refine bxL hb1 ⟨rfl, ?_⟩
   rw [h]; exact lenZ hl 0
  rintro _ _ ⟨rfl, rfl⟩
  exact ⟨rfl, rfl, fun _ => rfl⟩
 have g1 : v.k ≠ 1 := by simpa using h
 refine ift.of (fun h => ?_) (fun h => ?_)
 ·have h : v.k = 2 := by simpa using h
  have eo : okN v.k v.n v.s v.l.length = (v.s.isEmpty && decide (v.l.length = 0)) := by rw [h]; rfl
  have ef : fitN v.k v.s v.l.length = true := by rw [h]; rfl
  rw [eo, ef]
  refine bxS hb1 ?_
  refine ⟨fun b H' => H1 = H' ∧ b = (v.s.isEmpty && decide (v.l.length = 0)), ?_, ?_⟩
  ·rw [ht, sEmpty]
   refine ift.of (fun h => ?_) (fun h => ⟨rfl, by rw [h]; rfl⟩)
   refine bxL hb1 ⟨rfl, ?_⟩
   rw [h]; exact lenZ hl 0
  rintro _ _ ⟨rfl, rfl⟩
  exact ⟨rfl, rfl, fun _ => rfl⟩
 have g2 : v.k ≠ 2 := by simpa using h
 refine ift.of (fun h => ?_) (fun h => ?_)
 ·have h : v.k = 3 := by simpa using h
  have eo : okN v.k v.n v.s v.l.length = (numS v.s && v.n == 0 && decide (v.l.length = 0)) := by rw [h]; rfl
  have ef : fitN v.k v.s v.l.length = decide (digits v.s ≤ 200) := by rw [h]; rfl
  rw [eo, ef]
  refine bxS hb1 ?_
  rw [ht]
  refine Qnl hbs ?_
  refine ⟨fun b H' => H1 = H' ∧ b = (numS v.s && v.n == 0), ?_, ?_⟩
  ·refine ift.of (fun h => ?_) (fun h => ⟨rfl, by rw [h]; rfl⟩)
   refine bxN hb1 ⟨rfl, ?_⟩
   rw [h, hn]; rfl
  rintro _ _ ⟨rfl, rfl⟩
  refine ⟨fun b H' => H1 = H' ∧ b = (numS v.s && v.n == 0 && decide (v.l.length = 0)), ?_, ?_⟩
  ·refine ift.of (fun h => ?_) (fun h => ⟨rfl, by rw [h]; rfl⟩)
   refine bxL hb1 ⟨rfl, ?_⟩
   rw [h]; exact lenZ hl 0
  rintro _ _ ⟨rfl, rfl⟩
  refine ⟨rfl, rfl, fun hh => ?_⟩
  dsimp only at hh ⊢
  simp only [Bool.and_eq_true] at hh
  rw [hh.1.1, if_pos rfl, decide_eq_decide]; omega
 have g3 : v.k ≠ 3 := by simpa using h
 refine ift.of (fun h => ?_) (fun h => ?_)
 ·have h : v.k = 4 := by simpa using h
  have eo : okN v.k v.n v.s v.l.length = (v.n == 0 && decide (v.l.length = 0)) := by rw [h]; rfl
  have ef : fitN v.k v.s v.l.length = decide (v.s.length ≤ 4096) := by rw [h]; rfl
  rw [eo, ef]
  have ed : decide ((v.s.length : Int) ≤ 4096) = decide (v.s.length ≤ 4096) := by rw [decide_eq_decide]; omega
  refine ⟨fun b H' => H1 = H' ∧ b = ((v.n == 0 && decide (v.l.length = 0)), decide (v.s.length ≤ 4096)), ?_, ?_⟩
  ·refine ⟨H1, Heap.le.refl _, bxN hb1 (bxS hb1 ?_)⟩
   rw [hn, ht, ed]
   refine ift.of (fun h => ?_) (fun h => ⟨rfl, by rw [h]; rfl⟩)
   refine bxL hb1 ⟨rfl, ?_⟩
   rw [h, show ((x.L.len : Int) == 0) = decide (v.l.length = 0) from lenZ hl 0]; rfl
  rintro _ _ ⟨rfl, rfl⟩
  exact ⟨rfl, rfl, fun _ => rfl⟩
 have g4 : v.k ≠ 4 := by simpa using h
 refine ift.of (fun h => ?_) (fun h => ?_)
 ·have h : v.k = 5 := by simpa using h
  have eo : okN v.k v.n v.s v.l.length = (v.n == 0 && v.s.isEmpty && decide (v.l.length ≠ 1)) := by rw [h]; rfl
  have ef : fitN v.k v.s v.l.length = decide (v.l.length ≤ 16) := by rw [h]; rfl
  rw [eo, ef]
  have ed : decide ((x.L.len : Int) ≤ 16) = decide (v.l.length ≤ 16) := by rw [decide_eq_decide]; omega
  refine ⟨fun b H' => H1 = H' ∧ b = ((v.n == 0 && v.s.isEmpty && decide (v.l.length ≠ 1)), decide (v.l.length ≤ 16)), ?_, ?_⟩
  ·refine ⟨H1, Heap.le.refl _, bxN hb1 (bxL hb1 ?_)⟩
   rw [hn, ed]
   refine ift.of (fun h => ?_) (fun h => ⟨rfl, by rw [h]; rfl⟩)
   refine bxS hb1 ?_
   rw [ht, sEmpty]
   refine ift.of (fun h2 => ?_) (fun h2 => ⟨rfl, by rw [h2]; simp⟩)
   refine bxL hb1 ⟨rfl, ?_⟩
   rw [h, h2, bne, show ((x.L.len : Int) == 1) = decide (v.l.length = 1) from lenZ hl 1, decide_not]; rfl
  rintro _ _ ⟨rfl, rfl⟩
  exact ⟨rfl, rfl, fun _ => rfl⟩
 have g5 : v.k ≠ 5 := by simpa using h
 refine ift.of (fun h => ?_) (fun h => ?_)
 ·have h : v.k = 6 := by simpa using h
  have eo : okN v.k v.n v.s v.l.length = (v.n == 0 && namesS v.s) := by rw [h]; rfl
  have ef : fitN v.k v.s v.l.length = decide (v.l.length ≤ 8) := by rw [h]; rfl
  rw [eo, ef]
  have ed : decide ((x.L.len : Int) ≤ 8) = decide (v.l.length ≤ 8) := by rw [decide_eq_decide]; omega
  refine bxS hb1 ?_
  rw [ht]
  refine Qpb hbs ?_
  have key : ∀ (a b : Str) (two : Bool), a.length ≤ 140737488355328 → b.length ≤ 140737488355328 → namesS v.s = (if two then nameS a && nameS b else nameS a && !decide (v.s = trueS) && !decide (v.s = falseS)) →
   jn (α := Bool × Bool) (fun x118 H119 => H1 = H119 ∧ x118.1 = (v.n == 0 && namesS v.s) ∧ (x118.1 = true → x118.2 = decide (v.l.length ≤ 8)))
    (fun J117 => dr H1 fun Hs121 =>
    ldI Hs121 .i64 ((b1, 0).1, (b1, 0).2 + 1) fun x123 =>
    ldL Hs121 ((b1, 0).1, (b1, 0).2 + 3) fun x125 =>
    ift ((x123 : Int) == 0)
    (QeA C a (fun r129 H130 =>
    Heap.le Hs121 H130 ∧
    ift r129
    (ift two
    (QeA C b (fun r134 H135 =>
    Heap.le Hs121 H135 ∧
    ift r134
    (J117 (true, (decide (((Sl.len x125 : Int) : Int) ≤ 8))) H135)
    (ift (!two)
    (ldS Hs121 ((b1, 0).1, (b1, 0).2 + 2) fun x138 =>
    ift (!(x138 == ([116, 114, 117, 101] : Str)))
    (ldS Hs121 ((b1, 0).1, (b1, 0).2 + 2) fun x141 =>
    J117 ((!(x141 == ([102, 97, 108, 115, 101] : Str))), (decide (((Sl.len x125 : Int) : Int) ≤ 8))) H135)
    (J117 (false, (decide (((Sl.len x125 : Int) : Int) ≤ 8))) H135))
    (J117 (false, (decide (((Sl.len x125 : Int) : Int) ≤ 8))) H135))) H130)
    (ift (!two)
    (ldS Hs121 ((b1, 0).1, (b1, 0).2 + 2) fun x144 =>
    ift (!(x144 == ([116, 114, 117, 101] : Str)))
    (ldS Hs121 ((b1, 0).1, (b1, 0).2 + 2) fun x147 =>
    J117 ((!(x147 == ([102, 97, 108, 115, 101] : Str))), (decide (((Sl.len x125 : Int) : Int) ≤ 8))) H130)
    (J117 (false, (decide (((Sl.len x125 : Int) : Int) ≤ 8))) H130))
    (J117 (false, (decide (((Sl.len x125 : Int) : Int) ≤ 8))) H130)))
    (J117 (false, (decide (((Sl.len x125 : Int) : Int) ≤ 8))) H130)) H1)
    (J117 (false, (decide (((Sl.len x125 : Int) : Int) ≤ 8))) H1)) := by
   intro a b two ha hb hns
   refine ⟨fun y H' => H1 = H' ∧ y = ((v.n == 0 && namesS v.s), decide (v.l.length ≤ 8)), ?_, ?_⟩
   ·refine ⟨H1, Heap.le.refl _, bxN hb1 (bxL hb1 ?_)⟩
    rw [hn, ed]
    refine ift.of (fun h => ?_) (fun h => ⟨rfl, by rw [h]; rfl⟩)
    refine Qlw ha ⟨Heap.le.refl _, ?_⟩
    rw [h, hns]
    refine ift.of (fun h2 => ?_) (fun h2 => ⟨rfl, by rw [h2]; cases two <;> rfl⟩)
    rw [h2]
    have eq : ∀ t : Str, (v.s == t) = decide (v.s = t) := fun t => by rw [Bool.eq_iff_iff]; simp
    cases two with
    | true =>
     refine QbT rfl ?_
     refine Qlw hb ⟨Heap.le.refl _, ?_⟩
     exact ift.of (fun h3 => ⟨rfl, by rw [h3]; rfl⟩) (fun h3 => QbC rfl ⟨rfl, by rw [h3]; rfl⟩)
    | false =>
     refine QbC rfl (QbT rfl ?_)
     refine bxS hb1 ?_
     rw [ht, show (v.s == ([116, 114, 117, 101] : Str)) = decide (v.s = trueS) from eq _]
     refine ift.of (fun h3 => ?_) (fun h3 => ⟨rfl, ?_⟩)
     ·refine bxS hb1 ⟨rfl, ?_⟩
      rw [ht, show (v.s == ([102, 97, 108, 115, 101] : Str)) = decide (v.s = falseS) from eq _, h3]; rfl
     ·rw [h3]; rfl
   ·rintro _ _ ⟨rfl, rfl⟩
    exact ⟨rfl, rfl, fun _ => rfl⟩
  have hc := Qr7 v.s
  cases hcd : cutD v.s with
  | none =>
   rw [hcd] at hc
   exact key _ _ _ hbs (by simp) hc
  | some p =>
   obtain ⟨a, b⟩ := p
   rw [hcd] at hc
   have hlen : a.length ≤ v.s.length ∧ b.length ≤ v.s.length := by
    by_cases hm : (46 : UInt8) ∈ v.s
    ·obtain ⟨a', b', e1, e2⟩ := Qk1 _ hm
     have := QlD a' b' e2
     rw [← e1, hcd] at this
     injection this with this; injection this with h1 h2
     subst h1; subst h2
     rw [e1]; simp; omega
    ·rw [QlE _ hm] at hcd; cases hcd
   exact key _ _ _ (by omega) (by omega) hc
 have g6 : v.k ≠ 6 := by simpa using h
 have eo : okN v.k v.n v.s v.l.length = false := by unfold okN; rw [if_neg g1, if_neg g2, if_neg g3, if_neg g4, if_neg g5, if_neg g6]
 rw [eo]
 exact ⟨rfl, rfl, fun hh => by cases hh⟩
theorem QkA {v : V} {x : TV} {H : Heap} {K : Int → Heap → Prop} (hv : VIs H v x) (hB : VB v) (k : K (checkV v) H) : Qb3 C x K H := by
 apply Qb3.gh
 apply QnF
 unfold Qkx
 intro b1 n1
 have hb1 : (H.put b1 (.row (Qb.c x))) b1 = some (true, .row (Qb.c x)) := Heap.put_same ..
 have hle1 := Heap.le_put n1 (g := .row (Qb.c x)) (m := true)
 generalize H.put b1 (.row (Qb.c x)) = H1 at *
 unfold checkV at k
 refine bxV hb1 (QnW (m := 65) (hv.le hle1) hB (by omega) fun r h0 h1 h2 => ?_)
 refine ift.of (fun h => ?_) (fun h => ?_)
 ·have h := of_decide_eq_true h
  rw [if_pos (by omega)] at k
  exact ⟨H, Gh.le hle1, k⟩
 have h := of_decide_eq_false h
 rw [if_neg (by omega)] at k
 refine bxV hb1 (Quh (hv.le hle1) hB fun g hg => ?_)
 refine ift.of (fun h => ?_) (fun h => ?_)
 ·have h : formV v = false := by simpa using h
  rw [if_pos h] at k
  exact ⟨H, Gh.le hle1, k⟩
 have hf : formV v = true := by simpa using h
 rw [if_neg (by rw [hf]; decide)] at k
 rw [hg hf]
 refine ift.of (fun h => ?_) (fun h => ?_)
 ·have h : fitsV v = false := by simpa using h
  rw [if_pos h] at k
  exact ⟨H, Gh.le hle1, k⟩
 have hf : fitsV v = true := by simpa using h
 rw [if_neg (by rw [hf]; decide)] at k
 exact ⟨H, Gh.le hle1, k⟩
end
end
section
open Go Go.Proofs
section
variable {C : Ctx} {H : Heap}
theorem Qs3 (v : V) : ((checkV v : Int) == 0) = mayV v := by unfold mayV; rw [Bool.eq_iff_iff]; simp
theorem Qn3 : ∀ {l m : List V}, sameVs l m = true → l.length = m.length
 | [], [], _ => rfl
 | [], _ :: _, h => by simp [sameVs] at h
 | _ :: _, [], h => by simp [sameVs] at h
 | v :: l, w :: m, h => by
  simp only [sameVs, Bool.and_eq_true] at h
  have := Qn3 h.2
  simp [this]
theorem QpP {l m : List V} {s t : Sl} {H : Heap} {K : Bool → Heap → Prop} (hs : VRow H s l) (ht : VRow H t m) (hl : l.length ≤ 140737488355328)
 (ih : ∀ v ∈ l, ∀ w, ∀ {x y : TV} {K : Bool → Heap → Prop}, VIs H v x → VIs H w y → w ∈ m → K (sameV v w) H → QbL C x y K H) (k : K (sameVs l m) H) : Qgq C s t K H := by
 apply Ql8
 unfold QiE
 rw [hs.len, ht.len]
 by_cases hlm : l.length = m.length
 rotate_left
 ·refine QbT (by simp; omega) ?_
  cases hh : sameVs l m with
  | true => exact absurd (Qn3 hh) hlm
  | false => rw [hh] at k; exact k
 refine QbC (by simp; omega) ?_
 refine ⟨fun x H' => ∃ i : Nat, x = (i : Int) ∧ i ≤ l.length ∧ H = H' ∧ sameVs l m = sameVs (l.drop i) (m.drop i), fun x _ => l.length - x.toNat, ⟨0, rfl, Nat.zero_le _, rfl, rfl⟩, ?_⟩
 rintro x _ ⟨i, rfl, hi, rfl, ha⟩
 refine ift.of (fun h => ?_) (fun h => ?_)
 ·have h1 : i < l.length := by have := of_decide_eq_true h; omega
  have h2 : i < m.length := by omega
  have m1 := List.getElem_mem h1
  have m2 := List.getElem_mem h2
  rw [List.drop_eq_getElem_cons h1, List.drop_eq_getElem_cons h2] at ha
  simp only [sameVs] at ha
  refine ⟨H, Heap.le.refl _, ?_⟩
  refine hs.ld (Heap.le.refl _) rfl h1 fun y hy => ?_
  refine ht.ld (Heap.le.refl _) rfl h2 fun z hz => ?_
  refine ih _ m1 _ hy hz m2 ⟨Heap.le.refl _, ?_⟩
  refine ift.of (fun h => ?_) (fun h => ?_)
  ·have h : sameV l[i] m[i] = false := by simpa using h
   rw [ha, h] at k; exact k
  ·have h : sameV l[i] m[i] = true := by simpa using h
   rw [h, Bool.true_and] at ha
   rw [QM (by omega) (by omega)]
   exact ⟨⟨i + 1, by omega, by omega, rfl, ha⟩, by first | omega | (dsimp only; omega)⟩
 ·have hie : i = l.length := by have := of_decide_eq_false h; omega
  rw [hie, List.drop_length, hlm, List.drop_length] at ha
  rw [ha] at k; exact k
theorem Qsp (v w : V) : sameV v w = (v.k == w.k && v.n == w.n && decide (v.s = w.s) && sameVs v.l w.l) := by
 obtain ⟨k, n, s, l⟩ := v
 obtain ⟨k', n', s', l'⟩ := w
 simp only [sameV, V.k, V.n, V.s, V.l]
 rfl
theorem QtR {v w : V} {x y : TV} {H : Heap} {K : Bool → Heap → Prop} (hv : VIs H v x) (hw : VIs H w y) (hB : VB v) (k : K (sameV v w) H) : QbL C x y K H := by
 refine V.rec_ (P := fun v => ∀ {w x y H} {K : Bool → Heap → Prop}, VIs H v x → VIs H w y → VB v → K (sameV v w) H → QbL C x y K H) (fun v ih => ?_) v hv hw hB k
 clear hv hw hB k
 intro w x y H K hv hw hB k
 apply QbL.gh
 apply Qoc
 unfold Qlk
 intro b1 n1 b3 n3
 have hb3 : ((H.put b1 (.row (Qb.c x))).put b3 (.row (Qb.c y))) b3 = some (true, .row (Qb.c y)) := Heap.put_same ..
 have hne : b1 ≠ b3 := fun e => by rw [e, Heap.put_same] at n3; cases n3
 have hb1 : ((H.put b1 (.row (Qb.c x))).put b3 (.row (Qb.c y))) b1 = some (true, .row (Qb.c x)) := by rw [Heap.put_ne _ _ _ hne, Heap.put_same]
 have hle := (Heap.le_put n1 (g := .row (Qb.c x)) (m := true)).trans (Heap.le_put n3 (g := .row (Qb.c y)) (m := true))
 generalize (H.put b1 (.row (Qb.c x))).put b3 (.row (Qb.c y)) = H1 at *
 have k' : ∃ H0, Gh C H1 H0 ∧ K (sameV v w) H0 := ⟨H, Gh.le hle, k⟩
 rw [Qsp] at k'
 refine bxK hb1 (bxK hb3 ?_)
 rw [hv.kind, hw.kind]
 refine ⟨fun b H' => H1 = H' ∧ b = (v.k == w.k && v.n == w.n), ?_, ?_⟩
 ·refine ift.of (fun h => ?_) (fun h => ⟨rfl, by rw [h]; rfl⟩)
  refine bxN hb1 (bxN hb3 ⟨rfl, ?_⟩)
  rw [h, hv.num, hw.num]; rfl
 rintro _ _ ⟨rfl, rfl⟩
 refine ⟨fun b H' => H1 = H' ∧ b = (v.k == w.k && v.n == w.n && decide (v.s = w.s)), ?_, ?_⟩
 ·refine ift.of (fun h => ?_) (fun h => ⟨rfl, by rw [h]; rfl⟩)
  refine bxS hb1 (bxS hb3 ⟨rfl, ?_⟩)
  rw [h, hv.txt, hw.txt, Bool.true_and, Bool.eq_iff_iff]; simp
 rintro _ _ ⟨rfl, rfl⟩
 refine ⟨fun b H' => H1 = H' ∧ b = (v.k == w.k && v.n == w.n && decide (v.s = w.s) && sameVs v.l w.l), ?_, ?_⟩
 ·refine ift.of (fun h => ?_) (fun h => ⟨rfl, by rw [h]; rfl⟩)
  refine bxL hb1 (bxL hb3 ?_)
  refine QpP (hv.row.le hle) (hw.row.le hle) hB.l (fun p hp q {x' y'} {K'} hx hy _ kk => ih p hp hx hy (hB.ls.mem hp) kk) ⟨rfl, ?_⟩
  rw [h]; rfl
 rintro _ _ ⟨rfl, rfl⟩
 exact k'
end
end
section
open Go
section
variable {H : Type} {enc : TypeId × Value → H} {P : Program} {W : World}
/-- the type of values -/
structure ValT (P : Program) (t tl : TypeId) : Prop where
 st : ∃ fs : Array Field, P.underlying t = some (.struct fs) ∧ fs.size = 4 ∧ (∃ f tk, fs[0]? = some f ∧ f.type = tk ∧ f.offset = 0 ∧ P.underlying tk = some (.int .u8) ∧ P.cellsOf tk = 1) ∧ (∃ f tk, fs[1]? = some f ∧ f.type = tk ∧ f.offset = 1 ∧ P.underlying tk = some (.int .i64) ∧ P.cellsOf tk = 1) ∧ (∃ f tk, fs[2]? = some f ∧ f.type = tk ∧ f.offset = 2 ∧ P.underlying tk = some .string ∧ P.cellsOf tk = 1) ∧ (∃ f, fs[3]? = some f ∧ f.type = tl ∧ f.offset = 3 ∧ P.cellsOf tl = 1)
 cells : P.cellsOf t = 4
 sl : P.underlying tl = some (.slice t)
end
end
section
open Go
section
variable {H : Type} {enc : TypeId × Value → H} {P : Program} {W : World}
theorem Qso {t tl : TypeId} {css : List (List Value)} {s : Sl} (hl : css.length = s.len) (hr : rdsl (heapOf W) s css.flatten)
 (ih : ∀ c ∈ css, ∃ (v : V) (x : TV), c = Qb.c x ∧ VIs (heapOf W) v x ∧ VB v) : ∃ l : List V, VRow (heapOf W) s l ∧ VBs l := by
 have key : ∀ (css : List (List Value)), (∀ c ∈ css, ∃ (v : V) (x : TV), c = Qb.c x ∧ VIs (heapOf W) v x ∧ VB v) →
  ∃ (l : List V) (xs : List TV), css.flatten = xs.flatMap Qb.c ∧ css.length = xs.length ∧ VsAre (heapOf W) l xs ∧ VBs l := by
  intro css
  induction css with
  | nil => intro _; exact ⟨[], [], rfl, rfl, trivial, trivial⟩
  | cons c css ihc =>
   intro hh
   obtain ⟨v, x, h1, h2, h3⟩ := hh c (List.mem_cons_self ..)
   obtain ⟨l, xs, g1, g2, g3, g4⟩ := ihc fun c' hc => hh c' (List.mem_cons_of_mem _ hc)
   exact ⟨v :: l, x :: xs, by rw [List.flatten_cons, List.flatMap_cons, g1, h1], by simp [g2], ⟨h2, g3⟩, ⟨h3, g4⟩⟩
 obtain ⟨l, xs, g1, g2, g3, g4⟩ := key css ih
 exact ⟨l, ⟨xs, by rw [← g1]; exact hr, by omega, g3⟩, g4⟩
theorem QuA {t tl : TypeId} (hT : ValT P t tl) (hb : 1 ≤ P.bytesOf t) : ∀ (n : Nat) {cs : List Value}, TrW P W n t cs → ∃ (v : V) (y : TV), cs = Qb.c y ∧ VIs (heapOf W) v y ∧ VB v := by
 intro n
 induction n using Nat.strongRecOn with
 | _ n ih =>
 intro cs h
 obtain ⟨fs, hu, hfs, ⟨f0, t0, a0, b0, c0, d0, e0⟩, ⟨f1, t1, a1, b1, c1, d1, e1⟩, ⟨f2, t2, a2, b2, c2, d2, e2⟩, ⟨f3, a3, b3, c3, e3⟩⟩ := hT.st
 obtain ⟨hl, m, rfl, hf⟩ := h.struct hu
 rw [hT.cells] at hl
 match cs, hl with
 | [q0, q1, q2, q3], _ =>
 have g0 := hf 0 f0 a0
 have g1 := hf 1 f1 a1
 have g2 := hf 2 f2 a2
 have g3 := hf 3 f3 a3
 rw [b0, c0, e0] at g0
 rw [b1, c1, e1] at g1
 rw [b2, c2, e2] at g2
 rw [b3, c3, e3] at g3
 simp at g0 g1 g2 g3
 obtain ⟨n0, k0, k2⟩ := g0.int d0
 obtain ⟨n1, l0, l2⟩ := g1.int d1
 obtain ⟨s2, m0, m1, m2⟩ := g2.str d2
 obtain ⟨s, css, m', hm', p0, p1, p2, p3, p4, p5, p6⟩ := g3.slice hT.sl hT.cells (by omega)
 have hmx : reachBytes = 140737488351232 := rfl
 rw [hmx] at p3 m2
 obtain ⟨l, r1, r2⟩ := Qso (t := t) (tl := tl) p4 p5 fun c hc => ih m' (by omega) (p6 c hc).2
 have hll := r1.len
 have hsl : s.len ≤ 140737488351232 := Nat.le_trans (Nat.le_mul_of_pos_right _ (by omega)) p3
 refine ⟨.mk n0 n1 s2 l, ⟨n0, n1, s2, s⟩, ?_, Qfq.2 ⟨rfl, rfl, rfl, r1⟩, ⟨?_, ?_, by omega, by omega, r2⟩⟩
 ·injection k0 with k0
  injection l0 with l0
  injection m0 with m0
  injection p0 with p0
  subst k0; subst l0; subst m0; subst p0
  simp [Qb.c]
 ·simpa [Lit.wf, IntKind.min, IntKind.max, IntKind.signed, IntKind.bits] using k2
 ·simpa [Lit.wf, IntKind.min, IntKind.max, IntKind.signed, IntKind.bits] using l2
end
end
section
open Go
def hexD (k : Nat) : UInt8 := if k < 10 then UInt8.ofNat (48 + k) else UInt8.ofNat (87 + k)
def qC (c : UInt8) : Str :=
 if c = 34 ∨ c = 92 then [92, c] else if c = 10 then [92, 110] else if c = 9 then [92, 116]
 else if 32 ≤ c.toNat ∧ c.toNat ≤ 126 then [c] else [92, 120, hexD (c.toNat / 16), hexD (c.toNat % 16)]
def quoteS (s : Str) : Str := 34 :: (s.flatMap qC ++ [34])
mutual
def showV : V → Str
 | .mk k n s l => if k = 1 then (if n = 1 then trueS else falseS) else if k = 2 then Lib.itoa n else if k = 3 then s ++ [98] else if k = 4 then quoteS s
  else if k = 5 then 40 :: (showR true l ++ [41]) else s ++ (if l.length = 0 then [] else 40 :: (showR true l ++ [41]))
def showR : Bool → List V → Str
 | _, [] => []
 | f, v :: l => (if f then [] else [44, 32]) ++ (showV v ++ showR false l)
end
theorem Qn4 : ∀ (l : List V) (f : Bool) (v : V), showR f (l ++ [v]) = showR f l ++ ((if f && l.isEmpty then [] else [44, 32]) ++ showV v)
 | [], f, v => by cases f <;> simp [showR]
 | w :: l, f, v => by
  rw [List.cons_append]
  simp only [showR, Qn4 l false v, List.isEmpty_cons, Bool.and_false, Bool.false_and, Bool.false_eq_true, if_false, List.append_assoc]
theorem Ql5 : ∀ (a b : List V) (f : Bool), showR f (a ++ b) = showR f a ++ showR (f && a.isEmpty) b
 | [], b, f => by simp [showR]
 | v :: a, b, f => by
  rw [List.cons_append]
  simp only [showR, Ql5 a b false, List.isEmpty_cons, Bool.and_false, Bool.false_and, List.append_assoc]
theorem Qss (l : List V) (i : Nat) : (showR true (l.take i)).length ≤ (showR true l).length := by
 have := congrArg List.length (Ql5 (l.take i) (l.drop i) true)
 rw [List.take_append_drop, List.length_append] at this
 omega
theorem Qra {l : List V} {i : Nat} (h : i < l.length) : showR true (l.take (i + 1)) = showR true (l.take i) ++ ((if i = 0 then [] else [44, 32]) ++ showV l[i]) := by
 rw [List.take_add_one, List.getElem?_eq_getElem h, Option.toList_some, Qn4]
 congr 2
 have e : (l.take i).isEmpty = decide (i = 0) := by
  rw [Bool.eq_iff_iff, List.isEmpty_iff, decide_eq_true_iff]
  refine ⟨fun h2 => ?_, fun h2 => by rw [h2]; rfl⟩
  have := congrArg List.length h2
  rw [List.length_take, List.length_nil] at this; omega
 rw [Bool.true_and, e]
 by_cases hi : i = 0 <;> simp [hi]
theorem Qil {n : Nat} (h : n < 256) : (UInt8.ofNat n).toNat = n := by rw [UInt8.toNat_ofNat']; omega
def valN (l : Str) : Nat := l.foldl (fun a c => 10 * a + (c.toNat - 48)) 0
theorem Qtu (u : Nat) : valN (Lib.decDigits u) = u := by
 induction u using Nat.strongRecOn with
 | _ u ih =>
  rw [Lib.decDigits]
  split
  ·rename_i h
   have := Qil (n := 48 + u) (by omega)
   simp only [valN, List.foldl_cons, List.foldl_nil, this]; omega
  ·rename_i h
   have e := ih (u / 10) (by omega)
   have := Qil (n := 48 + u % 10) (by omega)
   unfold valN at e ⊢
   rw [List.foldl_append, e]
   simp only [List.foldl_cons, List.foldl_nil, this]; omega
theorem Qqo (u : Nat) : (∀ c ∈ Lib.decDigits u, digC c = true) ∧ Lib.decDigits u ≠ [] := by
 induction u using Nat.strongRecOn with
 | _ u ih =>
  rw [Lib.decDigits]
  split
  ·rename_i h
   refine ⟨fun c hc => ?_, by simp⟩
   rw [List.mem_singleton] at hc
   subst hc
   have := Qil (n := 48 + u) (by omega)
   unfold digC
   rw [this]
   simp only [Bool.and_eq_true, decide_eq_true_eq]; omega
  ·rename_i h
   refine ⟨fun c hc => ?_, by simp⟩
   rw [List.mem_append, List.mem_singleton] at hc
   rcases hc with hc | rfl
   ·exact (ih (u / 10) (by omega)).1 c hc
   ·have := Qil (n := 48 + u % 10) (by omega)
    unfold digC
    rw [this]
    simp only [Bool.and_eq_true, decide_eq_true_eq]; omega
theorem Qtt {u v : Nat} (h : Lib.decDigits u = Lib.decDigits v) : u = v := by rw [← Qtu u, h, Qtu v]
theorem QrF {c d : UInt8} (h : digC c = true) (hd : digC d = false) : c ≠ d := fun e => by rw [e, hd] at h; cases h
theorem Qs0 {m n : Int} (h : Lib.itoa m = Lib.itoa n) : m = n := by
 have ne : ∀ u v : Nat, (45 : UInt8) :: Lib.decDigits u ≠ Lib.decDigits v := fun u v e => by
  have := (Qqo v).1 45 (by rw [← e]; exact List.mem_cons_self ..)
  exact absurd this (by decide)
 unfold Lib.itoa at h
 split at h <;> split at h
 ·injection h with _ h
  have := Qtt h; omega
 ·exact absurd h (ne _ _)
 ·exact absurd h.symm (ne _ _)
 ·have := Qtt h; omega
theorem Qk7 {n : Int} {c : UInt8} (h : c ∈ Lib.itoa n) : digC c = true ∨ c = 45 := by
 unfold Lib.itoa at h
 split at h
 ·rcases List.mem_cons.1 h with h | h
  ·exact .inr h
  ·exact .inl ((Qqo _).1 c h)
 ·exact .inl ((Qqo _).1 c h)
theorem Qoz (n : Int) : Lib.itoa n ≠ [] := by
 unfold Lib.itoa
 split
 ·simp
 ·exact (Qqo _).2
theorem QrV (n : Int) : (Lib.itoa n).getLast? ≠ some 98 := fun h => by
 have hm := List.mem_of_getLast? h
 rcases Qk7 hm with h | h
 ·exact absurd h (by decide)
 ·exact absurd h (by decide)
def stopC (c : UInt8) : Bool := c == 40 || c == 41 || c == 44 || c == 59 || c == 34
def tok : V → Str
 | .mk k n s l => if k = 1 then (if n = 1 then trueS else falseS) else if k = 2 then Lib.itoa n else if k = 3 then s ++ [98] else if k = 5 then [] else s
def rst : V → Str
 | .mk k n s l => if k = 5 ∨ (k = 6 ∧ l.length ≠ 0) then 40 :: (showR true l ++ [41]) else []
def kindT (t : Str) : Int := if t = [] then 5 else if lowC (t.headD 0) = true then (if t = trueS ∨ t = falseS then 1 else 6) else if t.getLast? = some 98 then 3 else 2
theorem QgV {v : V} (h : formV v = true) : formVs v.l = true ∧ ((v.k = 1 ∧ (v.n = 0 ∨ v.n = 1) ∧ v.s = [] ∧ v.l = []) ∨ (v.k = 2 ∧ v.s = [] ∧ v.l = []) ∨ (v.k = 3 ∧ numS v.s = true ∧ v.n = 0 ∧ v.l = []) ∨ (v.k = 4 ∧ v.n = 0 ∧ v.l = []) ∨
 (v.k = 5 ∧ v.n = 0 ∧ v.s = []) ∨ (v.k = 6 ∧ v.n = 0 ∧ namesS v.s = true)) := by
 rw [Qqv, Bool.and_eq_true] at h
 obtain ⟨h, h2⟩ := h
 refine ⟨h2, ?_⟩
 unfold okN at h
 split at h
 ·rename_i hk
  simp only [Bool.and_eq_true, Bool.or_eq_true, beq_iff_eq, List.isEmpty_iff, decide_eq_true_eq, List.length_eq_zero_iff] at h
  exact .inl ⟨hk, h.1.1, h.1.2, h.2⟩
 split at h
 ·rename_i hk
  simp only [Bool.and_eq_true, beq_iff_eq, List.isEmpty_iff, decide_eq_true_eq, List.length_eq_zero_iff] at h
  exact .inr (.inl ⟨hk, h.1, h.2⟩)
 split at h
 ·rename_i hk
  simp only [Bool.and_eq_true, beq_iff_eq, decide_eq_true_eq, List.length_eq_zero_iff] at h
  exact .inr (.inr (.inl ⟨hk, h.1.1, h.1.2, h.2⟩))
 split at h
 ·rename_i hk
  simp only [Bool.and_eq_true, beq_iff_eq, decide_eq_true_eq, List.length_eq_zero_iff] at h
  exact .inr (.inr (.inr (.inl ⟨hk, h.1, h.2⟩)))
 split at h
 ·rename_i hk
  simp only [Bool.and_eq_true, beq_iff_eq, List.isEmpty_iff] at h
  exact .inr (.inr (.inr (.inr (.inl ⟨hk, h.1.1, h.1.2⟩))))
 split at h
 ·rename_i hk
  simp only [Bool.and_eq_true, beq_iff_eq] at h
  exact .inr (.inr (.inr (.inr (.inr ⟨hk, h.1, h.2⟩))))
 ·cases h
theorem QoN {v : V} (h : formV v = true) (h4 : v.k ≠ 4) : showV v = tok v ++ rst v := by
 have hc := (QgV h).2
 obtain ⟨k, n, s, l⟩ := v
 simp only [V.k, V.n, V.s, V.l] at hc h4
 simp only [showV, tok, rst]
 rcases hc with ⟨rfl, _, _, rfl⟩ | ⟨rfl, _, rfl⟩ | ⟨rfl, _, _, rfl⟩ | ⟨rfl, _⟩ | ⟨rfl, _⟩ | ⟨rfl, _⟩
 ·simp
 ·simp
 ·simp
 ·exact absurd rfl h4
 ·simp
 ·by_cases hl : l.length = 0 <;> simp [hl]
theorem QjK {c : UInt8} (h : nameC c = true) : stopC c = false := by
 simp only [nameC, lowC, Bool.or_eq_true, Bool.and_eq_true, decide_eq_true_eq] at h
 unfold stopC
 simp only [Bool.or_eq_false_iff, beq_eq_false_iff_ne]
 refine ⟨⟨⟨⟨?_, ?_⟩, ?_⟩, ?_⟩, ?_⟩ <;> (rintro rfl; revert h; decide)
theorem QrG {c : UInt8} (h : digC c = true) : stopC c = false := QjK (by
 simp only [digC, Bool.and_eq_true, decide_eq_true_eq] at h
 simp only [nameC, Bool.or_eq_true, Bool.and_eq_true, decide_eq_true_eq]
 exact .inl (.inr h))
theorem Qik {s : Str} (h : nameS s = true) : s ≠ [] ∧ s.length ≤ 32 ∧ lowC (s.headD 0) = true ∧ ∀ c ∈ s, nameC c = true := by
 simp only [nameS, Bool.and_eq_true, Bool.not_eq_true', List.isEmpty_eq_false_iff, decide_eq_true_eq, List.all_eq_true] at h
 exact ⟨h.1.1.1, h.1.1.2, h.1.2, h.2⟩
theorem Qji {s : Str} (h : namesS s = true) : s ≠ trueS ∧ s ≠ falseS ∧ s ≠ [] ∧ s.length ≤ 65 ∧ lowC (s.headD 0) = true ∧ ∀ c ∈ s, stopC c = false := by
 unfold namesS at h
 split at h
 ·cases h
 rename_i hne
 refine ⟨fun e => hne (.inl e), fun e => hne (.inr e), ?_⟩
 split at h
 ·rename_i a b hab
  rw [Bool.and_eq_true] at h
  obtain ⟨h1, h2, h3, h4⟩ := Qik h.1
  obtain ⟨g1, g2, g3, g4⟩ := Qik h.2
  have hs : s = a ++ 46 :: b := by
   by_cases hm : (46 : UInt8) ∈ s
   ·obtain ⟨x, y, e1, e2⟩ := Qk1 s hm
    rw [e1, QlD x y e2] at hab
    injection hab with hab; injection hab with e3 e4
    rw [e1, e3, e4]
   ·rw [QlE s hm] at hab; cases hab
  rw [hs]
  refine ⟨by simp, by rw [List.length_append, List.length_cons]; omega, ?_, fun c hc => ?_⟩
  ·cases a with
   | nil => exact absurd rfl h1
   | cons x a => exact h3
  ·rw [List.mem_append, List.mem_cons] at hc
   rcases hc with hc | rfl | hc
   ·exact QjK (h4 c hc)
   ·rfl
   ·exact QjK (g4 c hc)
 ·obtain ⟨h1, h2, h3, h4⟩ := Qik h
  exact ⟨h1, by omega, h3, fun c hc => QjK (h4 c hc)⟩
theorem QjL {s : Str} (h : numS s = true) : s ≠ [] ∧ (∀ c ∈ s, digC c = true ∨ c = 45) ∧ s.length ≤ digits s + 1 := by
 simp only [numS, Bool.and_eq_true, Bool.not_eq_true', List.isEmpty_eq_false_iff, List.all_eq_true] at h
 obtain ⟨⟨h1, h2⟩, h3⟩ := h
 unfold digits
 unfold unmin at h1 h2 ⊢
 split at h1
 ·rename_i hh
  rw [if_pos hh] at h2 ⊢
  cases s with
  | nil => cases hh
  | cons c s =>
   simp only [List.head?_cons, Option.some.injEq] at hh
   subst hh
   refine ⟨by simp, fun d hd => ?_, by simp⟩
   rcases List.mem_cons.1 hd with rfl | hd
   ·exact .inr rfl
   ·exact .inl (h2 d hd)
 ·rename_i hh
  rw [if_neg hh] at h2 ⊢
  exact ⟨h1, fun d hd => .inl (h2 d hd), by omega⟩
theorem Qla {c : UInt8} (h : digC c = true ∨ c = 45) : stopC c = false ∧ lowC c = false := by
 rcases h with h | rfl
 ·refine ⟨QrG h, ?_⟩
  simp only [digC, Bool.and_eq_true, decide_eq_true_eq] at h
  simp only [lowC, Bool.and_eq_false_iff, decide_eq_false_iff_not]; omega
 ·exact ⟨rfl, rfl⟩
theorem Qpj : ∀ {s : Str}, s ≠ [] → s.headD 0 ∈ s
 | [], h => absurd rfl h
 | c :: s, _ => List.mem_cons_self ..
theorem QoP {v : V} (h : formV v = true) (h4 : v.k ≠ 4) : ∀ c ∈ tok v, stopC c = false := by
 have hc := (QgV h).2
 obtain ⟨k, n, s, l⟩ := v
 simp only [V.k, V.n, V.s, V.l] at hc h4
 intro c hm
 simp only [tok] at hm
 rcases hc with ⟨rfl, _, _, rfl⟩ | ⟨rfl, _, rfl⟩ | ⟨rfl, hn, _, rfl⟩ | ⟨rfl, _⟩ | ⟨rfl, _⟩ | ⟨rfl, _, hn⟩
 ·rw [if_pos rfl] at hm
  split at hm
  ·exact (by decide : ∀ c ∈ trueS, stopC c = false) c hm
  ·exact (by decide : ∀ c ∈ falseS, stopC c = false) c hm
 ·exact (Qla (Qk7 (by simpa using hm))).1
 ·have hm : c ∈ s ∨ c = 98 := by simpa using hm
  rcases hm with hm | rfl
  ·exact (Qla ((QjL hn).2.1 c hm)).1
  ·rfl
 ·exact absurd rfl h4
 ·simp at hm
 ·exact (Qji hn).2.2.2.2.2 c (by simpa using hm)
theorem QoA {v : V} (h : formV v = true) (h4 : v.k ≠ 4) : kindT (tok v) = v.k := by
 have hc := (QgV h).2
 obtain ⟨k, n, s, l⟩ := v
 simp only [V.k, V.n, V.s, V.l] at hc h4 ⊢
 simp only [tok]
 rcases hc with ⟨rfl, hn, rfl, rfl⟩ | ⟨rfl, _, rfl⟩ | ⟨rfl, hn, _, rfl⟩ | ⟨rfl, _⟩ | ⟨rfl, _⟩ | ⟨rfl, _, hn⟩
 ·rcases hn with rfl | rfl <;> decide
 ·have e : (if (2 : Int) = 1 then (if n = 1 then trueS else falseS) else if (2 : Int) = 2 then Lib.itoa n else if (2 : Int) = 3 then s ++ [98] else if (2 : Int) = 5 then [] else s) = Lib.itoa n := by simp
  rw [e]
  unfold kindT
  have hlow := (Qla (Qk7 (Qpj (Qoz n)))).2
  rw [if_neg (Qoz n), if_neg (by rw [hlow]; decide), if_neg (QrV n)]
 ·have e : (if (3 : Int) = 1 then (if n = 1 then trueS else falseS) else if (3 : Int) = 2 then Lib.itoa n else if (3 : Int) = 3 then s ++ [98] else if (3 : Int) = 5 then [] else s) = s ++ [98] := by simp
  rw [e]
  obtain ⟨q1, q2, _⟩ := QjL hn
  have hlow : lowC ((s ++ [98]).headD 0) = false := by
   cases s with
   | nil => exact absurd rfl q1
   | cons c s => exact (Qla (q2 c (List.mem_cons_self ..))).2
  unfold kindT
  rw [if_neg (by simp), if_neg (by rw [hlow]; decide), if_pos (by simp)]
 ·exact absurd rfl h4
 ·simp [kindT]
 ·have e : (if (6 : Int) = 1 then (if n = 1 then trueS else falseS) else if (6 : Int) = 2 then Lib.itoa n else if (6 : Int) = 3 then s ++ [98] else if (6 : Int) = 5 then [] else s) = s := by simp
  rw [e]
  obtain ⟨q1, q2, q3, _, q5, _⟩ := Qji hn
  unfold kindT
  rw [if_neg q3, if_pos q5, if_neg (fun h => h.elim q1 q2)]
theorem Qpz : ∀ {a b x y : Str}, (∀ c ∈ a, stopC c = false) → (∀ c ∈ b, stopC c = false) → (x = [] ∨ ∃ c t, x = c :: t ∧ stopC c = true) → (y = [] ∨ ∃ c t, y = c :: t ∧ stopC c = true) → a ++ x = b ++ y → a = b ∧ x = y
 | [], [], x, y, _, _, _, _, e => ⟨rfl, e⟩
 | [], d :: b, x, y, _, hb, hx, _, e => by
  rcases hx with rfl | ⟨c, t, rfl, hc⟩
  ·simp at e
  ·injection e with e1 _
   rw [e1, hb d (List.mem_cons_self ..)] at hc; cases hc
 | d :: a, [], x, y, ha, _, _, hy, e => by
  rcases hy with rfl | ⟨c, t, rfl, hc⟩
  ·simp at e
  ·injection e with e1 _
   rw [← e1, ha d (List.mem_cons_self ..)] at hc; cases hc
 | c :: a, d :: b, x, y, ha, hb, hx, hy, e => by
  injection e with e1 e2
  obtain ⟨q1, q2⟩ := Qpz (fun c hc => ha c (List.mem_cons_of_mem _ hc)) (fun c hc => hb c (List.mem_cons_of_mem _ hc)) hx hy e2
  exact ⟨by rw [e1, q1], q2⟩
theorem Qua : ∀ k : Fin 16, hexD k.val ≠ 34 ∧ ∀ j : Fin 16, hexD k.val = hexD j.val → k = j := by decide
theorem Qqw {i j : Nat} (hi : i < 16) (hj : j < 16) (h : hexD i = hexD j) : i = j := by
 have := (Qua ⟨i, hi⟩).2 ⟨j, hj⟩ h
 exact congrArg Fin.val this
theorem Qmr (c : UInt8) : ((c = 34 ∨ c = 92) ∧ qC c = [92, c]) ∨ (c = 10 ∧ qC c = [92, 110]) ∨ (c = 9 ∧ qC c = [92, 116]) ∨ (c ≠ 34 ∧ c ≠ 92 ∧ qC c = [c]) ∨ qC c = [92, 120, hexD (c.toNat / 16), hexD (c.toNat % 16)] := by
 unfold qC
 by_cases h1 : c = 34 ∨ c = 92
 ·rw [if_pos h1]; exact .inl ⟨h1, rfl⟩
 rw [if_neg h1]
 by_cases h2 : c = 10
 ·rw [if_pos h2]; exact .inr (.inl ⟨h2, rfl⟩)
 rw [if_neg h2]
 by_cases h3 : c = 9
 ·rw [if_pos h3]; exact .inr (.inr (.inl ⟨h3, rfl⟩))
 rw [if_neg h3]
 split
 ·exact .inr (.inr (.inr (.inl ⟨fun e => h1 (.inl e), fun e => h1 (.inr e), rfl⟩)))
 ·exact .inr (.inr (.inr (.inr rfl)))
theorem Qsz {c d : UInt8} (h : c.toNat = d.toNat) : c = d := UInt8.toNat_inj.1 h
theorem Qvb {c d : UInt8} {x y : Str} (h : qC c ++ x = qC d ++ y) : c = d ∧ x = y := by
 rcases Qmr c with ⟨hc, e⟩ | ⟨hc, e⟩ | ⟨hc, e⟩ | ⟨hc, hc2, e⟩ | e <;> rcases Qmr d with ⟨hd, f⟩ | ⟨hd, f⟩ | ⟨hd, f⟩ | ⟨hd, hd2, f⟩ | f <;> rw [e, f] at h <;> simp only [List.cons_append, List.nil_append, List.cons.injEq] at h
 case inr.inr.inr.inr.inr.inr.inr.inr =>
  obtain ⟨_, _, h1, h2, h3⟩ := h
  have hc := c.toNat_lt; have hd := d.toNat_lt
  have := Qqw (by omega) (by omega) h1
  have := Qqw (by omega) (by omega) h2
  exact ⟨Qsz (by omega), h3⟩
 case inl.inl => exact ⟨h.2.1, h.2.2⟩
 case inr.inr.inr.inl.inr.inr.inr.inl => exact h
 case inr.inl.inr.inl => exact ⟨by rw [hc, hd], h.2.2⟩
 case inr.inr.inl.inr.inr.inl => exact ⟨by rw [hc, hd], h.2.2⟩
 all_goals exfalso
 all_goals first
  | (obtain ⟨_, h1, _⟩ := h; subst_vars; simp_all; done)
  | (obtain ⟨h1, _⟩ := h; subst_vars; simp_all; done)
  | (obtain ⟨_, h1, _⟩ := h; rcases hc with rfl | rfl <;> simp_all; done)
  | (obtain ⟨_, h1, _⟩ := h; rcases hd with rfl | rfl <;> simp_all; done)
theorem Qsi (c : UInt8) : ∃ d t, qC c = d :: t ∧ d ≠ 34 := by
 rcases Qmr c with ⟨_, e⟩ | ⟨_, e⟩ | ⟨_, e⟩ | ⟨h, _, e⟩ | e
 ·exact ⟨_, _, e, by decide⟩
 ·exact ⟨_, _, e, by decide⟩
 ·exact ⟨_, _, e, by decide⟩
 ·exact ⟨_, _, e, h⟩
 ·exact ⟨_, _, e, by decide⟩
theorem Qsk : ∀ {s t x y : Str}, s.flatMap qC ++ 34 :: x = t.flatMap qC ++ 34 :: y → s = t ∧ x = y
 | [], [], x, y, h => ⟨rfl, by injection h⟩
 | [], d :: t, x, y, h => by
  obtain ⟨e, u, h1, h2⟩ := Qsi d
  rw [List.flatMap_cons, h1] at h
  injection h with h _
  exact absurd h.symm h2
 | c :: s, [], x, y, h => by
  obtain ⟨e, u, h1, h2⟩ := Qsi c
  rw [List.flatMap_cons, h1] at h
  injection h with h _
  exact absurd h h2
 | c :: s, d :: t, x, y, h => by
  rw [List.flatMap_cons, List.flatMap_cons, List.append_assoc, List.append_assoc] at h
  obtain ⟨h1, h2⟩ := Qvb h
  obtain ⟨h3, h4⟩ := Qsk h2
  exact ⟨by rw [h1, h3], h4⟩
def EndS (r : Str) : Prop := r = [] ∨ ∃ c t, r = c :: t ∧ (c = 41 ∨ c = 44 ∨ c = 59)
theorem EndS.stop {r : Str} (h : EndS r) : r = [] ∨ ∃ c t, r = c :: t ∧ stopC c = true := h.imp id fun ⟨c, t, e, hc⟩ => ⟨c, t, e, by rcases hc with rfl | rfl | rfl <;> rfl⟩
theorem EndS.ne40 {r t : Str} (h : EndS r) : r ≠ 40 :: t := fun e => by
 rcases h with rfl | ⟨c, t', rfl, hc⟩
 ·cases e
 ·injection e with e _; subst e; revert hc; decide
theorem Qlt {v : V} (h : formV v = true) : ∃ c t, showV v = c :: t ∧ c ≠ 41 ∧ (v.k ≠ 4 → c ≠ 34) := by
 by_cases h4 : v.k = 4
 ·obtain ⟨k, n, s, l⟩ := v
  simp only [V.k] at h4
  subst h4
  exact ⟨34, s.flatMap qC ++ [34], by simp [showV, quoteS], by decide, fun h => absurd rfl h⟩
 ·rw [QoN h h4]
  have hf := QoP h h4
  cases ht : tok v with
  | cons c t =>
   have := hf c (by rw [ht]; exact List.mem_cons_self ..)
   exact ⟨c, t ++ rst v, rfl, (fun e => by rw [e] at this; cases this), (fun _ e => by rw [e] at this; cases this)⟩
  | nil =>
   have hk := QoA h h4
   rw [ht] at hk
   have hk : v.k = 5 := hk.symm
   obtain ⟨k, n, s, l⟩ := v
   simp only [V.k] at hk
   subst hk
   exact ⟨40, showR true l ++ [41], by simp [rst], by decide, fun _ => by decide⟩
theorem QqJ (v : V) (r : Str) (hr : EndS r) : rst v ++ r = [] ∨ ∃ c t, rst v ++ r = c :: t ∧ stopC c = true := by
 obtain ⟨k, n, s, l⟩ := v
 simp only [rst]
 split
 ·exact .inr ⟨40, _, rfl, rfl⟩
 ·exact hr.stop
theorem Qpw : ∀ (l : List V), (∀ v ∈ l, ∀ (w : V) (r r' : Str), formV v = true → formV w = true → EndS r → EndS r' → showV v ++ r = showV w ++ r' → v = w ∧ r = r') →
 ∀ (f : Bool) (l' : List V) (r r' : Str), formVs l = true → formVs l' = true → showR f l ++ 41 :: r = showR f l' ++ 41 :: r' → l = l' ∧ r = r'
 | [], _, f, [], r, r', _, _, e => ⟨rfl, by simpa [showR] using e⟩
 | [], _, f, w :: l', r, r', _, h2, e => by
  exfalso
  simp only [formVs, Bool.and_eq_true] at h2
  obtain ⟨c, t, hw, hc, _⟩ := Qlt h2.1
  simp only [showR, List.nil_append] at e
  cases f with
  | true =>
   rw [hw] at e
   simp only [if_true, List.nil_append, List.cons_append, List.cons.injEq] at e
   exact hc e.1.symm
  | false => simp at e
 | v :: l, _, f, [], r, r', h1, _, e => by
  exfalso
  simp only [formVs, Bool.and_eq_true] at h1
  obtain ⟨c, t, hw, hc, _⟩ := Qlt h1.1
  simp only [showR, List.nil_append] at e
  cases f with
  | true =>
   rw [hw] at e
   simp only [if_true, List.nil_append, List.cons_append, List.cons.injEq] at e
   exact hc e.1
  | false => simp at e
 | v :: l, ih, f, w :: l', r, r', h1, h2, e => by
  simp only [formVs, Bool.and_eq_true] at h1 h2
  simp only [showR, List.append_assoc] at e
  have e := List.append_cancel_left e
  have hend : ∀ (l : List V) (r : Str), EndS (showR false l ++ 41 :: r) := fun l r => by
   cases l with
   | nil => exact .inr ⟨41, r, rfl, .inl rfl⟩
   | cons x l => exact .inr ⟨44, _, rfl, .inr (.inl rfl)⟩
  obtain ⟨q1, q2⟩ := ih v (List.mem_cons_self ..) w _ _ h1.1 h2.1 (hend l r) (hend l' r') e
  obtain ⟨q3, q4⟩ := Qpw l (fun v hv => ih v (List.mem_cons_of_mem _ hv)) false l' r r' h1.2 h2.2 q2
  exact ⟨by rw [q1, q3], q4⟩
theorem Qtg (v : V) : ∀ (w : V) (r r' : Str), formV v = true → formV w = true → EndS r → EndS r' → showV v ++ r = showV w ++ r' → v = w ∧ r = r' := by
 refine V.rec_ (P := fun v => ∀ (w : V) (r r' : Str), formV v = true → formV w = true → EndS r → EndS r' → showV v ++ r = showV w ++ r' → v = w ∧ r = r') (fun v ih w r r' hv hw hr hr' e => ?_) v
 have hcv := QgV hv
 have hcw := QgV hw
 by_cases h4 : v.k = 4
 ·by_cases k4 : w.k = 4
  ·obtain ⟨k, n, s, l⟩ := v
   obtain ⟨k', n', s', l'⟩ := w
   simp only [V.k, V.n, V.s, V.l] at *
   subst h4; subst k4
   obtain ⟨_, rfl, rfl⟩ : (4 : Int) = 4 ∧ n = 0 ∧ l = [] := by rcases hcv.2 with ⟨h, _⟩ | ⟨h, _⟩ | ⟨h, _⟩ | h | ⟨h, _⟩ | ⟨h, _⟩ <;> first | exact h | exact absurd h (by decide)
   obtain ⟨_, rfl, rfl⟩ : (4 : Int) = 4 ∧ n' = 0 ∧ l' = [] := by rcases hcw.2 with ⟨h, _⟩ | ⟨h, _⟩ | ⟨h, _⟩ | h | ⟨h, _⟩ | ⟨h, _⟩ <;> first | exact h | exact absurd h (by decide)
   simp only [showV, quoteS] at e
   simp only [show ¬ ((4 : Int) = 1) by decide, show ¬ ((4 : Int) = 2) by decide, show ¬ ((4 : Int) = 3) by decide, if_false, if_true, List.cons_append, List.append_assoc, List.cons.injEq, true_and, List.nil_append] at e
   obtain ⟨q1, q2⟩ := Qsk e
   exact ⟨by rw [q1], q2⟩
  ·exfalso
   obtain ⟨c, t, e1, _, e2⟩ := Qlt hw
   obtain ⟨k, n, s, l⟩ := v
   simp only [V.k] at h4
   subst h4
   rw [e1] at e
   simp [showV, quoteS] at e
   exact e2 k4 e.1.symm
 ·by_cases k4 : w.k = 4
  ·exfalso
   obtain ⟨c, t, e1, _, e2⟩ := Qlt hv
   obtain ⟨k, n, s, l⟩ := w
   simp only [V.k] at k4
   subst k4
   rw [e1] at e
   simp [showV, quoteS] at e
   exact e2 h4 e.1
  ·rw [QoN hv h4, QoN hw k4, List.append_assoc, List.append_assoc] at e
   obtain ⟨q1, q2⟩ := Qpz (QoP hv h4) (QoP hw k4) (QqJ v r hr) (QqJ w r' hr') e
   have hkk : v.k = w.k := by rw [← QoA hv h4, ← QoA hw k4, q1]
   obtain ⟨k, n, s, l⟩ := v
   obtain ⟨k', n', s', l'⟩ := w
   simp only [V.k, V.n, V.s, V.l] at *
   subst hkk
   simp only [tok] at q1
   simp only [rst] at q2
   have tails : ∀ (l l' : List V), formVs l = true → formVs l' = true → (∀ v ∈ l, ∀ (w : V) (r r' : Str), formV v = true → formV w = true → EndS r → EndS r' → showV v ++ r = showV w ++ r' → v = w ∧ r = r') →
    40 :: (showR true l ++ [41]) ++ r = 40 :: (showR true l' ++ [41]) ++ r' → l = l' ∧ r = r' := fun l l' f1 f2 ih e => by
    simp only [List.cons_append, List.append_assoc, List.cons.injEq, true_and, List.nil_append] at e
    exact Qpw l ih true l' r r' f1 f2 e
   rcases hcv.2 with ⟨rfl, a1, a2, a3⟩ | ⟨rfl, a1, a2⟩ | ⟨rfl, a1, a2, a3⟩ | ⟨rfl, _⟩ | ⟨rfl, a1, a2⟩ | ⟨rfl, a1, a2⟩
   ·obtain ⟨b1, b2, b3⟩ : (n' = 0 ∨ n' = 1) ∧ s' = [] ∧ l' = [] := by rcases hcw.2 with ⟨_, h⟩ | ⟨h, _⟩ | ⟨h, _⟩ | ⟨h, _⟩ | ⟨h, _⟩ | ⟨h, _⟩ <;> first | exact h | exact absurd h (by decide)
    subst a2; subst a3; subst b2; subst b3
    simp at q2
    refine ⟨?_, q2⟩
    rcases a1 with rfl | rfl <;> rcases b1 with rfl | rfl <;> first | rfl | exact absurd q1 (by decide)
   ·obtain ⟨b1, b2⟩ : s' = [] ∧ l' = [] := by rcases hcw.2 with ⟨h, _⟩ | ⟨_, h⟩ | ⟨h, _⟩ | ⟨h, _⟩ | ⟨h, _⟩ | ⟨h, _⟩ <;> first | exact h | exact absurd h (by decide)
    subst a1; subst a2; subst b1; subst b2
    simp at q2 q1
    exact ⟨by rw [Qs0 q1], q2⟩
   ·obtain ⟨_, b2, b3⟩ : numS s' = true ∧ n' = 0 ∧ l' = [] := by rcases hcw.2 with ⟨h, _⟩ | ⟨h, _⟩ | ⟨_, h⟩ | ⟨h, _⟩ | ⟨h, _⟩ | ⟨h, _⟩ <;> first | exact h | exact absurd h (by decide)
    subst a2; subst a3; subst b2; subst b3
    simp at q2 q1
    exact ⟨by rw [q1], q2⟩
   ·exact absurd rfl h4
   ·obtain ⟨b1, b2⟩ : n' = 0 ∧ s' = [] := by rcases hcw.2 with ⟨h, _⟩ | ⟨h, _⟩ | ⟨h, _⟩ | ⟨h, _⟩ | ⟨_, h⟩ | ⟨h, _⟩ <;> first | exact h | exact absurd h (by decide)
    subst a1; subst a2; subst b1; subst b2
    rw [if_pos (.inl rfl), if_pos (.inl rfl)] at q2
    obtain ⟨q3, q4⟩ := tails l l' hcv.1 hcw.1 ih q2
    exact ⟨by rw [q3], q4⟩
   ·obtain ⟨b1, _⟩ : n' = 0 ∧ namesS s' = true := by rcases hcw.2 with ⟨h, _⟩ | ⟨h, _⟩ | ⟨h, _⟩ | ⟨h, _⟩ | ⟨h, _⟩ | ⟨_, h⟩ <;> first | exact h | exact absurd h (by decide)
    subst a1; subst b1
    simp only [show ¬ ((6 : Int) = 1) by decide, show ¬ ((6 : Int) = 2) by decide, show ¬ ((6 : Int) = 3) by decide, show ¬ ((6 : Int) = 5) by decide, if_false] at q1
    simp only [show ¬ ((6 : Int) = 5) by decide, false_or, true_and] at q2
    subst q1
    by_cases c1 : l.length = 0 <;> by_cases c2 : l'.length = 0
    ·rw [if_neg (by simpa using c1), if_neg (by simpa using c2)] at q2
     rw [List.length_eq_zero_iff.1 c1, List.length_eq_zero_iff.1 c2]
     exact ⟨rfl, q2⟩
    ·rw [if_neg (by simpa using c1), if_pos c2, List.nil_append] at q2
     exact absurd q2 hr.ne40
    ·rw [if_pos c1, if_neg (by simpa using c2), List.nil_append] at q2
     exact absurd q2.symm hr'.ne40
    ·rw [if_pos c1, if_pos c2] at q2
     obtain ⟨q3, q4⟩ := tails l l' hcv.1 hcw.1 ih q2
     exact ⟨by rw [q3], q4⟩
end
section
open Go Go.Proofs
section
variable {C : Ctx} {H : Heap} {T : TypeId}
/-- a builder lies first in what is of this type -/
def LiB (T : TypeId) : Prop := liesAt Tryz.prog Tryz.prog.depth T (2 / Tryz.prog.cellsOf T) 0 85 1 = true
theorem liB85 : LiB 85 := by unfold LiB; kernel_rfl
theorem liB87 : LiB 87 := by unfold LiB; kernel_rfl
theorem QlL {b : Nat} {p : Option (Nat × Nat)} {s : Sl} {K : Heap → Prop} (hb : H b = some (true, .trow T 0 [pv p, slv s])) (hp : p = none ∨ p = some (b, 0)) (hT : LiB T) (k : K (H.put b (.trow T 0 [pv (some (b, 0)), slv s]))) : QaS C (some (b, 0)) K H := by
 apply Qgd
 unfold Qdl
 refine ⟨_, rfl, p, by simp [rd, hb, GO.cells?], ?_⟩
 rcases hp with rfl | rfl
 ·exact QbT rfl ⟨(b, 0), rfl, ⟨true, _, 0, _, hb, by simp⟩, ⟨T, true, 0, _, hb, rfl, rfl, hT⟩, _, rfl, _, 0, _, hb, Nat.le_refl _, by simp, k⟩
 ·refine QbC rfl ⟨_, rfl, some (b, 0), by simp [rd, hb, GO.cells?], (b, 0), rfl, rfl, QbC rfl ?_⟩
  have : H.put b (.trow T 0 [pv (some (b, 0)), slv s]) = H := Heap.put_id hb
  rw [this] at k; exact k
theorem QtF {H : Heap} {b : Nat} {p : Option (Nat × Nat)} {s : Sl} {t : TypeId} (hb : H b = some (true, .trow t 0 [pv p, slv s])) : rd H (b, 0 + 1) = some (slv s) := by simp [rd, hb, GO.cells?]
theorem Qi4 {b : Nat} {bs : Str} {c : UInt8} {K : Value → Heap → Prop} (h : IsB T tyE H b bs) (hT : LiB T) (hl : bs.length + 1 ≤ 140737488355328) (k : K .nilIface (H.put b (.bld T tyE (bs ++ [c])))) : Qo C (some (b, 0)) (c.toNat : Int) K H := by
 apply Qo.gh
 refine h.open_ fun p s H' ho => ?_
 refine Qgc _ _ _ _ _ ?_
 unfold Qdk
 refine QlL ho.row ho.self hT ?_
 have ho2 := ho.setP (p2 := some (b, 0)) (.inr rfl)
 refine ⟨_, rfl, s, QtF ho2.row, ?_⟩
 refine ho2.apd (by obtain ⟨g, hg⟩ := h.some; exact ⟨_, hg⟩) (ys := [c]) (by simpa using hl) fun r H3 h3 hr => ?_
 exact ⟨_, rfl, _, 0, _, hr, Nat.zero_le _, by simp, _, Gh.hideB h3, k⟩
theorem Qj0 {b : Nat} {bs c : Str} {K : Int → Value → Heap → Prop} (h : IsB T tyE H b bs) (hT : LiB T) (hl : bs.length + c.length ≤ 140737488355328) (k : K (c.length : Int) .nilIface (H.put b (.bld T tyE (bs ++ c)))) : Qm C (some (b, 0)) c K H := by
 apply Qm.gh
 refine h.open_ fun p s H' ho => ?_
 refine Qfz _ _ _ _ _ ?_
 unfold QcE
 refine QlL ho.row ho.self hT ?_
 have ho2 := ho.setP (p2 := some (b, 0)) (.inr rfl)
 refine ⟨_, rfl, s, QtF ho2.row, ?_⟩
 refine ho2.apd (by obtain ⟨g, hg⟩ := h.some; exact ⟨_, hg⟩) (ys := c) hl fun r H3 h3 hr => ?_
 exact ⟨_, rfl, _, 0, _, hr, Nat.zero_le _, by simp, _, Gh.hideB h3, k⟩
theorem Qmv {b : Nat} {bs : Str} {K : Str → Heap → Prop} (h : IsB T tyE H b bs) (hT : LiB T) (hl : bs.length ≤ 9223372036854775807) (k : K bs (H.put b (.bld T tyE bs))) : QI C (some (b, 0)) K H := by
 apply QI.gh
 refine h.open_ fun p s H' ho => ?_
 refine Qha _ _ _ _ ?_
 unfold Qei
 obtain ⟨e1, e2, e3⟩ := ho.slen
 have hrd : rd (H'.hide s) (b, 0 + 1) = some (slv s) := by
  have : (H'.hide s) b = H' b := by
   unfold Heap.hide
   split
   ·rename_i q hq; rw [if_neg (fun e => ho.ne q hq e.symm)]
   ·rfl
  simp [rd, this, ho.row, GO.cells?]
 refine ⟨H'.hide s, Heap.hide_le _ _, _, rfl, s, hrd, ⟨e3, e2⟩, _, rfl, s, hrd, ?_⟩
 rcases ho.buf with ⟨rfl, rfl⟩ | ⟨g, kk, row, hg, rfl, hgr, hk, hr0, hrl, hcs⟩
 ·exact .inl ⟨rfl, Heap.hide_le _ _, _, Gh.hideB ho, k⟩
 ·by_cases h0 : bs = []
  ·subst h0
   exact .inl ⟨rfl, Heap.hide_le _ _, _, Gh.hideB ho, k⟩
  ·refine .inr ⟨g, kk, row, bs, rfl, hgr, rfl, h0, hl, hcs, fun x v hx => ?_, _, Gh.hideB (b := b) (T := T) (e := tyE) (bs := bs) (p := p) (s := ⟨some (g, 0), bs.length, row.length, none⟩) ?_, k⟩
   ·have hxg : x ≠ g := fun e => by subst e; simp [Heap.hide] at hx
    rw [Heap.put_ne _ _ _ hxg]; exact (Heap.hide_le _ _) _ _ hx
   ·refine ⟨ho.self, by rw [Heap.put_ne _ _ _ (Ne.symm hg)]; exact ho.row, .inr ⟨g, max kk bs.length, row, hg, rfl, Heap.put_same .., by omega, hr0, hrl, hcs⟩, ho.gnot, fun x v hx hv => ?_⟩
    have hxg : x ≠ g := fun e => by subst e; have := ho.gnot (x, 0) rfl; dsimp only at this; rw [this] at hv; cases hv
    rw [Heap.put_ne _ _ _ hxg]; exact ho.but x v hx hv
end
end
section
open Go Go.Proofs
section
variable {C : Ctx} {H : Heap}
theorem Qn8 {b : Bool} {K : Str → Heap → Prop} (k : K (if b then trueS else falseS) H) : Qd3 C b K H := by
 apply Qi5
 unfold QfJ
 apply Qfy
 unfold QcD
 cases b with
 | true => exact QbT rfl k
 | false => exact QbC rfl k
theorem hexS {k : Nat} (h : k < 16) : ([48, 49, 50, 51, 52, 53, 54, 55, 56, 57, 97, 98, 99, 100, 101, 102] : Str)[k]? = some (hexD k) := by
 have : ∀ k : Fin 16, ([48, 49, 50, 51, 52, 53, 54, 55, 56, 57, 97, 98, 99, 100, 101, 102] : Str)[k.val]? = some (hexD k.val) := by decide
 exact this ⟨k, h⟩
theorem shr4 : ∀ c : UInt8, sShr .u8 (c.toNat : Int) 4 = ((c.toNat / 16 : Nat) : Int) := by
 have : ∀ k : Fin 256, sShr .u8 (k.val : Int) 4 = ((k.val / 16 : Nat) : Int) := by decide +kernel
 exact fun c => this ⟨c.toNat, c.toNat_lt⟩
theorem and15 : ∀ c : UInt8, bAnd .u8 (c.toNat : Int) 15 = ((c.toNat % 16 : Nat) : Int) := by
 have : ∀ k : Fin 256, bAnd .u8 (k.val : Int) 15 = ((k.val % 16 : Nat) : Int) := by decide +kernel
 exact fun c => this ⟨c.toNat, c.toNat_lt⟩
/-- over A, of which b is not, the builder b holds bs -/
structure Wr (A B : Heap) (b : Nat) (bs : Str) : Prop where
 le : A.le B
 nb : A b = none
 bl : IsB tyB tyE B b bs
theorem Wr.byte {A B : Heap} {b : Nat} {bs : Str} {c : UInt8} {i : Int} {K : Value → Heap → Prop} (h : Wr A B b bs) (hi : i = (c.toNat : Int)) (hl : bs.length + 1 ≤ 140737488355328) (k : ∀ D, Wr A D b (bs ++ [c]) → K .nilIface D) : Qo C (some (b, 0)) i K B := by
 subst hi
 exact Qi4 h.bl liB85 hl (k _ ⟨h.le.put _ _ h.nb, h.nb, IsB.put⟩)
theorem Wr.str {A B : Heap} {b : Nat} {bs s : Str} {K : Int → Value → Heap → Prop} (h : Wr A B b bs) (hl : bs.length + s.length ≤ 140737488355328) (k : ∀ D, Wr A D b (bs ++ s) → K (s.length : Int) .nilIface D) : Qm C (some (b, 0)) s K B :=
 Qj0 h.bl liB85 hl (k _ ⟨h.le.put _ _ h.nb, h.nb, IsB.put⟩)
theorem Qsj (c : UInt8) : 1 ≤ (qC c).length ∧ (qC c).length ≤ 4 := by
 rcases Qmr c with ⟨_, e⟩ | ⟨_, e⟩ | ⟨_, e⟩ | ⟨_, _, e⟩ | e <;> rw [e] <;> simp
theorem Qs6 {A B : Heap} {b : Nat} {bs s : Str} {K : Heap → Prop} (h : Wr A B b bs) (hl : bs.length + (quoteS s).length ≤ 140737488355328) (k : ∀ D, Wr A D b (bs ++ quoteS s) → K D) : Qif C (some (b, 0)) s K B := by
 apply QnH
 unfold Qkz
 have hql : (quoteS s).length = (s.flatMap qC).length + 2 := by simp [quoteS]
 have hpre : ∀ i, ((s.take i).flatMap qC).length ≤ (s.flatMap qC).length := fun i => by
  have := congrArg List.length (congrArg (List.flatMap qC) (List.take_append_drop i s))
  rw [List.flatMap_append, List.length_append] at this; omega
 have hsl : s.length ≤ (s.flatMap qC).length := by
  clear hl k hql hpre
  induction s with
  | nil => exact Nat.le_refl _
  | cons c s ih =>
   have := (Qsj c).1
   rw [List.flatMap_cons, List.length_append, List.length_cons]; omega
 refine h.byte (c := 34) rfl (by omega) fun B1 h1 => ?_
 refine ⟨fun x D => ∃ i : Nat, x = (i : Int) ∧ i ≤ s.length ∧ Wr A D b (bs ++ [34] ++ (s.take i).flatMap qC), fun x _ => s.length - x.toNat, ⟨0, rfl, Nat.zero_le _, by simpa using h1⟩, ?_⟩
 rintro _ D ⟨i, rfl, hi, hw⟩
 refine ift.of (fun hlt => ?_) (fun hlt => ?_)
 ·have hlt : i < s.length := by have := of_decide_eq_true hlt; omega
  have hstep : (s.take (i + 1)).flatMap qC = (s.take i).flatMap qC ++ qC s[i] := by
   rw [List.take_add_one, List.getElem?_eq_getElem hlt, Option.toList_some, List.flatMap_append, List.flatMap_singleton]
  have hnl := hpre (i + 1)
  rw [hstep, List.length_append] at hnl
  have hcur : (bs ++ [34] ++ (s.take i).flatMap qC).length = bs.length + 1 + ((s.take i).flatMap qC).length := by simp only [List.length_append, List.length_singleton]
  refine ⟨fun _ E => Wr A E b (bs ++ [34] ++ (s.take (i + 1)).flatMap qC), ?_, ?_⟩
  ·refine ⟨s[i], by omega, by rw [Int.toNat_natCast]; exact List.getElem?_eq_getElem hlt, ?_⟩
   rw [hstep, ← List.append_assoc]
   generalize s[i] = c at *
   generalize bs ++ [34] ++ (s.take i).flatMap qC = cur at *
   have e34 : ((c.toNat : Int) == 34) = decide (c = 34) := by
    rw [Bool.eq_iff_iff, beq_iff_eq, decide_eq_true_iff]
    exact ⟨fun h => Qsz (by show c.toNat = 34; omega), fun h => by rw [h]; rfl⟩
   have e92 : ((c.toNat : Int) == 92) = decide (c = 92) := by
    rw [Bool.eq_iff_iff, beq_iff_eq, decide_eq_true_iff]
    exact ⟨fun h => Qsz (by show c.toNat = 92; omega), fun h => by rw [h]; rfl⟩
   have e10 : ((c.toNat : Int) == 10) = decide (c = 10) := by
    rw [Bool.eq_iff_iff, beq_iff_eq, decide_eq_true_iff]
    exact ⟨fun h => Qsz (by show c.toNat = 10; omega), fun h => by rw [h]; rfl⟩
   have e9 : ((c.toNat : Int) == 9) = decide (c = 9) := by
    rw [Bool.eq_iff_iff, beq_iff_eq, decide_eq_true_iff]
    exact ⟨fun h => Qsz (by show c.toNat = 9; omega), fun h => by rw [h]; rfl⟩
   rw [e34, e92, e10, e9]
   have hq4 := (Qsj c).2
   refine ift.of (fun c1 => ?_) (fun c1 => ?_)
   ·simp only [Bool.or_eq_true, decide_eq_true_eq] at c1
    have e : qC c = [92, c] := by unfold qC; rw [if_pos c1]
    rw [e] at hnl ⊢
    simp only [List.length_cons, List.length_nil] at hnl
    refine hw.byte (c := 92) rfl (by omega) fun D1 h2 => h2.byte (c := c) rfl (by simp; omega) fun D2 h3 => ?_
    simpa using h3
   simp only [Bool.or_eq_false_iff, decide_eq_false_iff_not] at c1
   have c1' : ¬ (c = 34 ∨ c = 92) := fun h => h.elim c1.1 c1.2
   refine ift.of (fun c2 => ?_) (fun c2 => ?_)
   ·have c2 := of_decide_eq_true c2
    have e : qC c = [92, 110] := by unfold qC; rw [if_neg c1', if_pos c2]
    rw [e] at hnl ⊢
    simp only [List.length_cons, List.length_nil] at hnl
    exact hw.str (s := [92, 110]) (by simp; omega) fun D1 h2 => h2
   have c2 := of_decide_eq_false c2
   refine ift.of (fun c3 => ?_) (fun c3 => ?_)
   ·have c3 := of_decide_eq_true c3
    have e : qC c = [92, 116] := by unfold qC; rw [if_neg c1', if_neg c2, if_pos c3]
    rw [e] at hnl ⊢
    simp only [List.length_cons, List.length_nil] at hnl
    exact hw.str (s := [92, 116]) (by simp; omega) fun D1 h2 => h2
   have c3 := of_decide_eq_false c3
   refine ift.of (fun c4 => ?_) (fun c4 => ?_)
   ·simp only [Bool.and_eq_true, decide_eq_true_eq] at c4
    have e : qC c = [c] := by unfold qC; rw [if_neg c1', if_neg c2, if_neg c3, if_pos (by omega)]
    rw [e] at hnl ⊢
    simp only [List.length_cons, List.length_nil] at hnl
    exact hw.byte (c := c) rfl (by omega) fun D1 h2 => h2
   ·simp only [Bool.and_eq_false_iff, decide_eq_false_iff_not] at c4
    have e : qC c = [92, 120, hexD (c.toNat / 16), hexD (c.toNat % 16)] := by unfold qC; rw [if_neg c1', if_neg c2, if_neg c3, if_neg (by omega)]
    rw [e] at hnl ⊢
    simp only [List.length_cons, List.length_nil] at hnl
    have hct := c.toNat_lt
    refine hw.str (s := [92, 120]) (by simp; omega) fun D1 h2 => ?_
    rw [shr4, and15]
    refine ⟨hexD (c.toNat / 16), by omega, by rw [Int.toNat_natCast]; exact hexS (by omega), ?_⟩
    refine h2.byte (c := hexD (c.toNat / 16)) rfl (by simp; omega) fun D2 h3 => ?_
    refine ⟨hexD (c.toNat % 16), by omega, by rw [Int.toNat_natCast]; exact hexS (by omega), ?_⟩
    refine h3.byte (c := hexD (c.toNat % 16)) rfl (by simp; omega) fun D3 h4 => ?_
    simpa using h4
  ·rintro _ E hE
   rw [QM (by omega) (by omega)]
   exact ⟨⟨i + 1, by omega, by omega, hE⟩, by first | omega | (dsimp only; omega)⟩
 ·have hie : i = s.length := by have := of_decide_eq_false hlt; omega
  rw [hie, List.take_length] at hw
  refine hw.byte (c := 34) rfl (by simp only [List.length_append, List.length_singleton]; omega) fun E hE => k E ?_
  simpa [quoteS] using hE
/-- the two closures, each in the other's cell -/
structure Clo (C : Ctx) (A : Heap) (b p q : Nat) : Prop where
 list : ∃ x, rd A (p, 0) = some x ∧ ∀ (t : Sl) (B : Heap) (Φ : Value → Heap → Prop), Qhk C t (b, 0) (q, 0) (fun D => Φ (.tuple #[]) D) B → callU Tryz.prog C x [slv t] B Φ
 show_ : ∃ x, rd A (q, 0) = some x ∧ ∀ (v : TV) (B : Heap) (Φ : Value → Heap → Prop), Qef C v (b, 0) (p, 0) (fun D => Φ (.tuple #[]) D) B → callU Tryz.prog C x [.agg (Qb.c v).toArray] B Φ
variable {A B : Heap} {b p q : Nat}
theorem Clo.le {A1 : Heap} (h : Clo C A b p q) (hle : A.le A1) : Clo C A1 b p q := by
 obtain ⟨⟨x, h1, h2⟩, y, h3, h4⟩ := h
 exact ⟨⟨x, Qp8 hle h1, h2⟩, y, Qp8 hle h3, h4⟩
theorem Wr.box {bs : Str} {b1 : Nat} {x : TV} (h : Wr A B b bs) (n1 : B b1 = none) :
 Wr (A.put b1 (.row (Qb.c x))) (B.put b1 (.row (Qb.c x))) b bs ∧ A.le (A.put b1 (.row (Qb.c x))) ∧ (A.put b1 (.row (Qb.c x))) b1 = some (true, .row (Qb.c x)) := by
 have hne : b ≠ b1 := fun e => by
  obtain ⟨g, hg⟩ := h.bl.some
  rw [e, n1] at hg; cases hg
 refine ⟨⟨fun z e hz => ?_, by rw [Heap.put_ne _ _ _ hne]; exact h.nb, h.bl.le (Heap.le_put n1)⟩, Heap.le_put (h.le.none n1), Heap.put_same ..⟩
 by_cases hzb : z = b1
 ·subst hzb; rw [Heap.put_same] at hz ⊢; exact hz
 ·rw [Heap.put_ne _ _ _ hzb] at hz ⊢; exact h.le _ _ hz
theorem Wr.base {A1 D : Heap} {bs : Str} (h : Wr A1 D b bs) (hle : A.le A1) : Wr A D b bs := ⟨hle.trans h.le, hle.none h.nb, h.bl⟩
theorem QqL (v : V) : showV v = if v.k = 1 then (if v.n = 1 then trueS else falseS) else if v.k = 2 then Lib.itoa v.n else if v.k = 3 then v.s ++ [98] else if v.k = 4 then quoteS v.s
 else if v.k = 5 then 40 :: (showR true v.l ++ [41]) else v.s ++ (if v.l.length = 0 then [] else 40 :: (showR true v.l ++ [41])) := by cases v; rfl
theorem QrY {l : List V} (ih : ∀ w ∈ l, ∀ {A B : Heap} {x : TV} {bs : Str} {K : Heap → Prop}, Clo C A b p q → VIs A w x → VB w → Wr A B b bs → bs.length + (showV w).length ≤ 140737488355328 → (∀ D, Wr A D b (bs ++ showV w) → K D) → Qef C x (b, 0) (p, 0) K B)
 {A B : Heap} {t : Sl} {bs : Str} {K : Heap → Prop} (hC : Clo C A b p q) (hv : VRow A t l) (hl0 : l.length ≤ 140737488355328) (hB : VBs l) (h : Wr A B b bs) (hl : bs.length + (showR true l).length + 2 ≤ 140737488355328)
 (k : ∀ D, Wr A D b (bs ++ (40 :: (showR true l ++ [41]))) → K D) : Qhk C t (b, 0) (q, 0) K B := by
 apply QmI
 unfold QjE
 refine h.byte (c := 40) rfl (by omega) fun B1 h1 => ?_
 rw [hv.len]
 refine ⟨fun x D => ∃ i : Nat, x = (i : Int) ∧ i ≤ l.length ∧ Wr A D b (bs ++ [40] ++ showR true (l.take i)), fun x _ => l.length - x.toNat, ⟨0, rfl, Nat.zero_le _, by simpa [showR] using h1⟩, ?_⟩
 rintro _ D ⟨i, rfl, hi, hw⟩
 refine ift.of (fun hlt => ?_) (fun hlt => ?_)
 ·have hlt : i < l.length := by have := of_decide_eq_true hlt; omega
  have hm := List.getElem_mem hlt
  have hst := Qra hlt
  have hpl := Qss l (i + 1)
  rw [hst] at hpl
  simp only [List.length_append] at hpl
  refine hv.ld hw.le rfl hlt fun x hx => ?_
  intro b14 n14
  refine ⟨_, Heap.put_same .., by simp [Qb.c], ?_⟩
  rw [Heap.put_put]
  have hc : splice (Qb.c Qb.zero) (b14, 0).2 (Qb.c x) = Qb.c x := rfl
  rw [hc]
  obtain ⟨w1, w2, w3⟩ := hw.box (x := x) n14
  refine ⟨fun _ E => Wr (A.put b14 (.row (Qb.c x))) E b (bs ++ [40] ++ showR true (l.take i) ++ (if i = 0 then [] else [44, 32])), ?_, ?_⟩
  ·refine ift.of (fun h0 => ?_) (fun h0 => ?_)
   ·have h0 : i ≠ 0 := by have := of_decide_eq_true h0; omega
    rw [if_neg h0] at hpl ⊢
    simp only [List.length_cons, List.length_nil] at hpl
    exact w1.str (s := [44, 32]) (by simp only [List.length_append, List.length_cons, List.length_nil]; omega) fun E hE => hE
   ·have h0 : i = 0 := by have := of_decide_eq_false h0; omega
    rw [if_pos h0, List.append_nil]; exact w1
  ·rintro _ E hE
   obtain ⟨y, y1, y2⟩ := (hC.le w2).show_
   refine ⟨y, Qp8 hE.le y1, bxV (hE.le _ _ w3) (y2 _ _ _ (ih _ hm (hC.le w2) (hx.le w2) (hB.mem hm) hE ?_ fun F hF => ⟨rfl, ?_⟩))⟩
   ·simp only [List.length_append, List.length_cons, List.length_nil]; omega
   ·rw [QM (by omega) (by omega)]
    refine ⟨⟨i + 1, by omega, by omega, ?_⟩, by first | omega | (dsimp only; omega)⟩
    rw [hst]
    have := hF.base w2
    simpa only [List.append_assoc] using this
 ·have hie : i = l.length := by have := of_decide_eq_false hlt; omega
  rw [hie, List.take_length] at hw
  refine hw.byte (c := 41) rfl (by simp only [List.length_append, List.length_cons, List.length_nil]; omega) fun E hE => k E ?_
  simpa only [List.append_assoc, List.cons_append, List.nil_append] using hE
theorem Qtf (hF : FmtC C) (v : V) : ∀ {A B : Heap} {x : TV} {bs : Str} {K : Heap → Prop}, Clo C A b p q → VIs A v x → VB v → Wr A B b bs → bs.length + (showV v).length ≤ 140737488355328 → (∀ D, Wr A D b (bs ++ showV v) → K D) → Qef C x (b, 0) (p, 0) K B := by
 refine V.rec_ (P := fun v => ∀ {A B : Heap} {x : TV} {bs : Str} {K : Heap → Prop}, Clo C A b p q → VIs A v x → VB v → Wr A B b bs → bs.length + (showV v).length ≤ 140737488355328 → (∀ D, Wr A D b (bs ++ showV v) → K D) → Qef C x (b, 0) (p, 0) K B) (fun v ih => ?_) v
 intro A B x bs K hC hv hB h hl k
 apply QmJ
 unfold QjF
 intro b1 n1
 obtain ⟨w1, w2, w3⟩ := h.box (x := x) n1
 have hv1 := Qfq.1 hv
 have hb1 := w1.le _ _ w3
 have k1 : ∀ D, Wr (A.put b1 (.row (Qb.c x))) D b (bs ++ showV v) → K D := fun D hD => k D (hD.base w2)
 rw [QqL] at hl k1
 have hC1 := hC.le w2
 have hrow := hv1.2.2.2.le w2
 generalize A.put b1 (.row (Qb.c x)) = A1 at *
 generalize B.put b1 (.row (Qb.c x)) = B1 at *
 refine bxK hb1 ?_
 rw [hv1.1]
 refine ift.of (fun h1 => ?_) (fun h1 => ?_)
 ·have h1 : v.k = 1 := by simpa using h1
  rw [if_pos h1] at hl k1
  refine bxN hb1 (Qn8 ?_)
  rw [hv1.2.1]
  have e : (if (v.n == 1) = true then trueS else falseS) = (if v.n = 1 then trueS else falseS) := by simp
  rw [e]
  exact w1.str hl k1
 have h1 : v.k ≠ 1 := by simpa using h1
 rw [if_neg h1] at hl k1
 refine ift.of (fun h2 => ?_) (fun h2 => ?_)
 ·have h2 : v.k = 2 := by simpa using h2
  rw [if_pos h2] at hl k1
  refine bxN hb1 ?_
  rw [hv1.2.1]
  exact hF.ok hB.n.1 hB.n.2 (w1.str hl k1)
 have h2 : v.k ≠ 2 := by simpa using h2
 rw [if_neg h2] at hl k1
 refine ift.of (fun h3 => ?_) (fun h3 => ?_)
 ·have h3 : v.k = 3 := by simpa using h3
  rw [if_pos h3] at hl k1
  simp only [List.length_append, List.length_cons, List.length_nil] at hl
  refine bxS hb1 ?_
  rw [hv1.2.2.1]
  refine w1.str (by omega) fun D hD => hD.byte (c := 98) rfl (by rw [List.length_append]; omega) fun E hE => k1 E ?_
  simpa only [List.append_assoc] using hE
 have h3 : v.k ≠ 3 := by simpa using h3
 rw [if_neg h3] at hl k1
 refine ift.of (fun h4 => ?_) (fun h4 => ?_)
 ·have h4 : v.k = 4 := by simpa using h4
  rw [if_pos h4] at hl k1
  refine bxS hb1 ?_
  rw [hv1.2.2.1]
  exact Qs6 w1 hl k1
 have h4 : v.k ≠ 4 := by simpa using h4
 rw [if_neg h4] at hl k1
 obtain ⟨y, y1, y2⟩ := hC1.list
 refine ift.of (fun h5 => ?_) (fun h5 => ?_)
 ·have h5 : v.k = 5 := by simpa using h5
  rw [if_pos h5] at hl k1
  simp only [List.length_append, List.length_cons, List.length_nil] at hl
  exact ⟨y, Qp8 w1.le y1, bxL hb1 (y2 _ _ _ (QrY ih hC1 hrow hB.l hB.ls w1 (by omega) fun D hD => ⟨rfl, k1 D hD⟩))⟩
 have h5 : v.k ≠ 5 := by simpa using h5
 rw [if_neg h5] at hl k1
 rw [List.length_append] at hl
 refine bxS hb1 ?_
 rw [hv1.2.2.1]
 refine w1.str (by omega) fun D hD => bxL (hD.le _ _ w3) ?_
 rw [hrow.len]
 refine ift.of (fun h6 => ?_) (fun h6 => ?_)
 ·have h6 : v.l.length ≠ 0 := by have := of_decide_eq_true h6; omega
  rw [if_neg h6] at hl k1
  simp only [List.length_append, List.length_cons, List.length_nil] at hl
  refine ⟨y, Qp8 hD.le y1, bxL (hD.le _ _ w3) (y2 _ _ _ (QrY ih hC1 hrow hB.l hB.ls hD (by rw [List.length_append]; omega) fun E hE => ⟨rfl, k1 E ?_⟩))⟩
  rw [← List.append_assoc]; exact hE
 ·have h6 : v.l.length = 0 := by have := of_decide_eq_false h6; omega
  rw [if_pos h6] at k1
  rw [List.append_nil] at k1
  exact k1 D hD
/-- the text of a value that may be -/
theorem QtS (hF : FmtC C) {v : V} {x : TV} {K : Str → Heap → Prop} (hv : VIs H v x) (hB : VB v) (hl : mayV v = true → (showV v).length ≤ 140737488355328) (k : ∀ H2, H.le H2 → K (if mayV v then showV v else []) H2) : Qje C x K H := by
 apply Qoj
 unfold Qlr
 intro b1 n1
 have hle1 := Heap.le_put n1 (g := .row (Qb.c x)) (m := true)
 have hb1 : (H.put b1 (.row (Qb.c x))) b1 = some (true, .row (Qb.c x)) := Heap.put_same ..
 have hv1 := hv.le hle1
 generalize H.put b1 (.row (Qb.c x)) = H1 at *
 refine bxV hb1 (QkA hv1 hB ?_)
 rw [bne, Qs3]
 refine ift.of (fun h => ?_) (fun h => ?_)
 ·have h : mayV v = false := by simpa using h
  have := k H1 hle1
  rw [h] at this; exact this
 have h : mayV v = true := by simpa using h
 intro b8 n8 b10 n10 b12 n12
 have l8 := Heap.le_put n8 (g := .trow tyB 0 [pv none, slv Sl.nil]) (m := true)
 have ne1 : b8 ≠ b10 := fun e => by rw [e, Heap.put_same] at n10; cases n10
 have ne2 : b8 ≠ b12 := fun e => by rw [← e, Heap.put_ne _ _ _ ne1, Heap.put_same] at n12; cases n12
 have ne3 : b10 ≠ b12 := fun e => by rw [e, Heap.put_same] at n12; cases n12
 refine ⟨[.nilFunc], Heap.put_same .., Nat.zero_lt_one, ?_⟩
 refine ⟨[.nilFunc], ?_, Nat.zero_lt_one, ?_⟩
 ·show ((((H1.put b8 _).put b10 _).put b12 _).put b12 _) b10 = _
  rw [Heap.put_ne _ _ _ ne3, Heap.put_ne _ _ _ ne3, Heap.put_same]
 generalize hf24 : Value.func (Fn.func _) (List.toArray []) (List.toArray [pv (some (b8, 0)), pv (some (b10, 0))]) = F24
 generalize hf27 : Value.func (Fn.func _) (List.toArray []) (List.toArray [pv (some (b8, 0)), pv (some (b12, 0))]) = F27
 simp only [List.set_cons_zero]
 have n10' : H1 b10 = none := l8.none n10
 have n12' : H1 b12 = none := (l8.trans (Heap.le_put n10)).none n12
 generalize hD0 : ((((H1.put b8 (.trow tyB 0 [pv none, slv Sl.nil])).put b10 (.row [.nilFunc])).put b12 (.row [.nilFunc])).put b12 (.row [F24])).put b10 (.row [F27]) = D0
 have d8 : D0 b8 = some (true, .trow tyB 0 [pv none, slv Sl.nil]) := by
  rw [← hD0, Heap.put_ne _ _ _ ne1, Heap.put_ne _ _ _ ne2, Heap.put_ne _ _ _ ne2, Heap.put_ne _ _ _ ne1, Heap.put_same]
 have d10 : D0 b10 = some (true, .row [F27]) := by rw [← hD0, Heap.put_same]
 have d12 : D0 b12 = some (true, .row [F24]) := by rw [← hD0, Heap.put_ne _ _ _ (Ne.symm ne3), Heap.put_same]
 have dle : H1.le D0 := fun z e hz => by
  have z8 : z ≠ b8 := fun e' => by rw [e', n8] at hz; cases hz
  have z10 : z ≠ b10 := fun e' => by rw [e', n10'] at hz; cases hz
  have z12 : z ≠ b12 := fun e' => by rw [e', n12'] at hz; cases hz
  rw [← hD0, Heap.put_ne _ _ _ z10, Heap.put_ne _ _ _ z12, Heap.put_ne _ _ _ z12, Heap.put_ne _ _ _ z10, Heap.put_ne _ _ _ z8]; exact hz
 clear hD0
 let A : Heap := D0.del b8
 have hA8 : A b8 = none := Heap.del_same ..
 have hAle : A.le D0 := Heap.del_le D0 b8
 have hHA : H1.le A := fun z e hz => by
  have z8 : z ≠ b8 := fun e' => by rw [e', n8] at hz; cases hz
  show D0.del b8 z = _
  rw [Heap.del_ne _ z8]; exact dle _ _ hz
 have hw : Wr A D0 b8 [] := ⟨hAle, hA8, .inr ⟨rfl, d8⟩⟩
 have a10 : A b10 = some (true, .row [F27]) := by show D0.del b8 b10 = _; rw [Heap.del_ne _ (Ne.symm ne1)]; exact d10
 have a12 : A b12 = some (true, .row [F24]) := by show D0.del b8 b12 = _; rw [Heap.del_ne _ (Ne.symm ne2)]; exact d12
 have hC : Clo C A b8 b12 b10 := by
  refine ⟨⟨F24, by simp [rd, a12, GO.cells?], fun t B Φ hh => ?_⟩, F27, by simp [rd, a10, GO.cells?], fun w B Φ hh => ?_⟩
  ·exact ⟨_, [], _, hf24.symm, Qm9, Spec.mono hh fun u B2 ⟨e, h2⟩ => by rw [e]; exact h2⟩
  ·exact ⟨_, [], _, hf27.symm, Qna, Spec.mono hh fun u B2 ⟨e, h2⟩ => by rw [e]; exact h2⟩
 obtain ⟨y, y1, y2⟩ := hC.show_
 refine ⟨y, Qp8 hAle y1, bxV (dle _ _ hb1) (y2 _ _ _ (Qtf hF v (bs := []) hC (hv1.le hHA) hB hw (by simpa using hl h) fun D hD => ⟨rfl, ?_⟩))⟩
 refine Qmv hD.bl liB85 (by rw [List.nil_append]; have := hl h; omega) ?_
 have := k (D.put b8 (Bd ([] ++ showV v))) ((hle1.trans hHA).trans (hD.le.put _ _ hA8))
 rw [h] at this
 exact this
end
theorem Qq7 (s : Str) : (quoteS s).length ≤ 4 * s.length + 2 := by
 have : (s.flatMap qC).length ≤ 4 * s.length := by
  induction s with
  | nil => exact Nat.le_refl _
  | cons c s ih =>
   have := (Qsj c).2
   rw [List.flatMap_cons, List.length_append, List.length_cons]; omega
 simp only [quoteS, List.length_cons, List.length_append, List.length_nil]; omega
theorem Qpx : ∀ (l : List V) (f : Bool), (∀ v ∈ l, (showV v).length + 2 ≤ 17000 * vsize v) → (showR f l).length ≤ 17000 * vsizes l
 | [], f, _ => by simp [showR]
 | v :: l, f, h => by
  have h1 := h v (List.mem_cons_self ..)
  have h2 := Qpx l false fun w hw => h w (List.mem_cons_of_mem _ hw)
  simp only [showR, vsizes, List.length_append]
  have h3 : (if f = true then ([] : Str) else [44, 32]).length ≤ 2 := by cases f <;> simp
  omega
theorem Qst (v : V) : VB v → formV v = true → fitsV v = true → (showV v).length + 2 ≤ 17000 * vsize v := by
 refine V.rec_ (P := fun v => VB v → formV v = true → fitsV v = true → (showV v).length + 2 ≤ 17000 * vsize v) (fun v ih => ?_) v
 intro hB hf hfit
 have hsz : vsize v = vsizes v.l + 1 := by cases v; rfl
 obtain ⟨hfs, hc⟩ := QgV hf
 rw [Qqu, Bool.and_eq_true] at hfit
 have fm : ∀ {l : List V} {w : V}, w ∈ l → fitsVs l = true → fitsV w = true := by
  intro l
  induction l with
  | nil => intro w hw; cases hw
  | cons x l ihl =>
   intro w hw hl
   simp only [fitsVs, Bool.and_eq_true] at hl
   rcases List.mem_cons.1 hw with rfl | hw
   ·exact hl.1
   ·exact ihl hw hl.2
 have hR := Qpx v.l true fun w hw => ih w hw (hB.ls.mem hw) (Qq0 hw hfs) (fm hw hfit.2)
 have hfN := hfit.1
 rw [QqL, hsz]
 unfold fitN at hfN
 rcases hc with ⟨h, _⟩ | ⟨h, _⟩ | ⟨h, hn, _⟩ | ⟨h, _⟩ | ⟨h, _⟩ | ⟨h, _, hn⟩
 ·rw [if_pos h]
  have : (if v.n = 1 then trueS else falseS).length ≤ 5 := by split <;> decide
  omega
 ·rw [if_neg (by omega), if_pos h]
  have := Lib.itoa_length_le v.n hB.n.1 hB.n.2
  omega
 ·rw [if_neg (by omega), if_neg (by omega), if_pos h]
  rw [if_pos h] at hfN
  have hd := of_decide_eq_true hfN
  have := (QjL hn).2.2
  rw [List.length_append, List.length_singleton]; omega
 ·rw [if_neg (by omega), if_neg (by omega), if_neg (by omega), if_pos h]
  rw [if_neg (by omega), if_pos h] at hfN
  have hd := of_decide_eq_true hfN
  have := Qq7 v.s
  omega
 ·rw [if_neg (by omega), if_neg (by omega), if_neg (by omega), if_neg (by omega), if_pos h]
  simp only [List.length_cons, List.length_append, List.length_nil]; omega
 ·rw [if_neg (by omega), if_neg (by omega), if_neg (by omega), if_neg (by omega), if_neg (by omega)]
  have := (Qji hn).2.2.2.1
  have h2 : (if v.l.length = 0 then ([] : Str) else 40 :: (showR true v.l ++ [41])).length ≤ (showR true v.l).length + 2 := by
   split
   ·exact Nat.zero_le _
   ·simp
  rw [List.length_append]; omega
end
section
open Go
inductive TyV where
 | mk (n : Str) (a : List TyV)
inductive ExV where
 | mk (k : Int) (n : Str) (v : V) (a : List ExV)
structure LiV where
 k : Int
 r : Str
 a : List ExV
structure FdV where
 n : Str
 t : TyV
structure CnV where
 n : Str
 f : List FdV
structure TdV where
 p : Bool
 n : Str
 ps : List Str
 cs : List CnV
structure RdV where
 p : Bool
 i : Bool
 n : Str
 f : List FdV
structure RuV where
 r : Str
 a : List ExV
 g : List Str
 b : List LiV
structure NeV where
 n : Str
 b : List LiV
structure MoV where
 n : Str
 im : List Str
 ty : List TdV
 re : List RdV
 ru : List RuV
 ne : List NeV
def TyV.n : TyV → Str | .mk n _ => n
def TyV.a : TyV → List TyV | .mk _ a => a
def ExV.k : ExV → Int | .mk k _ _ _ => k
def ExV.n : ExV → Str | .mk _ n _ _ => n
def ExV.v : ExV → V | .mk _ _ v _ => v
def ExV.a : ExV → List ExV | .mk _ _ _ a => a
theorem TyV.rec_ {P : TyV → Prop} (h : ∀ v, (∀ w ∈ v.a, P w) → P v) : ∀ v, P v
 | .mk n a => h _ fun w hw => by
  have : sizeOf w < sizeOf a := List.sizeOf_lt_of_mem hw
  exact TyV.rec_ h w
termination_by v => sizeOf v
decreasing_by simp_wf; have : sizeOf w < sizeOf a := List.sizeOf_lt_of_mem hw; omega
theorem ExV.rec_ {P : ExV → Prop} (h : ∀ v, (∀ w ∈ v.a, P w) → P v) : ∀ v, P v
 | .mk k n u a => h _ fun w hw => by
  have : sizeOf w < sizeOf a := List.sizeOf_lt_of_mem hw
  exact ExV.rec_ h w
termination_by v => sizeOf v
decreasing_by simp_wf; have : sizeOf w < sizeOf a := List.sizeOf_lt_of_mem hw; omega
end
section
open Go Go.Proofs
/-- a text of what came in: not too long -/
def Nm (x n : Str) : Prop := x = n ∧ n.length ≤ 140737488355328
/-- a list in memory -/
def SlIs {α β : Type} (R : α → β → Prop) (c : β → List Value) (A : Heap) (s : Sl) (l : List α) : Prop :=
 ∃ xs : List β, rdsl A s (xs.flatMap c) ∧ s.len = xs.length ∧ l.length = xs.length ∧ l.length ≤ 140737488355328 ∧ ∀ (i : Nat) (v : α) (x : β), l[i]? = some v → xs[i]? = some x → R v x
mutual
def TyIs (H : Heap) : TyV → Qf → Prop
 | .mk n a, x => Nm x.Name n ∧ ∃ xs : List Qf, rdsl H x.Args (xs.flatMap Qf.c) ∧ x.Args.len = xs.length ∧ a.length ≤ 140737488355328 ∧ TysAre H a xs
def TysAre (H : Heap) : List TyV → List Qf → Prop
 | [], [] => True
 | v :: l, x :: xs => TyIs H v x ∧ TysAre H l xs
 | [], _ :: _ => False
 | _ :: _, [] => False
end
mutual
def ExIs (H : Heap) : ExV → Qa → Prop
 | .mk k n v a, x => x.Kind = k ∧ Nm x.Name n ∧ VIs H v x.Value_ ∧ VB v ∧ ∃ xs : List Qa, rdsl H x.Args (xs.flatMap Qa.c) ∧ x.Args.len = xs.length ∧ a.length ≤ 140737488355328 ∧ ExsAre H a xs
def ExsAre (H : Heap) : List ExV → List Qa → Prop
 | [], [] => True
 | v :: l, x :: xs => ExIs H v x ∧ ExsAre H l xs
 | [], _ :: _ => False
 | _ :: _, [] => False
end
theorem TysAre.iff {H : Heap} : ∀ {l : List TyV} {xs : List Qf}, TysAre H l xs ↔ l.length = xs.length ∧ ∀ (i : Nat) (v : TyV) (x : Qf), l[i]? = some v → xs[i]? = some x → TyIs H v x
 | [], [] => by simp [TysAre]
 | [], _ :: _ => by simp [TysAre]
 | _ :: _, [] => by simp [TysAre]
 | v :: l, x :: xs => by
  simp only [TysAre, TysAre.iff (l := l) (xs := xs), List.length_cons]
  constructor
  ·rintro ⟨h1, h2, h3⟩
   refine ⟨by omega, fun i v' x' hv hx => ?_⟩
   cases i with
   | zero => simp at hv hx; subst hv; subst hx; exact h1
   | succ i => exact h3 i v' x' (by simpa using hv) (by simpa using hx)
  ·rintro ⟨h1, h2⟩
   exact ⟨h2 0 v x rfl rfl, by omega, fun i v' x' hv hx => h2 (i + 1) v' x' (by simpa using hv) (by simpa using hx)⟩
theorem ExsAre.iff {H : Heap} : ∀ {l : List ExV} {xs : List Qa}, ExsAre H l xs ↔ l.length = xs.length ∧ ∀ (i : Nat) (v : ExV) (x : Qa), l[i]? = some v → xs[i]? = some x → ExIs H v x
 | [], [] => by simp [ExsAre]
 | [], _ :: _ => by simp [ExsAre]
 | _ :: _, [] => by simp [ExsAre]
 | v :: l, x :: xs => by
  simp only [ExsAre, ExsAre.iff (l := l) (xs := xs), List.length_cons]
  constructor
  ·rintro ⟨h1, h2, h3⟩
   refine ⟨by omega, fun i v' x' hv hx => ?_⟩
   cases i with
   | zero => simp at hv hx; subst hv; subst hx; exact h1
   | succ i => exact h3 i v' x' (by simpa using hv) (by simpa using hx)
  ·rintro ⟨h1, h2⟩
   exact ⟨h2 0 v x rfl rfl, by omega, fun i v' x' hv hx => h2 (i + 1) v' x' (by simpa using hv) (by simpa using hx)⟩
abbrev TyL (A : Heap) := SlIs (TyIs A) Qf.c A
abbrev ExL (A : Heap) := SlIs (ExIs A) Qa.c A
theorem Qeq {H : Heap} {v : TyV} {x : Qf} : TyIs H v x ↔ Nm x.Name v.n ∧ TyL H x.Args v.a := by
 obtain ⟨n, a⟩ := v
 simp only [TyIs, TyV.n, TyV.a, TyL, SlIs, TysAre.iff]
 constructor
 ·rintro ⟨h1, xs, h2, h3, h4, h5, h6⟩; exact ⟨h1, xs, h2, h3, h5, h4, h6⟩
 ·rintro ⟨h1, xs, h2, h3, h5, h4, h6⟩; exact ⟨h1, xs, h2, h3, h4, h5, h6⟩
theorem Qa6 {H : Heap} {v : ExV} {x : Qa} : ExIs H v x ↔ x.Kind = v.k ∧ Nm x.Name v.n ∧ VIs H v.v x.Value_ ∧ VB v.v ∧ ExL H x.Args v.a := by
 obtain ⟨k, n, u, a⟩ := v
 simp only [ExIs, ExV.k, ExV.n, ExV.v, ExV.a, ExL, SlIs, ExsAre.iff]
 constructor
 ·rintro ⟨h1, h2, h3, h4, xs, h5, h6, h7, h8, h9⟩; exact ⟨h1, h2, h3, h4, xs, h5, h6, h8, h7, h9⟩
 ·rintro ⟨h1, h2, h3, h4, xs, h5, h6, h8, h7, h9⟩; exact ⟨h1, h2, h3, h4, xs, h5, h6, h7, h8, h9⟩
def StL (A : Heap) : Sl → List Str → Prop := SlIs (fun (v : Str) (x : Str) => Nm x v) (fun x => [sv x]) A
def FdIs (A : Heap) (v : FdV) (x : Qc) : Prop := Nm x.Name v.n ∧ TyIs A v.t x.Type_
abbrev FdL (A : Heap) := SlIs (FdIs A) Qc.c A
def CnIs (A : Heap) (v : CnV) (x : Qe) : Prop := Nm x.Name v.n ∧ FdL A x.Fields v.f
abbrev CnL (A : Heap) := SlIs (CnIs A) Qe.c A
def TdIs (A : Heap) (v : TdV) (x : Qg) : Prop := x.Pub = v.p ∧ Nm x.Name v.n ∧ StL A x.Params v.ps ∧ CnL A x.Cons v.cs
abbrev TdL (A : Heap) := SlIs (TdIs A) Qg.c A
def RdIs (A : Heap) (v : RdV) (x : Qh) : Prop := x.Pub = v.p ∧ x.Input = v.i ∧ Nm x.Name v.n ∧ FdL A x.Fields v.f
abbrev RdL (A : Heap) := SlIs (RdIs A) Qh.c A
def LiIs (A : Heap) (v : LiV) (x : Qd) : Prop := x.Kind = v.k ∧ Nm x.Rel v.r ∧ ExL A x.Args v.a
abbrev LiL (A : Heap) := SlIs (LiIs A) Qd.c A
def RuIs (A : Heap) (v : RuV) (x : Qk) : Prop := Nm x.Rel v.r ∧ ExL A x.Args v.a ∧ StL A x.Aggs v.g ∧ LiL A x.Body v.b
abbrev RuL (A : Heap) := SlIs (RuIs A) Qk.c A
def NeIs (A : Heap) (v : NeV) (x : Qj) : Prop := Nm x.Name v.n ∧ LiL A x.Body v.b
abbrev NeL (A : Heap) := SlIs (NeIs A) Qj.c A
def ImIs (v : Str) (x : Ql) : Prop := Nm x.Name v
abbrev ImL (A : Heap) := SlIs ImIs Ql.c A
def MoIs (A : Heap) (v : MoV) (x : Qi) : Prop := Nm x.Name v.n ∧ ImL A x.Imports v.im ∧ TdL A x.Types v.ty ∧ RdL A x.Rels v.re ∧ RuL A x.Rules v.ru ∧ NeL A x.Nevers v.ne
section
variable {α β : Type} {R : α → β → Prop} {c : β → List Value} {A H : Heap} {s : Sl} {l : List α}
theorem SlIs.len (h : SlIs R c A s l) : s.len = l.length := by obtain ⟨xs, h1, h2, h3, _⟩ := h; omega
theorem SlIs.bd (h : SlIs R c A s l) : l.length ≤ 140737488355328 := by obtain ⟨xs, h1, h2, h3, h4, _⟩ := h; exact h4
theorem SlIs.at_ (h : SlIs R c A s l) (hle : A.le H) {z : Nat} (hz : ∀ x, (c x).length = z) (hz0 : 0 < z) {i : Nat} {x : Int} {K : Nat × Nat → Prop} (hx : x = i) (hi : i < l.length) (k : ∀ p y, R l[i] y → (∀ j v, (c y)[j]? = some v → rd H (p.1, p.2 + x.toNat * z + j) = some v) → K p) : ixa s x K := by
 obtain ⟨xs, h1, h2, h3, _, h4⟩ := h
 have hi2 : i < xs.length := by omega
 have hg := List.getElem?_eq_getElem hi2
 subst hx
 refine QtA (QkO hle h1) (by omega) (by omega) (fun e => ?_) fun p _ hp => k p xs[i] (h4 i _ _ (List.getElem?_eq_getElem hi) hg) fun j v hj => ?_
 ·have := Qk5 c z hz xs i _ hg 0 ((c xs[i])[0]'(by rw [hz]; exact hz0)) (by rw [List.getElem?_eq_getElem])
  rw [e] at this; simp at this
 ·have := QoM hp _ _ (Qk5 c z hz xs i _ hg j v hj)
  have e0 : (i : Int).toNat = i := by omega
  rw [e0, Nat.add_assoc]; exact this
theorem SlIs.ld (h : SlIs R c A s l) (hle : A.le H) {z : Nat} (hz : ∀ x, (c x).length = z) (hz0 : 0 < z) {i : Nat} {x : Int} {K : β → Prop} (hx : x = i) (hi : i < l.length) (k : ∀ y, R l[i] y → K y) : ixa s x fun p => ldT H c (p.1, p.2 + x.toNat * z) K :=
 h.at_ hle hz hz0 hx hi fun p y hy hr => ⟨y, QlR fun j v hj => hr j v hj, k y hy⟩
/-- all so far alike -/
theorem Qfv {l m : List α} {i : Nat} (h1 : i < l.length) (h2 : i < m.length) (h : l.take i = m.take i) (he : l[i] = m[i]) : l.take (i + 1) = m.take (i + 1) := by
 rw [List.take_add_one, List.take_add_one, h, List.getElem?_eq_getElem h1, List.getElem?_eq_getElem h2, he]
theorem QhI {l m : List α} {i : Nat} (h1 : i < l.length) (h2 : i < m.length) (he : l[i] ≠ m[i]) : l ≠ m := fun e => by subst e; exact he rfl
theorem QdW {l m : List α} {i : Nat} (h1 : i = l.length) (h2 : l.length = m.length) (h : l.take i = m.take i) : l = m := by
 rw [h1, List.take_length, h2, List.take_length] at h; exact h
end
section
variable {α β : Type} {R R2 : α → β → Prop} {c : β → List Value} {A B : Heap} {s : Sl} {l : List α}
theorem SlIs.le (hle : A.le B) (h : SlIs R c A s l) (hR : ∀ v ∈ l, ∀ x, R v x → R2 v x) : SlIs R2 c B s l := by
 obtain ⟨xs, h1, h2, h3, h4, h5⟩ := h
 exact ⟨xs, QkO hle h1, h2, h3, h4, fun i v x hv hx => hR v (List.mem_of_getElem? hv) x (h5 i v x hv hx)⟩
end
theorem TyIs.le {A B : Heap} (hle : A.le B) : ∀ v : TyV, ∀ x, TyIs A v x → TyIs B v x := by
 refine TyV.rec_ fun v ih x h => ?_
 rw [Qeq] at h ⊢
 exact ⟨h.1, h.2.le hle ih⟩
theorem ExIs.le {A B : Heap} (hle : A.le B) : ∀ v : ExV, ∀ x, ExIs A v x → ExIs B v x := by
 refine ExV.rec_ fun v ih x h => ?_
 rw [Qa6] at h ⊢
 exact ⟨h.1, h.2.1, h.2.2.1.le hle, h.2.2.2.1, h.2.2.2.2.le hle ih⟩
section
variable {A B : Heap} (hle : A.le B)
include hle
theorem StL.le {s : Sl} {l : List Str} (h : StL A s l) : StL B s l := SlIs.le hle h fun _ _ _ h => h
theorem FdIs.le {v : FdV} {x} (h : FdIs A v x) : FdIs B v x := ⟨h.1, TyIs.le hle _ _ h.2⟩
theorem CnIs.le {v : CnV} {x} (h : CnIs A v x) : CnIs B v x := ⟨h.1, h.2.le hle fun _ _ _ h => FdIs.le hle h⟩
theorem TdIs.le {v : TdV} {x} (h : TdIs A v x) : TdIs B v x := ⟨h.1, h.2.1, StL.le hle h.2.2.1, h.2.2.2.le hle fun _ _ _ h => CnIs.le hle h⟩
theorem RdIs.le {v : RdV} {x} (h : RdIs A v x) : RdIs B v x := ⟨h.1, h.2.1, h.2.2.1, h.2.2.2.le hle fun _ _ _ h => FdIs.le hle h⟩
theorem LiIs.le {v : LiV} {x} (h : LiIs A v x) : LiIs B v x := ⟨h.1, h.2.1, h.2.2.le hle fun v _ x h => ExIs.le hle v x h⟩
theorem RuIs.le {v : RuV} {x} (h : RuIs A v x) : RuIs B v x := ⟨h.1, h.2.1.le hle fun v _ x h => ExIs.le hle v x h, StL.le hle h.2.2.1, h.2.2.2.le hle fun _ _ _ h => LiIs.le hle h⟩
theorem NeIs.le {v : NeV} {x} (h : NeIs A v x) : NeIs B v x := ⟨h.1, h.2.le hle fun _ _ _ h => LiIs.le hle h⟩
theorem MoIs.le {v : MoV} {x} (h : MoIs A v x) : MoIs B v x := ⟨h.1, h.2.1.le hle fun _ _ _ h => h, h.2.2.1.le hle fun _ _ _ h => TdIs.le hle h, h.2.2.2.1.le hle fun _ _ _ h => RdIs.le hle h, h.2.2.2.2.1.le hle fun _ _ _ h => RuIs.le hle h, h.2.2.2.2.2.le hle fun _ _ _ h => NeIs.le hle h⟩
end
end
section
open Go Go.Proofs
open Classical in
noncomputable def sm {α : Type} (v w : α) : Bool := decide (v = w)
theorem sm_t {α : Type} {v w : α} : sm v w = true ↔ v = w := by unfold sm; simp
theorem QcF {α : Type} {v w : α} (h : v = w) : sm v w = true := sm_t.2 h
theorem QcZ {α : Type} {v w : α} (h : ¬ v = w) : sm v w = false := by
 cases hs : sm v w with
 | false => rfl
 | true => exact absurd (sm_t.1 hs) h
section
variable {C : Ctx} {H : Heap}
theorem box2 {cx cy : List Value} {K : Nat → Nat → Heap → Prop} (k : ∀ b1 b3 H4, H.le H4 → H4 b1 = some (true, .row cx) → H4 b3 = some (true, .row cy) → K b1 b3 H4) : nw cx (fun b1 H2 => nw cy (fun b3 H4 => K b1 b3 H4) H2) H := by
 intro b1 n1 b3 n3
 have ne : b1 ≠ b3 := fun e => by rw [e, Heap.put_same] at n3; cases n3
 exact k b1 b3 _ ((Heap.le_put n1).trans (Heap.le_put n3)) (by rw [Heap.put_ne _ _ _ ne, Heap.put_same]) (Heap.put_same ..)
theorem nwT {b : Nat} {cx c0 : List Value} {K : Heap → Prop} (hl : cx.length = c0.length) (k : K (H.put b (.row cx))) : stT (b, 0) cx K (H.put b (.row c0)) := by
 refine ⟨_, Heap.put_same .., by rw [hl]; simp, ?_⟩
 rw [Heap.put_put]
 have e : splice c0 (b, 0).2 cx = cx := by
  unfold splice
  rw [List.take_zero, List.nil_append, List.drop_of_length_le (by rw [hl]; simp), List.append_nil]
 rw [e]; exact k
theorem bxT {β : Type} {c : β → List Value} {b : Nat} {m : Bool} {x : β} {K : β → Prop} (h : H b = some (m, .row (c x))) (k : K x) : ldT H c (b, 0) K := ⟨x, Qhu h fun j v hj => by rw [Nat.zero_add]; exact hj, k⟩
theorem fS {b j : Nat} {m : Bool} {cs : List Value} {t : Str} {K : Str → Prop} (h : H b = some (m, .row cs)) (hj : cs[j]? = some (sv t)) (k : K t) : ldS H ((b, 0).1, (b, 0).2 + j) K := ⟨t, by rw [QbU h, Nat.zero_add]; exact hj, k⟩
theorem fI {b j : Nat} {m : Bool} {cs : List Value} {q : IntKind} {t : Int} {K : Int → Prop} (h : H b = some (m, .row cs)) (hj : cs[j]? = some (.int q t)) (k : K t) : ldI H q ((b, 0).1, (b, 0).2 + j) K := ⟨t, by rw [QbU h, Nat.zero_add]; exact hj, k⟩
theorem fB {b j : Nat} {m : Bool} {cs : List Value} {t : Bool} {K : Bool → Prop} (h : H b = some (m, .row cs)) (hj : cs[j]? = some (.bool t)) (k : K t) : ldB H ((b, 0).1, (b, 0).2 + j) K := ⟨t, by rw [QbU h, Nat.zero_add]; exact hj, k⟩
theorem fL {b j : Nat} {m : Bool} {cs : List Value} {t : Sl} {K : Sl → Prop} (h : H b = some (m, .row cs)) (hj : cs[j]? = some (slv t)) (k : K t) : ldL H ((b, 0).1, (b, 0).2 + j) K := ⟨t, by rw [QbU h, Nat.zero_add]; exact hj, k⟩
theorem fT {β : Type} {c : β → List Value} {b j : Nat} {m : Bool} {cs : List Value} {x : β} {K : β → Prop} (h : H b = some (m, .row cs)) (hj : ∀ i v, (c x)[i]? = some v → cs[j + i]? = some v) (k : K x) : ldT H c ((b, 0).1, (b, 0).2 + j) K := ⟨x, Qhu h fun i v hi => by rw [Nat.zero_add]; exact hj i v hi, k⟩
theorem cu {P : Program} {f : FuncId} {vs : List Value} {Φ : Value → Heap → Prop} (hok : CallOk P f) (h : Spec P C f vs H Φ) : callU P C (.func (.func f) (List.toArray []) (List.toArray [])) vs H Φ := ⟨f, [], [], rfl, hok, by simpa using h⟩
end
section
variable {α β : Type} {R : α → β → Prop} {c : β → List Value} {A H : Heap} {s : Sl} {l : List α} {z : Nat} {i j : Nat} {x : Int}
theorem SlIs.fS {K : Str → Prop} (h : SlIs R c A s l) (hle : A.le H) (hz : ∀ x, (c x).length = z) (hz0 : 0 < z) (hx : x = i) (hi : i < l.length) {f : β → Str} (hj : ∀ y, (c y)[j]? = some (sv (f y))) (k : ∀ y, R l[i] y → K (f y)) : ixa s x fun p => ldS H ((p.1, p.2 + x.toNat * z).1, (p.1, p.2 + x.toNat * z).2 + j) K :=
 h.at_ hle hz hz0 hx hi fun p y hy hr => ⟨f y, hr j _ (hj y), k y hy⟩
theorem SlIs.fI {q : IntKind} {K : Int → Prop} (h : SlIs R c A s l) (hle : A.le H) (hz : ∀ x, (c x).length = z) (hz0 : 0 < z) (hx : x = i) (hi : i < l.length) {f : β → Int} (hj : ∀ y, (c y)[j]? = some (.int q (f y))) (k : ∀ y, R l[i] y → K (f y)) : ixa s x fun p => ldI H q ((p.1, p.2 + x.toNat * z).1, (p.1, p.2 + x.toNat * z).2 + j) K :=
 h.at_ hle hz hz0 hx hi fun p y hy hr => ⟨f y, hr j _ (hj y), k y hy⟩
theorem SlIs.fL {K : Sl → Prop} (h : SlIs R c A s l) (hle : A.le H) (hz : ∀ x, (c x).length = z) (hz0 : 0 < z) (hx : x = i) (hi : i < l.length) {f : β → Sl} (hj : ∀ y, (c y)[j]? = some (slv (f y))) (k : ∀ y, R l[i] y → K (f y)) : ixa s x fun p => ldL H ((p.1, p.2 + x.toNat * z).1, (p.1, p.2 + x.toNat * z).2 + j) K :=
 h.at_ hle hz hz0 hx hi fun p y hy hr => ⟨f y, hr j _ (hj y), k y hy⟩
theorem SlIs.fT {γ : Type} {d : γ → List Value} {K : γ → Prop} (h : SlIs R c A s l) (hle : A.le H) (hz : ∀ x, (c x).length = z) (hz0 : 0 < z) (hx : x = i) (hi : i < l.length) {f : β → γ} (hj : ∀ y n v, (d (f y))[n]? = some v → (c y)[j + n]? = some v) (k : ∀ y, R l[i] y → K (f y)) : ixa s x fun p => ldT H d ((p.1, p.2 + x.toNat * z).1, (p.1, p.2 + x.toNat * z).2 + j) K :=
 h.at_ hle hz hz0 hx hi fun p y hy hr => ⟨f y, QlR fun n v hn => by
  have := hr (j + n) v (hj y n v hn)
  rw [← Nat.add_assoc] at this; exact this, k y hy⟩
end
section
variable {C : Ctx} {H : Heap}
theorem QjJ (x : Ql) : (Ql.c x).length = 3 := rfl
theorem QqQ {α : Type} {R : α → Ql → Prop} {A : Heap} {s t : Sl} {l m : List α} {e : Value} {K : Bool → Heap → Prop} (hs : SlIs R Ql.c A s l) (ht : SlIs R Ql.c A t m) (hA : A.le H)
 (he : ∀ (i : Nat) (h1 : i < l.length) (h2 : i < m.length) (x y : Ql) (D : Heap) (Φ : Bool → Heap → Prop), A.le D → R l[i] x → R m[i] y → Φ (sm l[i] m[i]) D → callU Tryz.prog C e [.agg (Ql.c x).toArray, .agg (Ql.c y).toArray] D (fun v H31 => ∃ r30 : Bool, v = .bool r30 ∧ Φ r30 H31))
 (k : K (sm l m) H) : Qw C s t e K H := by
 apply Qw.gh
 apply QaN
 unfold QW
 rw [hs.len, ht.len]
 refine ift.of (fun h => ?_) (fun h => ?_)
 ·have : l ≠ m := fun e => by subst e; simp at h
  rw [QcZ this] at k; exact ⟨H, Gh.refl _, k⟩
 have hl : l.length = m.length := Int.ofNat.inj (show (l.length : Int) = m.length by simpa using h)
 have hb := hs.bd
 refine ⟨fun x D => H.le D ∧ ∃ i : Nat, x = (i : Int) ∧ i ≤ l.length ∧ l.take i = m.take i, fun x _ => l.length - x.toNat, ⟨Heap.le.refl _, 0, rfl, Nat.zero_le _, rfl⟩, ?_⟩
 rintro _ D ⟨hD, i, rfl, hi, hq⟩
 refine ift.of (fun h => ?_) (fun h => ?_)
 ·have hlt : i < l.length := by have := of_decide_eq_true h; omega
  have hlt2 : i < m.length := by omega
  have hAD := hA.trans hD
  refine hs.ld hAD QjJ (by omega) rfl hlt fun x hx => ?_
  intro b13 n13
  refine nwT rfl ?_
  have l13 := Heap.le_put n13 (g := .row (Ql.c x)) (m := true)
  have h13 : (D.put b13 (.row (Ql.c x))) b13 = some (true, .row (Ql.c x)) := Heap.put_same ..
  generalize D.put b13 (.row (Ql.c x)) = D2 at *
  refine ht.ld (hAD.trans l13) QjJ (by omega) rfl hlt2 fun y hy => ?_
  intro b23 n23
  refine nwT rfl ?_
  have l23 := Heap.le_put n23 (g := .row (Ql.c y)) (m := true)
  have h23 : (D2.put b23 (.row (Ql.c y))) b23 = some (true, .row (Ql.c y)) := Heap.put_same ..
  have h13 := l23 _ _ h13
  generalize D2.put b23 (.row (Ql.c y)) = D3 at *
  have hle := (hD.trans l13).trans l23
  refine bxT h13 (bxT h23 (he i hlt hlt2 x y _ _ (hA.trans hle) hx hy ?_))
  by_cases hxy : l[i] = m[i]
  ·rw [QcF hxy]
   refine QbC rfl ?_
   rw [QM (by omega) (by omega)]
   exact ⟨⟨hle, i + 1, by omega, by omega, Qfv hlt hlt2 hq hxy⟩, by first | omega | (dsimp only; omega)⟩
  ·rw [QcZ hxy]
   rw [QcZ (QhI hlt hlt2 hxy)] at k
   exact QbT rfl ⟨H, Gh.le hle, k⟩
 ·have hie : i = l.length := by have := of_decide_eq_false h; omega
  rw [QcF (QdW hie hl hq)] at k
  exact ⟨H, Gh.le hD, k⟩
theorem QdC (x : Qg) : (Qg.c x).length = 6 := rfl
theorem QpM {α : Type} {R : α → Qg → Prop} {A : Heap} {s t : Sl} {l m : List α} {e : Value} {K : Bool → Heap → Prop} (hs : SlIs R Qg.c A s l) (ht : SlIs R Qg.c A t m) (hA : A.le H)
 (he : ∀ (i : Nat) (h1 : i < l.length) (h2 : i < m.length) (x y : Qg) (D : Heap) (Φ : Bool → Heap → Prop), A.le D → R l[i] x → R m[i] y → Φ (sm l[i] m[i]) D → callU Tryz.prog C e [.agg (Qg.c x).toArray, .agg (Qg.c y).toArray] D (fun v H31 => ∃ r30 : Bool, v = .bool r30 ∧ Φ r30 H31))
 (k : K (sm l m) H) : Qv C s t e K H := by
 apply Qv.gh
 apply QaB
 unfold QR
 rw [hs.len, ht.len]
 refine ift.of (fun h => ?_) (fun h => ?_)
 ·have : l ≠ m := fun e => by subst e; simp at h
  rw [QcZ this] at k; exact ⟨H, Gh.refl _, k⟩
 have hl : l.length = m.length := Int.ofNat.inj (show (l.length : Int) = m.length by simpa using h)
 have hb := hs.bd
 refine ⟨fun x D => H.le D ∧ ∃ i : Nat, x = (i : Int) ∧ i ≤ l.length ∧ l.take i = m.take i, fun x _ => l.length - x.toNat, ⟨Heap.le.refl _, 0, rfl, Nat.zero_le _, rfl⟩, ?_⟩
 rintro _ D ⟨hD, i, rfl, hi, hq⟩
 refine ift.of (fun h => ?_) (fun h => ?_)
 ·have hlt : i < l.length := by have := of_decide_eq_true h; omega
  have hlt2 : i < m.length := by omega
  have hAD := hA.trans hD
  refine hs.ld hAD QdC (by omega) rfl hlt fun x hx => ?_
  intro b13 n13
  refine nwT rfl ?_
  have l13 := Heap.le_put n13 (g := .row (Qg.c x)) (m := true)
  have h13 : (D.put b13 (.row (Qg.c x))) b13 = some (true, .row (Qg.c x)) := Heap.put_same ..
  generalize D.put b13 (.row (Qg.c x)) = D2 at *
  refine ht.ld (hAD.trans l13) QdC (by omega) rfl hlt2 fun y hy => ?_
  intro b23 n23
  refine nwT rfl ?_
  have l23 := Heap.le_put n23 (g := .row (Qg.c y)) (m := true)
  have h23 : (D2.put b23 (.row (Qg.c y))) b23 = some (true, .row (Qg.c y)) := Heap.put_same ..
  have h13 := l23 _ _ h13
  generalize D2.put b23 (.row (Qg.c y)) = D3 at *
  have hle := (hD.trans l13).trans l23
  refine bxT h13 (bxT h23 (he i hlt hlt2 x y _ _ (hA.trans hle) hx hy ?_))
  by_cases hxy : l[i] = m[i]
  ·rw [QcF hxy]
   refine QbC rfl ?_
   rw [QM (by omega) (by omega)]
   exact ⟨⟨hle, i + 1, by omega, by omega, Qfv hlt hlt2 hq hxy⟩, by first | omega | (dsimp only; omega)⟩
  ·rw [QcZ hxy]
   rw [QcZ (QhI hlt hlt2 hxy)] at k
   exact QbT rfl ⟨H, Gh.le hle, k⟩
 ·have hie : i = l.length := by have := of_decide_eq_false h; omega
  rw [QcF (QdW hie hl hq)] at k
  exact ⟨H, Gh.le hD, k⟩
theorem Qfu (x : Qe) : (Qe.c x).length = 2 := rfl
theorem QpK {α : Type} {R : α → Qe → Prop} {A : Heap} {s t : Sl} {l m : List α} {e : Value} {K : Bool → Heap → Prop} (hs : SlIs R Qe.c A s l) (ht : SlIs R Qe.c A t m) (hA : A.le H)
 (he : ∀ (i : Nat) (h1 : i < l.length) (h2 : i < m.length) (x y : Qe) (D : Heap) (Φ : Bool → Heap → Prop), A.le D → R l[i] x → R m[i] y → Φ (sm l[i] m[i]) D → callU Tryz.prog C e [.agg (Qe.c x).toArray, .agg (Qe.c y).toArray] D (fun v H31 => ∃ r30 : Bool, v = .bool r30 ∧ Φ r30 H31))
 (k : K (sm l m) H) : Qu C s t e K H := by
 apply Qu.gh
 apply Qaz
 unfold QP
 rw [hs.len, ht.len]
 refine ift.of (fun h => ?_) (fun h => ?_)
 ·have : l ≠ m := fun e => by subst e; simp at h
  rw [QcZ this] at k; exact ⟨H, Gh.refl _, k⟩
 have hl : l.length = m.length := Int.ofNat.inj (show (l.length : Int) = m.length by simpa using h)
 have hb := hs.bd
 refine ⟨fun x D => H.le D ∧ ∃ i : Nat, x = (i : Int) ∧ i ≤ l.length ∧ l.take i = m.take i, fun x _ => l.length - x.toNat, ⟨Heap.le.refl _, 0, rfl, Nat.zero_le _, rfl⟩, ?_⟩
 rintro _ D ⟨hD, i, rfl, hi, hq⟩
 refine ift.of (fun h => ?_) (fun h => ?_)
 ·have hlt : i < l.length := by have := of_decide_eq_true h; omega
  have hlt2 : i < m.length := by omega
  have hAD := hA.trans hD
  refine hs.ld hAD Qfu (by omega) rfl hlt fun x hx => ?_
  intro b13 n13
  refine nwT rfl ?_
  have l13 := Heap.le_put n13 (g := .row (Qe.c x)) (m := true)
  have h13 : (D.put b13 (.row (Qe.c x))) b13 = some (true, .row (Qe.c x)) := Heap.put_same ..
  generalize D.put b13 (.row (Qe.c x)) = D2 at *
  refine ht.ld (hAD.trans l13) Qfu (by omega) rfl hlt2 fun y hy => ?_
  intro b23 n23
  refine nwT rfl ?_
  have l23 := Heap.le_put n23 (g := .row (Qe.c y)) (m := true)
  have h23 : (D2.put b23 (.row (Qe.c y))) b23 = some (true, .row (Qe.c y)) := Heap.put_same ..
  have h13 := l23 _ _ h13
  generalize D2.put b23 (.row (Qe.c y)) = D3 at *
  have hle := (hD.trans l13).trans l23
  refine bxT h13 (bxT h23 (he i hlt hlt2 x y _ _ (hA.trans hle) hx hy ?_))
  by_cases hxy : l[i] = m[i]
  ·rw [QcF hxy]
   refine QbC rfl ?_
   rw [QM (by omega) (by omega)]
   exact ⟨⟨hle, i + 1, by omega, by omega, Qfv hlt hlt2 hq hxy⟩, by first | omega | (dsimp only; omega)⟩
  ·rw [QcZ hxy]
   rw [QcZ (QhI hlt hlt2 hxy)] at k
   exact QbT rfl ⟨H, Gh.le hle, k⟩
 ·have hie : i = l.length := by have := of_decide_eq_false h; omega
  rw [QcF (QdW hie hl hq)] at k
  exact ⟨H, Gh.le hD, k⟩
theorem QdB (x : Qc) : (Qc.c x).length = 3 := rfl
theorem QoS {α : Type} {R : α → Qc → Prop} {A : Heap} {s t : Sl} {l m : List α} {e : Value} {K : Bool → Heap → Prop} (hs : SlIs R Qc.c A s l) (ht : SlIs R Qc.c A t m) (hA : A.le H)
 (he : ∀ (i : Nat) (h1 : i < l.length) (h2 : i < m.length) (x y : Qc) (D : Heap) (Φ : Bool → Heap → Prop), A.le D → R l[i] x → R m[i] y → Φ (sm l[i] m[i]) D → callU Tryz.prog C e [.agg (Qc.c x).toArray, .agg (Qc.c y).toArray] D (fun v H31 => ∃ r30 : Bool, v = .bool r30 ∧ Φ r30 H31))
 (k : K (sm l m) H) : Qr C s t e K H := by
 apply Qr.gh
 apply Qaq
 unfold QL
 rw [hs.len, ht.len]
 refine ift.of (fun h => ?_) (fun h => ?_)
 ·have : l ≠ m := fun e => by subst e; simp at h
  rw [QcZ this] at k; exact ⟨H, Gh.refl _, k⟩
 have hl : l.length = m.length := Int.ofNat.inj (show (l.length : Int) = m.length by simpa using h)
 have hb := hs.bd
 refine ⟨fun x D => H.le D ∧ ∃ i : Nat, x = (i : Int) ∧ i ≤ l.length ∧ l.take i = m.take i, fun x _ => l.length - x.toNat, ⟨Heap.le.refl _, 0, rfl, Nat.zero_le _, rfl⟩, ?_⟩
 rintro _ D ⟨hD, i, rfl, hi, hq⟩
 refine ift.of (fun h => ?_) (fun h => ?_)
 ·have hlt : i < l.length := by have := of_decide_eq_true h; omega
  have hlt2 : i < m.length := by omega
  have hAD := hA.trans hD
  refine hs.ld hAD QdB (by omega) rfl hlt fun x hx => ?_
  intro b13 n13
  refine nwT rfl ?_
  have l13 := Heap.le_put n13 (g := .row (Qc.c x)) (m := true)
  have h13 : (D.put b13 (.row (Qc.c x))) b13 = some (true, .row (Qc.c x)) := Heap.put_same ..
  generalize D.put b13 (.row (Qc.c x)) = D2 at *
  refine ht.ld (hAD.trans l13) QdB (by omega) rfl hlt2 fun y hy => ?_
  intro b23 n23
  refine nwT rfl ?_
  have l23 := Heap.le_put n23 (g := .row (Qc.c y)) (m := true)
  have h23 : (D2.put b23 (.row (Qc.c y))) b23 = some (true, .row (Qc.c y)) := Heap.put_same ..
  have h13 := l23 _ _ h13
  generalize D2.put b23 (.row (Qc.c y)) = D3 at *
  have hle := (hD.trans l13).trans l23
  refine bxT h13 (bxT h23 (he i hlt hlt2 x y _ _ (hA.trans hle) hx hy ?_))
  by_cases hxy : l[i] = m[i]
  ·rw [QcF hxy]
   refine QbC rfl ?_
   rw [QM (by omega) (by omega)]
   exact ⟨⟨hle, i + 1, by omega, by omega, Qfv hlt hlt2 hq hxy⟩, by first | omega | (dsimp only; omega)⟩
  ·rw [QcZ hxy]
   rw [QcZ (QhI hlt hlt2 hxy)] at k
   exact QbT rfl ⟨H, Gh.le hle, k⟩
 ·have hie : i = l.length := by have := of_decide_eq_false h; omega
  rw [QcF (QdW hie hl hq)] at k
  exact ⟨H, Gh.le hD, k⟩
theorem Qgk (x : Qh) : (Qh.c x).length = 6 := rfl
theorem QqR {α : Type} {R : α → Qh → Prop} {A : Heap} {s t : Sl} {l m : List α} {e : Value} {K : Bool → Heap → Prop} (hs : SlIs R Qh.c A s l) (ht : SlIs R Qh.c A t m) (hA : A.le H)
 (he : ∀ (i : Nat) (h1 : i < l.length) (h2 : i < m.length) (x y : Qh) (D : Heap) (Φ : Bool → Heap → Prop), A.le D → R l[i] x → R m[i] y → Φ (sm l[i] m[i]) D → callU Tryz.prog C e [.agg (Qh.c x).toArray, .agg (Qh.c y).toArray] D (fun v H31 => ∃ r30 : Bool, v = .bool r30 ∧ Φ r30 H31))
 (k : K (sm l m) H) : Qx C s t e K H := by
 apply Qx.gh
 apply QaO
 unfold QX
 rw [hs.len, ht.len]
 refine ift.of (fun h => ?_) (fun h => ?_)
 ·have : l ≠ m := fun e => by subst e; simp at h
  rw [QcZ this] at k; exact ⟨H, Gh.refl _, k⟩
 have hl : l.length = m.length := Int.ofNat.inj (show (l.length : Int) = m.length by simpa using h)
 have hb := hs.bd
 refine ⟨fun x D => H.le D ∧ ∃ i : Nat, x = (i : Int) ∧ i ≤ l.length ∧ l.take i = m.take i, fun x _ => l.length - x.toNat, ⟨Heap.le.refl _, 0, rfl, Nat.zero_le _, rfl⟩, ?_⟩
 rintro _ D ⟨hD, i, rfl, hi, hq⟩
 refine ift.of (fun h => ?_) (fun h => ?_)
 ·have hlt : i < l.length := by have := of_decide_eq_true h; omega
  have hlt2 : i < m.length := by omega
  have hAD := hA.trans hD
  refine hs.ld hAD Qgk (by omega) rfl hlt fun x hx => ?_
  intro b13 n13
  refine nwT rfl ?_
  have l13 := Heap.le_put n13 (g := .row (Qh.c x)) (m := true)
  have h13 : (D.put b13 (.row (Qh.c x))) b13 = some (true, .row (Qh.c x)) := Heap.put_same ..
  generalize D.put b13 (.row (Qh.c x)) = D2 at *
  refine ht.ld (hAD.trans l13) Qgk (by omega) rfl hlt2 fun y hy => ?_
  intro b23 n23
  refine nwT rfl ?_
  have l23 := Heap.le_put n23 (g := .row (Qh.c y)) (m := true)
  have h23 : (D2.put b23 (.row (Qh.c y))) b23 = some (true, .row (Qh.c y)) := Heap.put_same ..
  have h13 := l23 _ _ h13
  generalize D2.put b23 (.row (Qh.c y)) = D3 at *
  have hle := (hD.trans l13).trans l23
  refine bxT h13 (bxT h23 (he i hlt hlt2 x y _ _ (hA.trans hle) hx hy ?_))
  by_cases hxy : l[i] = m[i]
  ·rw [QcF hxy]
   refine QbC rfl ?_
   rw [QM (by omega) (by omega)]
   exact ⟨⟨hle, i + 1, by omega, by omega, Qfv hlt hlt2 hq hxy⟩, by first | omega | (dsimp only; omega)⟩
  ·rw [QcZ hxy]
   rw [QcZ (QhI hlt hlt2 hxy)] at k
   exact QbT rfl ⟨H, Gh.le hle, k⟩
 ·have hie : i = l.length := by have := of_decide_eq_false h; omega
  rw [QcF (QdW hie hl hq)] at k
  exact ⟨H, Gh.le hD, k⟩
theorem QgU (x : Qk) : (Qk.c x).length = 6 := rfl
theorem QsE {α : Type} {R : α → Qk → Prop} {A : Heap} {s t : Sl} {l m : List α} {e : Value} {K : Bool → Heap → Prop} (hs : SlIs R Qk.c A s l) (ht : SlIs R Qk.c A t m) (hA : A.le H)
 (he : ∀ (i : Nat) (h1 : i < l.length) (h2 : i < m.length) (x y : Qk) (D : Heap) (Φ : Bool → Heap → Prop), A.le D → R l[i] x → R m[i] y → Φ (sm l[i] m[i]) D → callU Tryz.prog C e [.agg (Qk.c x).toArray, .agg (Qk.c y).toArray] D (fun v H31 => ∃ r30 : Bool, v = .bool r30 ∧ Φ r30 H31))
 (k : K (sm l m) H) : QA C s t e K H := by
 apply QA.gh
 apply Qby
 unfold Qab
 rw [hs.len, ht.len]
 refine ift.of (fun h => ?_) (fun h => ?_)
 ·have : l ≠ m := fun e => by subst e; simp at h
  rw [QcZ this] at k; exact ⟨H, Gh.refl _, k⟩
 have hl : l.length = m.length := Int.ofNat.inj (show (l.length : Int) = m.length by simpa using h)
 have hb := hs.bd
 refine ⟨fun x D => H.le D ∧ ∃ i : Nat, x = (i : Int) ∧ i ≤ l.length ∧ l.take i = m.take i, fun x _ => l.length - x.toNat, ⟨Heap.le.refl _, 0, rfl, Nat.zero_le _, rfl⟩, ?_⟩
 rintro _ D ⟨hD, i, rfl, hi, hq⟩
 refine ift.of (fun h => ?_) (fun h => ?_)
 ·have hlt : i < l.length := by have := of_decide_eq_true h; omega
  have hlt2 : i < m.length := by omega
  have hAD := hA.trans hD
  refine hs.ld hAD QgU (by omega) rfl hlt fun x hx => ?_
  intro b13 n13
  refine nwT rfl ?_
  have l13 := Heap.le_put n13 (g := .row (Qk.c x)) (m := true)
  have h13 : (D.put b13 (.row (Qk.c x))) b13 = some (true, .row (Qk.c x)) := Heap.put_same ..
  generalize D.put b13 (.row (Qk.c x)) = D2 at *
  refine ht.ld (hAD.trans l13) QgU (by omega) rfl hlt2 fun y hy => ?_
  intro b23 n23
  refine nwT rfl ?_
  have l23 := Heap.le_put n23 (g := .row (Qk.c y)) (m := true)
  have h23 : (D2.put b23 (.row (Qk.c y))) b23 = some (true, .row (Qk.c y)) := Heap.put_same ..
  have h13 := l23 _ _ h13
  generalize D2.put b23 (.row (Qk.c y)) = D3 at *
  have hle := (hD.trans l13).trans l23
  refine bxT h13 (bxT h23 (he i hlt hlt2 x y _ _ (hA.trans hle) hx hy ?_))
  by_cases hxy : l[i] = m[i]
  ·rw [QcF hxy]
   refine QbC rfl ?_
   rw [QM (by omega) (by omega)]
   exact ⟨⟨hle, i + 1, by omega, by omega, Qfv hlt hlt2 hq hxy⟩, by first | omega | (dsimp only; omega)⟩
  ·rw [QcZ hxy]
   rw [QcZ (QhI hlt hlt2 hxy)] at k
   exact QbT rfl ⟨H, Gh.le hle, k⟩
 ·have hie : i = l.length := by have := of_decide_eq_false h; omega
  rw [QcF (QdW hie hl hq)] at k
  exact ⟨H, Gh.le hD, k⟩
theorem Qbw (x : Qa) : (Qa.c x).length = 9 := rfl
theorem Qn7 {α : Type} {R : α → Qa → Prop} {A : Heap} {s t : Sl} {l m : List α} {e : Value} {K : Bool → Heap → Prop} (hs : SlIs R Qa.c A s l) (ht : SlIs R Qa.c A t m) (hA : A.le H)
 (he : ∀ (i : Nat) (h1 : i < l.length) (h2 : i < m.length) (x y : Qa) (D : Heap) (Φ : Bool → Heap → Prop), A.le D → R l[i] x → R m[i] y → Φ (sm l[i] m[i]) D → callU Tryz.prog C e [.agg (Qa.c x).toArray, .agg (Qa.c y).toArray] D (fun v H31 => ∃ r30 : Bool, v = .bool r30 ∧ Φ r30 H31))
 (k : K (sm l m) H) : Qt C s t e K H := by
 apply Qt.gh
 apply Qbx
 unfold Qaa
 rw [hs.len, ht.len]
 refine ift.of (fun h => ?_) (fun h => ?_)
 ·have : l ≠ m := fun e => by subst e; simp at h
  rw [QcZ this] at k; exact ⟨H, Gh.refl _, k⟩
 have hl : l.length = m.length := Int.ofNat.inj (show (l.length : Int) = m.length by simpa using h)
 have hb := hs.bd
 refine ⟨fun x D => H.le D ∧ ∃ i : Nat, x = (i : Int) ∧ i ≤ l.length ∧ l.take i = m.take i, fun x _ => l.length - x.toNat, ⟨Heap.le.refl _, 0, rfl, Nat.zero_le _, rfl⟩, ?_⟩
 rintro _ D ⟨hD, i, rfl, hi, hq⟩
 refine ift.of (fun h => ?_) (fun h => ?_)
 ·have hlt : i < l.length := by have := of_decide_eq_true h; omega
  have hlt2 : i < m.length := by omega
  have hAD := hA.trans hD
  refine hs.ld hAD Qbw (by omega) rfl hlt fun x hx => ?_
  intro b13 n13
  refine nwT rfl ?_
  have l13 := Heap.le_put n13 (g := .row (Qa.c x)) (m := true)
  have h13 : (D.put b13 (.row (Qa.c x))) b13 = some (true, .row (Qa.c x)) := Heap.put_same ..
  generalize D.put b13 (.row (Qa.c x)) = D2 at *
  refine ht.ld (hAD.trans l13) Qbw (by omega) rfl hlt2 fun y hy => ?_
  intro b23 n23
  refine nwT rfl ?_
  have l23 := Heap.le_put n23 (g := .row (Qa.c y)) (m := true)
  have h23 : (D2.put b23 (.row (Qa.c y))) b23 = some (true, .row (Qa.c y)) := Heap.put_same ..
  have h13 := l23 _ _ h13
  generalize D2.put b23 (.row (Qa.c y)) = D3 at *
  have hle := (hD.trans l13).trans l23
  refine bxT h13 (bxT h23 (he i hlt hlt2 x y _ _ (hA.trans hle) hx hy ?_))
  by_cases hxy : l[i] = m[i]
  ·rw [QcF hxy]
   refine QbC rfl ?_
   rw [QM (by omega) (by omega)]
   exact ⟨⟨hle, i + 1, by omega, by omega, Qfv hlt hlt2 hq hxy⟩, by first | omega | (dsimp only; omega)⟩
  ·rw [QcZ hxy]
   rw [QcZ (QhI hlt hlt2 hxy)] at k
   exact QbT rfl ⟨H, Gh.le hle, k⟩
 ·have hie : i = l.length := by have := of_decide_eq_false h; omega
  rw [QcF (QdW hie hl hq)] at k
  exact ⟨H, Gh.le hD, k⟩
theorem Qev (x : Qd) : (Qd.c x).length = 5 := rfl
theorem QpL {α : Type} {R : α → Qd → Prop} {A : Heap} {s t : Sl} {l m : List α} {e : Value} {K : Bool → Heap → Prop} (hs : SlIs R Qd.c A s l) (ht : SlIs R Qd.c A t m) (hA : A.le H)
 (he : ∀ (i : Nat) (h1 : i < l.length) (h2 : i < m.length) (x y : Qd) (D : Heap) (Φ : Bool → Heap → Prop), A.le D → R l[i] x → R m[i] y → Φ (sm l[i] m[i]) D → callU Tryz.prog C e [.agg (Qd.c x).toArray, .agg (Qd.c y).toArray] D (fun v H31 => ∃ r30 : Bool, v = .bool r30 ∧ Φ r30 H31))
 (k : K (sm l m) H) : Qs C s t e K H := by
 apply Qs.gh
 apply QaA
 unfold QQ
 rw [hs.len, ht.len]
 refine ift.of (fun h => ?_) (fun h => ?_)
 ·have : l ≠ m := fun e => by subst e; simp at h
  rw [QcZ this] at k; exact ⟨H, Gh.refl _, k⟩
 have hl : l.length = m.length := Int.ofNat.inj (show (l.length : Int) = m.length by simpa using h)
 have hb := hs.bd
 refine ⟨fun x D => H.le D ∧ ∃ i : Nat, x = (i : Int) ∧ i ≤ l.length ∧ l.take i = m.take i, fun x _ => l.length - x.toNat, ⟨Heap.le.refl _, 0, rfl, Nat.zero_le _, rfl⟩, ?_⟩
 rintro _ D ⟨hD, i, rfl, hi, hq⟩
 refine ift.of (fun h => ?_) (fun h => ?_)
 ·have hlt : i < l.length := by have := of_decide_eq_true h; omega
  have hlt2 : i < m.length := by omega
  have hAD := hA.trans hD
  refine hs.ld hAD Qev (by omega) rfl hlt fun x hx => ?_
  intro b13 n13
  refine nwT rfl ?_
  have l13 := Heap.le_put n13 (g := .row (Qd.c x)) (m := true)
  have h13 : (D.put b13 (.row (Qd.c x))) b13 = some (true, .row (Qd.c x)) := Heap.put_same ..
  generalize D.put b13 (.row (Qd.c x)) = D2 at *
  refine ht.ld (hAD.trans l13) Qev (by omega) rfl hlt2 fun y hy => ?_
  intro b23 n23
  refine nwT rfl ?_
  have l23 := Heap.le_put n23 (g := .row (Qd.c y)) (m := true)
  have h23 : (D2.put b23 (.row (Qd.c y))) b23 = some (true, .row (Qd.c y)) := Heap.put_same ..
  have h13 := l23 _ _ h13
  generalize D2.put b23 (.row (Qd.c y)) = D3 at *
  have hle := (hD.trans l13).trans l23
  refine bxT h13 (bxT h23 (he i hlt hlt2 x y _ _ (hA.trans hle) hx hy ?_))
  by_cases hxy : l[i] = m[i]
  ·rw [QcF hxy]
   refine QbC rfl ?_
   rw [QM (by omega) (by omega)]
   exact ⟨⟨hle, i + 1, by omega, by omega, Qfv hlt hlt2 hq hxy⟩, by first | omega | (dsimp only; omega)⟩
  ·rw [QcZ hxy]
   rw [QcZ (QhI hlt hlt2 hxy)] at k
   exact QbT rfl ⟨H, Gh.le hle, k⟩
 ·have hie : i = l.length := by have := of_decide_eq_false h; omega
  rw [QcF (QdW hie hl hq)] at k
  exact ⟨H, Gh.le hD, k⟩
theorem QhJ (x : Qj) : (Qj.c x).length = 4 := rfl
theorem Qrf {α : Type} {R : α → Qj → Prop} {A : Heap} {s t : Sl} {l m : List α} {e : Value} {K : Bool → Heap → Prop} (hs : SlIs R Qj.c A s l) (ht : SlIs R Qj.c A t m) (hA : A.le H)
 (he : ∀ (i : Nat) (h1 : i < l.length) (h2 : i < m.length) (x y : Qj) (D : Heap) (Φ : Bool → Heap → Prop), A.le D → R l[i] x → R m[i] y → Φ (sm l[i] m[i]) D → callU Tryz.prog C e [.agg (Qj.c x).toArray, .agg (Qj.c y).toArray] D (fun v H31 => ∃ r30 : Bool, v = .bool r30 ∧ Φ r30 H31))
 (k : K (sm l m) H) : Qy C s t e K H := by
 apply Qy.gh
 apply Qbb
 unfold Q2
 rw [hs.len, ht.len]
 refine ift.of (fun h => ?_) (fun h => ?_)
 ·have : l ≠ m := fun e => by subst e; simp at h
  rw [QcZ this] at k; exact ⟨H, Gh.refl _, k⟩
 have hl : l.length = m.length := Int.ofNat.inj (show (l.length : Int) = m.length by simpa using h)
 have hb := hs.bd
 refine ⟨fun x D => H.le D ∧ ∃ i : Nat, x = (i : Int) ∧ i ≤ l.length ∧ l.take i = m.take i, fun x _ => l.length - x.toNat, ⟨Heap.le.refl _, 0, rfl, Nat.zero_le _, rfl⟩, ?_⟩
 rintro _ D ⟨hD, i, rfl, hi, hq⟩
 refine ift.of (fun h => ?_) (fun h => ?_)
 ·have hlt : i < l.length := by have := of_decide_eq_true h; omega
  have hlt2 : i < m.length := by omega
  have hAD := hA.trans hD
  refine hs.ld hAD QhJ (by omega) rfl hlt fun x hx => ?_
  intro b13 n13
  refine nwT rfl ?_
  have l13 := Heap.le_put n13 (g := .row (Qj.c x)) (m := true)
  have h13 : (D.put b13 (.row (Qj.c x))) b13 = some (true, .row (Qj.c x)) := Heap.put_same ..
  generalize D.put b13 (.row (Qj.c x)) = D2 at *
  refine ht.ld (hAD.trans l13) QhJ (by omega) rfl hlt2 fun y hy => ?_
  intro b23 n23
  refine nwT rfl ?_
  have l23 := Heap.le_put n23 (g := .row (Qj.c y)) (m := true)
  have h23 : (D2.put b23 (.row (Qj.c y))) b23 = some (true, .row (Qj.c y)) := Heap.put_same ..
  have h13 := l23 _ _ h13
  generalize D2.put b23 (.row (Qj.c y)) = D3 at *
  have hle := (hD.trans l13).trans l23
  refine bxT h13 (bxT h23 (he i hlt hlt2 x y _ _ (hA.trans hle) hx hy ?_))
  by_cases hxy : l[i] = m[i]
  ·rw [QcF hxy]
   refine QbC rfl ?_
   rw [QM (by omega) (by omega)]
   exact ⟨⟨hle, i + 1, by omega, by omega, Qfv hlt hlt2 hq hxy⟩, by first | omega | (dsimp only; omega)⟩
  ·rw [QcZ hxy]
   rw [QcZ (QhI hlt hlt2 hxy)] at k
   exact QbT rfl ⟨H, Gh.le hle, k⟩
 ·have hie : i = l.length := by have := of_decide_eq_false h; omega
  rw [QcF (QdW hie hl hq)] at k
  exact ⟨H, Gh.le hD, k⟩
theorem Qih (x : Qf) : (Qf.c x).length = 2 := rfl
theorem QsF {α : Type} {R : α → Qf → Prop} {A : Heap} {s t : Sl} {l m : List α} {e : Value} {K : Bool → Heap → Prop} (hs : SlIs R Qf.c A s l) (ht : SlIs R Qf.c A t m) (hA : A.le H)
 (he : ∀ (i : Nat) (h1 : i < l.length) (h2 : i < m.length) (x y : Qf) (D : Heap) (Φ : Bool → Heap → Prop), A.le D → R l[i] x → R m[i] y → Φ (sm l[i] m[i]) D → callU Tryz.prog C e [.agg (Qf.c x).toArray, .agg (Qf.c y).toArray] D (fun v H31 => ∃ r30 : Bool, v = .bool r30 ∧ Φ r30 H31))
 (k : K (sm l m) H) : QB C s t e K H := by
 apply QB.gh
 apply Qbz
 unfold Qac
 rw [hs.len, ht.len]
 refine ift.of (fun h => ?_) (fun h => ?_)
 ·have : l ≠ m := fun e => by subst e; simp at h
  rw [QcZ this] at k; exact ⟨H, Gh.refl _, k⟩
 have hl : l.length = m.length := Int.ofNat.inj (show (l.length : Int) = m.length by simpa using h)
 have hb := hs.bd
 refine ⟨fun x D => H.le D ∧ ∃ i : Nat, x = (i : Int) ∧ i ≤ l.length ∧ l.take i = m.take i, fun x _ => l.length - x.toNat, ⟨Heap.le.refl _, 0, rfl, Nat.zero_le _, rfl⟩, ?_⟩
 rintro _ D ⟨hD, i, rfl, hi, hq⟩
 refine ift.of (fun h => ?_) (fun h => ?_)
 ·have hlt : i < l.length := by have := of_decide_eq_true h; omega
  have hlt2 : i < m.length := by omega
  have hAD := hA.trans hD
  refine hs.ld hAD Qih (by omega) rfl hlt fun x hx => ?_
  intro b13 n13
  refine nwT rfl ?_
  have l13 := Heap.le_put n13 (g := .row (Qf.c x)) (m := true)
  have h13 : (D.put b13 (.row (Qf.c x))) b13 = some (true, .row (Qf.c x)) := Heap.put_same ..
  generalize D.put b13 (.row (Qf.c x)) = D2 at *
  refine ht.ld (hAD.trans l13) Qih (by omega) rfl hlt2 fun y hy => ?_
  intro b23 n23
  refine nwT rfl ?_
  have l23 := Heap.le_put n23 (g := .row (Qf.c y)) (m := true)
  have h23 : (D2.put b23 (.row (Qf.c y))) b23 = some (true, .row (Qf.c y)) := Heap.put_same ..
  have h13 := l23 _ _ h13
  generalize D2.put b23 (.row (Qf.c y)) = D3 at *
  have hle := (hD.trans l13).trans l23
  refine bxT h13 (bxT h23 (he i hlt hlt2 x y _ _ (hA.trans hle) hx hy ?_))
  by_cases hxy : l[i] = m[i]
  ·rw [QcF hxy]
   refine QbC rfl ?_
   rw [QM (by omega) (by omega)]
   exact ⟨⟨hle, i + 1, by omega, by omega, Qfv hlt hlt2 hq hxy⟩, by first | omega | (dsimp only; omega)⟩
  ·rw [QcZ hxy]
   rw [QcZ (QhI hlt hlt2 hxy)] at k
   exact QbT rfl ⟨H, Gh.le hle, k⟩
 ·have hie : i = l.length := by have := of_decide_eq_false h; omega
  rw [QcF (QdW hie hl hq)] at k
  exact ⟨H, Gh.le hD, k⟩
theorem Qpk (x : Qb) : (Qb.c x).length = 4 := rfl
theorem Qrg {α : Type} {R : α → Qb → Prop} {A : Heap} {s t : Sl} {l m : List α} {e : Value} {K : Bool → Heap → Prop} (hs : SlIs R Qb.c A s l) (ht : SlIs R Qb.c A t m) (hA : A.le H)
 (he : ∀ (i : Nat) (h1 : i < l.length) (h2 : i < m.length) (x y : Qb) (D : Heap) (Φ : Bool → Heap → Prop), A.le D → R l[i] x → R m[i] y → Φ (sm l[i] m[i]) D → callU Tryz.prog C e [.agg (Qb.c x).toArray, .agg (Qb.c y).toArray] D (fun v H31 => ∃ r30 : Bool, v = .bool r30 ∧ Φ r30 H31))
 (k : K (sm l m) H) : Qz C s t e K H := by
 apply Qz.gh
 apply Qbc
 unfold Q3
 rw [hs.len, ht.len]
 refine ift.of (fun h => ?_) (fun h => ?_)
 ·have : l ≠ m := fun e => by subst e; simp at h
  rw [QcZ this] at k; exact ⟨H, Gh.refl _, k⟩
 have hl : l.length = m.length := Int.ofNat.inj (show (l.length : Int) = m.length by simpa using h)
 have hb := hs.bd
 refine ⟨fun x D => H.le D ∧ ∃ i : Nat, x = (i : Int) ∧ i ≤ l.length ∧ l.take i = m.take i, fun x _ => l.length - x.toNat, ⟨Heap.le.refl _, 0, rfl, Nat.zero_le _, rfl⟩, ?_⟩
 rintro _ D ⟨hD, i, rfl, hi, hq⟩
 refine ift.of (fun h => ?_) (fun h => ?_)
 ·have hlt : i < l.length := by have := of_decide_eq_true h; omega
  have hlt2 : i < m.length := by omega
  have hAD := hA.trans hD
  refine hs.ld hAD Qpk (by omega) rfl hlt fun x hx => ?_
  intro b13 n13
  refine nwT rfl ?_
  have l13 := Heap.le_put n13 (g := .row (Qb.c x)) (m := true)
  have h13 : (D.put b13 (.row (Qb.c x))) b13 = some (true, .row (Qb.c x)) := Heap.put_same ..
  generalize D.put b13 (.row (Qb.c x)) = D2 at *
  refine ht.ld (hAD.trans l13) Qpk (by omega) rfl hlt2 fun y hy => ?_
  intro b23 n23
  refine nwT rfl ?_
  have l23 := Heap.le_put n23 (g := .row (Qb.c y)) (m := true)
  have h23 : (D2.put b23 (.row (Qb.c y))) b23 = some (true, .row (Qb.c y)) := Heap.put_same ..
  have h13 := l23 _ _ h13
  generalize D2.put b23 (.row (Qb.c y)) = D3 at *
  have hle := (hD.trans l13).trans l23
  refine bxT h13 (bxT h23 (he i hlt hlt2 x y _ _ (hA.trans hle) hx hy ?_))
  by_cases hxy : l[i] = m[i]
  ·rw [QcF hxy]
   refine QbC rfl ?_
   rw [QM (by omega) (by omega)]
   exact ⟨⟨hle, i + 1, by omega, by omega, Qfv hlt hlt2 hq hxy⟩, by first | omega | (dsimp only; omega)⟩
  ·rw [QcZ hxy]
   rw [QcZ (QhI hlt hlt2 hxy)] at k
   exact QbT rfl ⟨H, Gh.le hle, k⟩
 ·have hie : i = l.length := by have := of_decide_eq_false h; omega
  rw [QcF (QdW hie hl hq)] at k
  exact ⟨H, Gh.le hD, k⟩
end
end
section
open Go
def resW : List Str := [[109, 111, 100, 117, 108, 101], [105, 109, 112, 111, 114, 116], [112, 117, 98], [116, 121, 112, 101], [105, 110, 112, 117, 116], [114, 101, 108], [110, 101, 118, 101, 114], [110, 111, 116], [97, 110, 100], [111, 114], [105, 102], [116, 104, 101, 110], [101, 108, 115, 101], [116, 114, 117, 101], [102, 97, 108, 115, 101], [99, 111, 117, 110, 116], [115, 117, 109], [109, 105, 110], [109, 97, 120], [110, 101, 103], [108, 101, 110], [98, 105, 103], [105, 110, 116], [98, 111, 111, 108], [116, 101, 120, 116], [116, 117, 112, 108, 101]]
def namS (s : Str) : Bool := nameS s && !resW.contains s
def longS (s : Str) : Bool := match cutD s with
 | some (a, b) => namS a && namS b
 | none => namS s
def upC (c : UInt8) : Bool := decide (65 ≤ c.toNat) && decide (c.toNat ≤ 90)
def varS (s : Str) : Bool := !s.isEmpty && decide (s.length ≤ 32) && upC (s.headD 0) && s.all nameC
def parS (s : Str) : Bool := match s with
 | c :: t => decide (c = 39) && namS t
 | [] => false
def tupS : Str := [116, 117, 112, 108, 101]
def boolS : Str := [98, 111, 111, 108]
def intS : Str := [105, 110, 116]
def bigS : Str := [98, 105, 103]
def textS : Str := [116, 101, 120, 116]
def negS : Str := [110, 101, 103]
def lenS : Str := [108, 101, 110]
def notS : Str := [110, 111, 116]
def funB (s : Str) : Bool := decide (s = negS ∨ s = lenS ∨ s = bigS ∨ s = intS)
def opsW : List Str := [[43], [45], [42], [47], [37], [43, 43], [61, 61], [33, 61], [60], [60, 61], [62], [62, 61], [97, 110, 100], [111, 114]]
def arS (s : Str) : Nat := if opsW.contains s then 2 else if s = notS ∨ funB s = true then 1 else 0
mutual
def tyD : TyV → Nat
 | .mk _ a => tysD a + 1
def tysD : List TyV → Nat
 | [] => 0
 | v :: l => max (tyD v) (tysD l)
end
mutual
def exD : ExV → Nat
 | .mk _ _ _ a => exsD a + 1
def exsD : List ExV → Nat
 | [] => 0
 | v :: l => max (exD v) (exsD l)
end
/-- the greatest of a list -/
def mxL {α : Type} (f : α → Nat) : List α → Nat
 | [] => 0
 | v :: l => max (f v) (mxL f l)
def fdsD (l : List FdV) : Nat := mxL (fun f => tyD f.t) l
def liD (x : LiV) : Nat := exsD x.a
def lisD (l : List LiV) : Nat := mxL liD l
def tdD (t : TdV) : Nat := mxL (fun c : CnV => fdsD c.f) t.cs
def ruD (r : RuV) : Nat := max (exsD r.a) (lisD r.b)
def moD (m : MoV) : Nat := max (max (mxL tdD m.ty) (mxL (fun r : RdV => fdsD r.f) m.re)) (max (mxL ruD m.ru) (mxL (fun n : NeV => lisD n.b) m.ne))
def tyN (n : Str) (m : Nat) : Bool :=
 if n = boolS ∨ n = intS ∨ n = bigS ∨ n = textS then decide (m = 0)
 else if n = tupS then decide (m ≠ 1) && decide (m ≤ 16)
 else (parS n && decide (m = 0)) || (longS n && decide (m ≤ 8))
mutual
def tyOk : TyV → Bool
 | .mk n a => tyN n a.length && tysOk a
def tysOk : List TyV → Bool
 | [] => true
 | v :: l => tyOk v && tysOk l
end
def exN (p : Bool) (k : Int) (n : Str) (m : Nat) : Bool :=
 if k = 2 then varS n && decide (m = 0)
 else if k = 3 then p && n.isEmpty && decide (m = 0)
 else if k = 4 then n.isEmpty && decide (m ≠ 1) && decide (m ≤ 16)
 else if k = 5 then longS n && decide (m ≤ 8)
 else if k = 6 then !p && decide (0 < arS n) && decide (m = arS n)
 else if k = 7 then !p && namS n && decide (m = 1)
 else if k = 8 then !p && n.isEmpty && decide (m = 3)
 else false
def noV (v : V) : Bool := decide (v.k = 0) && decide (v.n = 0) && v.s.isEmpty && decide (v.l.length = 0)
def litV (v : V) : Bool := decide (1 ≤ v.k) && decide (v.k ≤ 4) && mayV v
mutual
def exOk : Bool → ExV → Bool
 | p, .mk k n v a => if k = 1 then litV v && decide (a.length = 0) && n.isEmpty else exN p k n a.length && noV v && exsOk p a
def exsOk : Bool → List ExV → Bool
 | _, [] => true
 | p, v :: l => exOk p v && exsOk p l
end
def liOk (x : LiV) : Bool :=
 if x.k = 1 ∨ x.k = 2 then longS x.r && decide (x.a.length ≤ 8) && exsOk true x.a
 else if x.k = 3 then x.r.isEmpty && decide (x.a.length = 1) && exsOk false x.a
 else if x.k = 4 then varS x.r && decide (x.a.length = 1) && exsOk false x.a
 else false
def fdOk (nm : Bool) (f : FdV) : Bool := (namS f.n || (!nm && f.n.isEmpty)) && tyOk f.t
def fdsOk (nm : Bool) (l : List FdV) : Bool := decide (l.length ≤ 8) && l.all (fdOk nm)
def cnOk (c : CnV) : Bool := namS c.n && fdsOk false c.f
def tdOk (t : TdV) : Bool := namS t.n && decide (t.ps.length ≤ 8) && t.ps.all parS && decide (1 ≤ t.cs.length) && decide (t.cs.length ≤ 16) && t.cs.all cnOk
def rdOk (r : RdV) : Bool := namS r.n && fdsOk true r.f
def countS : Str := [99, 111, 117, 110, 116]
def sumS : Str := [115, 117, 109]
def minS : Str := [109, 105, 110]
def maxS : Str := [109, 97, 120]
def agOk (s : Str) : Bool := decide (s = [] ∨ s = countS ∨ s = sumS ∨ s = minS ∨ s = maxS)
def ruOk (r : RuV) : Bool := longS r.r && decide (r.a.length ≤ 8) && decide (r.g.length = r.a.length) && exsOk false r.a && r.b.all liOk && r.g.all agOk
def neOk (n : NeV) : Bool := namS n.n && decide (0 < n.b.length) && n.b.all liOk
def moOk (m : MoV) : Bool := namS m.n && m.im.all namS && m.ty.all tdOk && m.re.all rdOk && m.ru.all ruOk && m.ne.all neOk
def moFew (m : MoV) : Bool := decide (m.im.length ≤ 8) && decide (m.ty.length ≤ 64) && decide (m.re.length ≤ 64) && decide (m.ru.length ≤ 256) && decide (m.ne.length ≤ 256) && m.ru.all (fun r => decide (r.b.length ≤ 12)) && m.ne.all (fun n => decide (n.b.length ≤ 12))
def moC (m : MoV) : Int := if moD m > 64 then 65 else if moOk m = false then 4 else if moFew m = false then 3 else 0
/-- a comma and a blank between each two -/
def cm : Nat → Str
 | 0 => []
 | _ + 1 => [44, 32]
def noSep : Nat → Str := fun _ => []
def opSep (n : Str) : Nat → Str
 | 0 => []
 | _ + 1 => 32 :: (n ++ [32])
def ifSep : Nat → Str
 | 0 => [40, 105, 102, 32]
 | 1 => [32, 116, 104, 101, 110, 32]
 | _ => [32, 101, 108, 115, 101, 32]
mutual
def tyT : TyV → Str
 | .mk n a => if n = tupS then 40 :: (tysT 0 a ++ [41]) else n ++ (if a.length = 0 then [] else 40 :: (tysT 0 a ++ [41]))
def tysT : Nat → List TyV → Str
 | _, [] => []
 | i, v :: l => cm i ++ (tyT v ++ tysT (i + 1) l)
end
def brkE : List ExV → Bool
 | [] => false
 | x :: _ => decide (x.k = 1 ∨ x.k = 5 ∨ (x.k = 6 ∧ funB x.n = true))
mutual
def exT : ExV → Str
 | .mk k n v a =>
  if k = 1 then showV v else if k = 2 then n else if k = 3 then [95] else if k = 4 then 40 :: (exsT cm 0 a ++ [41])
  else if k = 5 then n ++ (if a.length = 0 then [] else 40 :: (exsT cm 0 a ++ [41]))
  else if k = 6 then (if funB n = true then n ++ 40 :: (exsT cm 0 a ++ [41]) else if a.length = 1 then 40 :: (n ++ 32 :: (exsT noSep 0 a ++ [41])) else 40 :: (exsT (opSep n) 0 a ++ [41]))
  else if k = 7 then (if brkE a = true then 40 :: (exsT cm 0 a ++ [41]) else exsT cm 0 a) ++ 46 :: n
  else exsT ifSep 0 a ++ [41]
def exsT : (Nat → Str) → Nat → List ExV → Str
 | _, _, [] => []
 | sep, i, v :: l => sep i ++ (exT v ++ exsT sep (i + 1) l)
end
/-- a list with something between each two -/
def jo {α : Type} (sep : Str) (f : α → Str) : Nat → List α → Str
 | _, [] => []
 | i, v :: l => (if i = 0 then [] else sep) ++ (f v ++ jo sep f (i + 1) l)
def isMk : List ExV → Bool
 | [] => false
 | x :: _ => decide (x.k = 5)
def liT (x : LiV) : Str :=
 if x.k = 1 then x.r ++ 40 :: (exsT cm 0 x.a ++ [41])
 else if x.k = 2 then [110, 111, 116, 32] ++ (x.r ++ 40 :: (exsT cm 0 x.a ++ [41]))
 else if x.k = 4 then x.r ++ ([32, 61, 32] ++ exsT cm 0 x.a)
 else if isMk x.a = true then 40 :: (exsT cm 0 x.a ++ [41]) else exsT cm 0 x.a
def boT (l : List LiV) : Str := jo [44, 32] liT 0 l
def fdT (f : FdV) : Str := (if f.n = [] then [] else f.n ++ [58, 32]) ++ tyT f.t
def fdsT (l : List FdV) : Str := jo [44, 32] fdT 0 l
def pubT (b : Bool) : Str := if b then [112, 117, 98, 32] else []
def cnT (c : CnV) : Str := c.n ++ (if c.f.length = 0 then [] else 40 :: (fdsT c.f ++ [41]))
def imT (n : Str) : Str := [105, 109, 112, 111, 114, 116, 32] ++ (n ++ [10])
def tdT (t : TdV) : Str := pubT t.p ++ ([116, 121, 112, 101, 32] ++ (t.n ++ ((if t.ps.length = 0 then [] else 40 :: (jo [44, 32] id 0 t.ps ++ [41])) ++ ([32, 61, 32] ++ (jo [32, 124, 32] cnT 0 t.cs ++ [10])))))
def rdT (r : RdV) : Str := pubT r.p ++ ((if r.i then [105, 110, 112, 117, 116, 32] else [114, 101, 108, 32]) ++ (r.n ++ 40 :: (fdsT r.f ++ [41, 10])))
/-- an argument of a head -/
def agT (g : Str) (x : ExV) : Str := if g = [] then exT x else g ++ 40 :: (exT x ++ [41])
def agsT : Nat → List Str → List ExV → Str
 | i, g :: gs, x :: xs => cm i ++ (agT g x ++ agsT (i + 1) gs xs)
 | _, _, _ => []
def ruT (r : RuV) : Str := r.r ++ 40 :: (agsT 0 r.g r.a ++ 41 :: ((if r.b.length = 0 then [] else [32, 58, 45, 32] ++ boT r.b) ++ [46, 10]))
def neT (n : NeV) : Str := [110, 101, 118, 101, 114, 32] ++ (n.n ++ ([32, 58, 45, 32] ++ (boT n.b ++ [46, 10])))
def hdT (n : Str) : Str := [109, 111, 100, 117, 108, 101, 32] ++ (n ++ [10])
/-- a module's lines -/
def moL (m : MoV) : List Str := hdT m.n :: (m.im.map imT ++ (m.ty.map tdT ++ (m.re.map rdT ++ (m.ru.map ruT ++ m.ne.map neT))))
def moT (m : MoV) : Str := (moL m).flatten
end
section
open Go
/-- words, with blanks between and around -/
def blk (W : List Str) : Str := 32 :: W.flatMap (· ++ [32])
theorem Qom (w : Str) (W : List Str) : blk (w :: W) = 32 :: (w ++ blk W) := by simp [blk]
theorem first32 : ∀ {a b x y : Str}, (32 : UInt8) ∉ a → (32 : UInt8) ∉ b → a ++ 32 :: x = b ++ 32 :: y → a = b
 | [], [], _, _, _, _, _ => rfl
 | [], c :: b, x, y, _, h2, h => by
  simp only [List.nil_append, List.cons_append] at h; injection h with h _; subst h; simp at h2
 | c :: a, [], x, y, h1, _, h => by
  simp only [List.nil_append, List.cons_append] at h; injection h with h _; subst h; simp at h1
 | c :: a, d :: b, x, y, h1, h2, h => by
  simp only [List.cons_append] at h; injection h with h h'
  subst h
  rw [first32 (fun hm => h1 (List.mem_cons_of_mem _ hm)) (fun hm => h2 (List.mem_cons_of_mem _ hm)) h']
theorem Qrw {s : Str} (hs : (32 : UInt8) ∉ s) : ∀ {W : List Str}, (∀ w ∈ W, (32 : UInt8) ∉ w) → ∀ {a b : Str}, blk W = a ++ 32 :: (s ++ 32 :: b) → s ∈ W
 | [], _, a, b, h => by
  have := congrArg List.length h
  simp [blk] at this; omega
 | w :: W, hW, a, b, h => by
  rw [Qom] at h
  have hw := hW w (List.mem_cons_self ..)
  have ih := fun {a b} => Qrw hs (W := W) (fun w h => hW w (List.mem_cons_of_mem _ h)) (a := a) (b := b)
  cases a with
  | nil =>
   simp only [List.nil_append] at h; injection h with _ h
   have : w ++ 32 :: (W.flatMap (· ++ [32])) = s ++ 32 :: b := h
   rw [first32 hw hs this]; exact List.mem_cons_self ..
  | cons c a =>
   simp only [List.cons_append] at h; injection h with _ h
   refine List.mem_cons_of_mem _ ?_
   rcases List.append_eq_append_iff.1 h with ⟨a', e1, e2⟩ | ⟨c', e1, e2⟩
   ·exact ih e2
   ·cases c' with
    | nil => exact ih (a := []) e2.symm
    | cons c c' =>
     simp only [List.cons_append] at e2; injection e2 with e2 _
     exact absurd (by rw [e1, ← e2]; simp) hw
theorem Qrv {s : Str} : ∀ {W : List Str}, s ∈ W → ∃ a b, blk W = a ++ 32 :: (s ++ 32 :: b)
 | w :: W, h => by
  rcases List.mem_cons.1 h with rfl | h
  ·exact ⟨[], W.flatMap (· ++ [32]), by rw [Qom]; rfl⟩
  ·obtain ⟨a, b, e⟩ := Qrv h
   exact ⟨32 :: (w ++ a), b, by rw [Qom, e]; simp⟩
theorem Qpa {s t : Str} : Lib.contains s t = true ↔ ∃ a b, s = a ++ (t ++ b) := by
 unfold Lib.contains
 rw [decide_eq_true_eq]
 constructor
 ·intro h
  rcases Lib.index_spec s t with ⟨h1, _⟩ | ⟨i, h1, h2, h3, _⟩
  ·omega
  ·unfold Lib.occAt at h3
   obtain ⟨b, hb⟩ := List.isPrefixOf_iff_prefix.1 h3
   exact ⟨s.take i, b, by rw [hb, List.take_append_drop]⟩
 ·rintro ⟨a, b, e⟩
  rcases Lib.index_spec s t with ⟨_, h2⟩ | ⟨i, h1, _⟩
  ·have := h2 a.length (by rw [e]; simp)
   unfold Lib.occAt at this
   rw [e, List.drop_left] at this
   have hp : t.isPrefixOf (t ++ b) = true := List.isPrefixOf_iff_prefix.2 ⟨b, rfl⟩
   rw [hp] at this; cases this
  ·omega
theorem Qur : ∀ w ∈ resW, (32 : UInt8) ∉ w := by decide
theorem Qvd {s : Str} (hs : s.all nameC = true) : Lib.contains (blk resW) (([32] ++ s) ++ [32]) = resW.contains s := by
 have h32 : (32 : UInt8) ∉ s := fun h => by
  have := List.all_eq_true.1 hs _ h
  exact absurd this (by decide)
 rw [Bool.eq_iff_iff, Qpa, List.contains_iff_mem]
 constructor
 ·rintro ⟨a, b, e⟩
  exact Qrw h32 Qur (a := a) (b := b) (by rw [e]; simp)
 ·intro h
  obtain ⟨a, b, e⟩ := Qrv h
  exact ⟨a, b, by rw [e]; simp⟩
theorem QtX : blk resW = [32, 109, 111, 100, 117, 108, 101, 32, 105, 109, 112, 111, 114, 116, 32, 112, 117, 98, 32, 116, 121, 112, 101, 32, 105, 110, 112, 117, 116, 32, 114, 101, 108, 32, 110, 101, 118, 101, 114, 32, 110, 111, 116, 32, 97, 110, 100, 32, 111, 114, 32, 105, 102, 32, 116, 104, 101, 110, 32, 101, 108, 115, 101, 32, 116, 114, 117, 101, 32, 102, 97, 108, 115, 101, 32, 99, 111, 117, 110, 116, 32, 115, 117, 109, 32, 109, 105, 110, 32, 109, 97, 120, 32, 110, 101, 103, 32, 108, 101, 110, 32, 98, 105, 103, 32, 105, 110, 116, 32, 98, 111, 111, 108, 32, 116, 101, 120, 116, 32, 116, 117, 112, 108, 101, 32] := rfl
theorem Qqn : ∀ {s a b : Str}, cutD s = some (a, b) → a.length ≤ s.length ∧ b.length ≤ s.length
 | [], a, b, h => by simp [cutD] at h
 | c :: t, a, b, h => by
  simp only [cutD] at h
  by_cases hc : c = 46
  ·rw [if_pos hc] at h; injection h with h; injection h with h1 h2; subst h1; subst h2; simp
  ·rw [if_neg hc] at h
   cases ht : cutD t with
   | none => rw [ht] at h; simp at h
   | some p =>
    rw [ht] at h; simp at h
    obtain ⟨rfl, rfl⟩ := h
    have := Qqn (s := t) (a := p.1) (b := p.2) ht
    simp only [List.length_cons]; omega
end
section
open Go Go.Proofs
theorem Qn0 {α : Type} (f : α → Nat) : ∀ (a b : List α), mxL f (a ++ b) = max (mxL f a) (mxL f b)
 | [], b => by simp [mxL]
 | v :: a, b => by simp only [List.cons_append, mxL, Qn0 f a b]; omega
theorem Qgj {α : Type} {f : α → Nat} {l : List α} {i : Nat} (h : i < l.length) : mxL f (l.take (i + 1)) = max (mxL f (l.take i)) (f l[i]) := by
 rw [List.take_add_one, List.getElem?_eq_getElem h, Option.toList_some, Qn0]; simp [mxL]
theorem Qj4 {α : Type} {f : α → Nat} {l : List α} {v : α} (h : v ∈ l) : f v ≤ mxL f l := by
 induction l with
 | nil => cases h
 | cons a l ih =>
  simp only [mxL]
  rcases List.mem_cons.1 h with rfl | h
  ·omega
  ·have := ih h; omega
theorem allTake {α : Type} {f : α → Bool} {l : List α} {i : Nat} (h : i < l.length) : (l.take (i + 1)).all f = ((l.take i).all f && f l[i]) := by
 rw [List.take_add_one, List.getElem?_eq_getElem h, Option.toList_some, List.all_append]; simp
theorem allNo {α : Type} {f : α → Bool} {l : List α} {i : Nat} (h : i < l.length) (hf : f l[i] = false) : l.all f = false := by
 cases hh : l.all f with
 | false => rfl
 | true => rw [List.all_eq_true.1 hh _ (List.getElem_mem h)] at hf; cases hf
theorem QrX {α : Type} (sep : Str) (f : α → Str) : ∀ (l : List α) (i : Nat) (v : α), jo sep f i (l ++ [v]) = jo sep f i l ++ ((if i + l.length = 0 then [] else sep) ++ f v)
 | [], i, v => by simp [jo]
 | w :: l, i, v => by
  rw [List.cons_append]
  simp only [jo, QrX sep f l (i + 1) v, List.append_assoc, List.length_cons]
  rw [show i + 1 + l.length = i + (l.length + 1) by omega]
theorem QbW {α : Type} {sep : Str} {f : α → Str} {l : List α} {i : Nat} (h : i < l.length) : jo sep f 0 (l.take (i + 1)) = jo sep f 0 (l.take i) ++ ((if i = 0 then [] else sep) ++ f l[i]) := by
 rw [List.take_add_one, List.getElem?_eq_getElem h, Option.toList_some, QrX, List.length_take, Nat.min_eq_left (by omega)]; simp
theorem Qjg {α : Type} {sep : Str} {f : α → Str} (l : List α) (i : Nat) : (jo sep f 0 (l.take i)).length ≤ (jo sep f 0 l).length := by
 have : ∀ (a b : List α) (k : Nat), (jo sep f k a).length ≤ (jo sep f k (a ++ b)).length := by
  intro a
  induction a with
  | nil => intro b k; simp [jo]
  | cons x a ih => intro b k; have := ih b (k + 1); simp only [List.cons_append, jo, List.length_append]; omega
 have := this (l.take i) (l.drop i) 0
 rwa [List.take_append_drop] at this
/-- over A, of which b is not, the writer b holds bs -/
abbrev tyW : TypeId := 87
structure Ww (A B : Heap) (b : Nat) (bs : Str) : Prop where
 le : A.le B
 nb : A b = none
 bl : IsB tyW tyE B b bs
theorem Ww.up {A B D : Heap} {b : Nat} {bs : Str} (h : Ww A B b bs) (hle : B.le D) : Ww A D b bs := ⟨h.le.trans hle, h.nb, h.bl.le hle⟩
theorem Ww.down {A A2 B : Heap} {b : Nat} {bs : Str} (h : Ww A2 B b bs) (hle : A.le A2) : Ww A B b bs := ⟨hle.trans h.le, hle.none h.nb, h.bl⟩
/-- all but the writer is kept -/
theorem Ww.full {A B : Heap} {b : Nat} {bs : Str} (h : Ww A B b bs) : Ww (B.del b) B b bs ∧ A.le (B.del b) :=
 ⟨⟨Heap.del_le _ _, Heap.del_same _ _, h.bl⟩, fun c e hc => by
  have : c ≠ b := fun e' => by rw [e', h.nb] at hc; cases hc
  rw [Heap.del_ne _ this]; exact h.le c e hc⟩
theorem Ww.byte {C : Ctx} {A B : Heap} {b : Nat} {bs : Str} {c : UInt8} {i : Int} {K : Value → Heap → Prop} (h : Ww A B b bs) (hi : i = (c.toNat : Int)) (hl : bs.length + 1 ≤ 140737488355328) (k : ∀ D, Ww A D b (bs ++ [c]) → K .nilIface D) : Qo C (some (b, 0)) i K B := by
 subst hi
 exact Qi4 h.bl liB87 hl (k _ ⟨h.le.put _ _ h.nb, h.nb, IsB.put⟩)
theorem Ww.str {C : Ctx} {A B : Heap} {b : Nat} {bs s : Str} {K : Int → Value → Heap → Prop} (h : Ww A B b bs) (hl : bs.length + s.length ≤ 140737488355328) (k : ∀ D, Ww A D b (bs ++ s) → K (s.length : Int) .nilIface D) : Qm C (some (b, 0)) s K B :=
 Qj0 h.bl liB87 hl (k _ ⟨h.le.put _ _ h.nb, h.nb, IsB.put⟩)
section
variable {C : Ctx} {H : Heap} {α : Type}
theorem Qrr {R : α → Ql → Prop} {A : Heap} {s : Sl} {l : List α} {e : Value} {ok : α → Bool} {K : Bool → Heap → Prop} (hs : SlIs R Ql.c A s l) (hA : A.le H)
 (he : ∀ v ∈ l, ∀ (x : Ql) (D : Heap) (Φ : Bool → Heap → Prop), A.le D → R v x → Φ (ok v) D → callU Tryz.prog C e [.agg (Ql.c x).toArray] D (fun v H31 => ∃ r30 : Bool, v = .bool r30 ∧ Φ r30 H31))
 (k : K (l.all ok) H) (h1c : Value.cells e = #[e] := by exact rfl) : Qal C s e K H := by
 apply Qal.gh
 apply QiO
 unfold Qfj
 refine ⟨h1c, ?_⟩
 intro b1 n1
 have l1 := Heap.le_put n1 (g := .row [e]) (m := true)
 have c1 : (H.put b1 (.row [e])) b1 = some (true, .row [e]) := Heap.put_same ..
 generalize H.put b1 (.row [e]) = H1 at *
 apply Qcy
 unfold QaL
 apply Qc8
 unfold Qa9
 have hlen := SlIs.len hs
 have hbd := SlIs.bd hs
 refine ⟨fun y D => H1.le D ∧ ∃ i : Nat, y = (i : Int) ∧ i ≤ l.length ∧ (l.take i).all ok = true, fun y _ => l.length - y.toNat, ⟨Heap.le.refl _, 0, rfl, Nat.zero_le _, rfl⟩, ?_⟩
 rintro _ D ⟨hD, i, rfl, hi, hall⟩
 rw [hlen]
 refine ift.of (fun h => ?_) (fun h => ?_)
 ·have hlt : i < l.length := by have := of_decide_eq_true h; omega
  refine SlIs.ld hs (hA.trans (l1.trans hD)) QjJ (by omega) rfl hlt fun x hx => ?_
  have key : ∀ Φ : Bool → Heap → Prop, (∀ D2, D.le D2 → Φ (!ok l[i]) D2) → callU Tryz.prog C (.func (.func 131) (List.toArray []) (List.toArray [pv (some (b1, 0))])) [.agg (Ql.c x).toArray] D (fun v H31 => ∃ r30 : Bool, v = .bool r30 ∧ Φ r30 H31) := fun Φ hΦ => by
   refine ⟨131, [], [pv (some (b1, 0))], rfl, QhO, ?_⟩
   show QeV C x (b1, 0) Φ D
   apply Qhy
   unfold QeE
   intro b2 n2
   have l2 := Heap.le_put n2 (g := .row (Ql.c x)) (m := true)
   refine ⟨e, by rw [QbU (l2 _ _ (hD _ _ c1))]; rfl, bxT (c := Ql.c) (Heap.put_same ..) (he _ (List.getElem_mem hlt) x _ _ ((hA.trans (l1.trans hD)).trans l2) hx ?_)⟩
   exact hΦ _ l2
  refine key _ fun D2 hD2 => ?_
  refine ift.of (fun hb => ?_) (fun hb => ?_)
  ·have hf : ok l[i] = false := by simpa using hb
   rw [allNo hlt hf] at k
   have e0 : decide ((i : Int) ≥ 0) = true := decide_eq_true (by omega)
   dsimp only
   rw [e0]
   exact ⟨H, Gh.le (l1.trans (hD.trans hD2)), k⟩
  ·have hf : ok l[i] = true := by simpa using hb
   rw [QM (by omega) (by omega)]
   exact ⟨⟨hD.trans hD2, i + 1, by omega, by omega, by rw [allTake hlt, hall, hf]; rfl⟩, by first | omega | (dsimp only; omega)⟩
 ·have hie : i = l.length := by have := of_decide_eq_false h; omega
  subst hie
  rw [List.take_length] at hall
  rw [hall] at k
  exact ⟨H, Gh.le (l1.trans hD), k⟩
theorem Qr3 {R : α → Ql → Prop} {A B : Heap} {s : Sl} {l : List α} {e : Value} {f : α → Str} {sep t : Str} {b : Nat} {K : Heap → Prop} (hs : SlIs R Ql.c A s l) (hW : Ww A B b t)
 (he : ∀ v ∈ l, ∀ (x : Ql) (D : Heap) (u : Str) (Φ : Heap → Prop), Ww A D b u → R v x → u.length + (f v).length ≤ 140737488355328 → (∀ D2, Ww A D2 b (u ++ f v) → Φ D2) → callU Tryz.prog C e [.agg (Ql.c x).toArray] D (fun v H31 => v = .tuple #[] ∧ Φ H31))
 (hl : t.length + (jo sep f 0 l).length ≤ 140737488355328) (k : ∀ D, Ww A D b (t ++ jo sep f 0 l) → K D) : Qdb C (some (b, 0)) s sep e K B := by
 apply Qh9
 unfold Qfa
 have hlen := SlIs.len hs
 have hbd := SlIs.bd hs
 refine ⟨fun y D => ∃ i : Nat, y = (i : Int) ∧ i ≤ l.length ∧ Ww A D b (t ++ jo sep f 0 (l.take i)), fun y _ => l.length - y.toNat, ⟨0, rfl, Nat.zero_le _, by simpa [jo] using hW⟩, ?_⟩
 rintro _ D ⟨i, rfl, hi, hD⟩
 rw [hlen]
 refine ift.of (fun h => ?_) (fun h => ?_)
 ·have hlt : i < l.length := by have := of_decide_eq_true h; omega
  have hp := Qjg (sep := sep) (f := f) l (i + 1)
  rw [QbW hlt] at hp
  simp only [List.length_append] at hp
  refine SlIs.ld hs hD.le QjJ (by omega) rfl hlt fun x hx => ?_
  intro b13 n13
  refine nwT rfl ?_
  have l13 := Heap.le_put n13 (g := .row (Ql.c x)) (m := true)
  have c13 : (D.put b13 (.row (Ql.c x))) b13 = some (true, .row (Ql.c x)) := Heap.put_same ..
  have hD2 := hD.up l13
  generalize D.put b13 (.row (Ql.c x)) = D2 at *
  obtain ⟨hF, hAF⟩ := hD2.full
  have hbb : b13 ≠ b := fun e' => by
   obtain ⟨g, hg⟩ := hD.bl.some
   rw [← e', n13] at hg; cases hg
  refine ⟨fun _ E => Ww (D2.del b) E b (t ++ jo sep f 0 (l.take i) ++ (if i = 0 then [] else sep)), ?_, ?_⟩
  ·refine ift.of (fun hp0 => ?_) (fun hp0 => ?_)
   ·have hi0 : i ≠ 0 := by have := of_decide_eq_true hp0; omega
    rw [if_neg hi0] at hp ⊢
    refine ⟨_, rfl, hF.str (by simp only [List.length_append]; omega) fun E hE => hE⟩
   ·have hi0 : i = 0 := by have := of_decide_eq_false hp0; omega
    rw [if_pos hi0, List.append_nil]; exact hF
  ·rintro _ E hE
   have hc : E b13 = some (true, .row (Ql.c x)) := hE.le _ _ (by rw [Heap.del_ne _ hbb]; exact c13)
   refine bxT (c := Ql.c) hc (he _ (List.getElem_mem hlt) x E _ _ (hE.down hAF) hx (by simp only [List.length_append]; omega) fun D3 h3 => ?_)
   rw [QM (by omega) (by omega)]
   refine ⟨⟨i + 1, by omega, by omega, ?_⟩, by first | omega | (dsimp only; omega)⟩
   rw [QbW hlt]
   simpa using h3
 ·have hie : i = l.length := by have := of_decide_eq_false h; omega
  subst hie
  rw [List.take_length] at hD
  exact k D hD
theorem QqY {R : α → Qg → Prop} {A : Heap} {s : Sl} {l : List α} {e : Value} {d : α → Nat} {K : Int → Heap → Prop} (hs : SlIs R Qg.c A s l) (hA : A.le H)
 (he : ∀ v ∈ l, ∀ (x : Qg) (D : Heap) (Φ : Int → Heap → Prop), A.le D → R v x → Φ (d v) D → callU Tryz.prog C e [.agg (Qg.c x).toArray] D (fun v H31 => ∃ r30 : Int, v = .int .i64 r30 ∧ Φ r30 H31))
 (k : K (mxL d l) H) : QV C s e K H := by
 apply QV.gh
 apply Qgp
 unfold QdI
 have hlen := SlIs.len hs
 have hbd := SlIs.bd hs
 refine ⟨fun y D => H.le D ∧ ∃ i : Nat, y = (((mxL d (l.take i) : Nat) : Int), (i : Int)) ∧ i ≤ l.length, fun y _ => l.length - y.2.toNat, ⟨Heap.le.refl _, 0, rfl, Nat.zero_le _⟩, ?_⟩
 rintro _ D ⟨hD, i, rfl, hi⟩
 rw [hlen]
 refine ift.of (fun h => ?_) (fun h => ?_)
 ·have hlt : i < l.length := by have := of_decide_eq_true h; dsimp only at this; omega
  refine SlIs.ld hs (hA.trans hD) QdC (by omega) rfl hlt fun x hx => ?_
  intro b n13
  refine nwT rfl ?_
  have l13 := Heap.le_put n13 (g := .row (Qg.c x)) (m := true)
  refine bxT (c := Qg.c) (Heap.put_same ..) (he _ (List.getElem_mem hlt) x _ _ ((hA.trans hD).trans l13) hx ?_)
  dsimp only
  rw [QM (by omega) (by omega)]
  refine ⟨⟨hD.trans l13, i + 1, ?_, by omega⟩, by first | omega | (dsimp only; omega)⟩
  rw [Qgj hlt]
  refine Prod.ext ?_ (by dsimp only; omega)
  dsimp only
  split <;> omega
 ·have hie : i = l.length := by have := of_decide_eq_false h; dsimp only at this; omega
  subst hie
  rw [List.take_length]
  exact ⟨H, Gh.le hD, k⟩
theorem QqV {R : α → Qg → Prop} {A : Heap} {s : Sl} {l : List α} {e : Value} {ok : α → Bool} {K : Bool → Heap → Prop} (hs : SlIs R Qg.c A s l) (hA : A.le H)
 (he : ∀ v ∈ l, ∀ (x : Qg) (D : Heap) (Φ : Bool → Heap → Prop), A.le D → R v x → Φ (ok v) D → callU Tryz.prog C e [.agg (Qg.c x).toArray] D (fun v H31 => ∃ r30 : Bool, v = .bool r30 ∧ Φ r30 H31))
 (k : K (l.all ok) H) (h1c : Value.cells e = #[e] := by exact rfl) : Qah C s e K H := by
 apply Qah.gh
 apply Qh7
 unfold Qe8
 refine ⟨h1c, ?_⟩
 intro b1 n1
 have l1 := Heap.le_put n1 (g := .row [e]) (m := true)
 have c1 : (H.put b1 (.row [e])) b1 = some (true, .row [e]) := Heap.put_same ..
 generalize H.put b1 (.row [e]) = H1 at *
 apply Qci
 unfold Qay
 apply QcI
 unfold QaZ
 have hlen := SlIs.len hs
 have hbd := SlIs.bd hs
 refine ⟨fun y D => H1.le D ∧ ∃ i : Nat, y = (i : Int) ∧ i ≤ l.length ∧ (l.take i).all ok = true, fun y _ => l.length - y.toNat, ⟨Heap.le.refl _, 0, rfl, Nat.zero_le _, rfl⟩, ?_⟩
 rintro _ D ⟨hD, i, rfl, hi, hall⟩
 rw [hlen]
 refine ift.of (fun h => ?_) (fun h => ?_)
 ·have hlt : i < l.length := by have := of_decide_eq_true h; omega
  refine SlIs.ld hs (hA.trans (l1.trans hD)) QdC (by omega) rfl hlt fun x hx => ?_
  have key : ∀ Φ : Bool → Heap → Prop, (∀ D2, D.le D2 → Φ (!ok l[i]) D2) → callU Tryz.prog C (.func (.func 133) (List.toArray []) (List.toArray [pv (some (b1, 0))])) [.agg (Qg.c x).toArray] D (fun v H31 => ∃ r30 : Bool, v = .bool r30 ∧ Φ r30 H31) := fun Φ hΦ => by
   refine ⟨133, [], [pv (some (b1, 0))], rfl, Qhq, ?_⟩
   show Qez C x (b1, 0) Φ D
   apply Qhe
   unfold Qem
   intro b2 n2
   have l2 := Heap.le_put n2 (g := .row (Qg.c x)) (m := true)
   refine ⟨e, by rw [QbU (l2 _ _ (hD _ _ c1))]; rfl, bxT (c := Qg.c) (Heap.put_same ..) (he _ (List.getElem_mem hlt) x _ _ ((hA.trans (l1.trans hD)).trans l2) hx ?_)⟩
   exact hΦ _ l2
  refine key _ fun D2 hD2 => ?_
  refine ift.of (fun hb => ?_) (fun hb => ?_)
  ·have hf : ok l[i] = false := by simpa using hb
   rw [allNo hlt hf] at k
   have e0 : decide ((i : Int) ≥ 0) = true := decide_eq_true (by omega)
   dsimp only
   rw [e0]
   exact ⟨H, Gh.le (l1.trans (hD.trans hD2)), k⟩
  ·have hf : ok l[i] = true := by simpa using hb
   rw [QM (by omega) (by omega)]
   exact ⟨⟨hD.trans hD2, i + 1, by omega, by omega, by rw [allTake hlt, hall, hf]; rfl⟩, by first | omega | (dsimp only; omega)⟩
 ·have hie : i = l.length := by have := of_decide_eq_false h; omega
  subst hie
  rw [List.take_length] at hall
  rw [hall] at k
  exact ⟨H, Gh.le (l1.trans hD), k⟩
theorem Qq5 {R : α → Qg → Prop} {A B : Heap} {s : Sl} {l : List α} {e : Value} {f : α → Str} {sep t : Str} {b : Nat} {K : Heap → Prop} (hs : SlIs R Qg.c A s l) (hW : Ww A B b t)
 (he : ∀ v ∈ l, ∀ (x : Qg) (D : Heap) (u : Str) (Φ : Heap → Prop), Ww A D b u → R v x → u.length + (f v).length ≤ 140737488355328 → (∀ D2, Ww A D2 b (u ++ f v) → Φ D2) → callU Tryz.prog C e [.agg (Qg.c x).toArray] D (fun v H31 => v = .tuple #[] ∧ Φ H31))
 (hl : t.length + (jo sep f 0 l).length ≤ 140737488355328) (k : ∀ D, Ww A D b (t ++ jo sep f 0 l) → K D) : QcM C (some (b, 0)) s sep e K B := by
 apply QhF
 unfold QeL
 have hlen := SlIs.len hs
 have hbd := SlIs.bd hs
 refine ⟨fun y D => ∃ i : Nat, y = (i : Int) ∧ i ≤ l.length ∧ Ww A D b (t ++ jo sep f 0 (l.take i)), fun y _ => l.length - y.toNat, ⟨0, rfl, Nat.zero_le _, by simpa [jo] using hW⟩, ?_⟩
 rintro _ D ⟨i, rfl, hi, hD⟩
 rw [hlen]
 refine ift.of (fun h => ?_) (fun h => ?_)
 ·have hlt : i < l.length := by have := of_decide_eq_true h; omega
  have hp := Qjg (sep := sep) (f := f) l (i + 1)
  rw [QbW hlt] at hp
  simp only [List.length_append] at hp
  refine SlIs.ld hs hD.le QdC (by omega) rfl hlt fun x hx => ?_
  intro b13 n13
  refine nwT rfl ?_
  have l13 := Heap.le_put n13 (g := .row (Qg.c x)) (m := true)
  have c13 : (D.put b13 (.row (Qg.c x))) b13 = some (true, .row (Qg.c x)) := Heap.put_same ..
  have hD2 := hD.up l13
  generalize D.put b13 (.row (Qg.c x)) = D2 at *
  obtain ⟨hF, hAF⟩ := hD2.full
  have hbb : b13 ≠ b := fun e' => by
   obtain ⟨g, hg⟩ := hD.bl.some
   rw [← e', n13] at hg; cases hg
  refine ⟨fun _ E => Ww (D2.del b) E b (t ++ jo sep f 0 (l.take i) ++ (if i = 0 then [] else sep)), ?_, ?_⟩
  ·refine ift.of (fun hp0 => ?_) (fun hp0 => ?_)
   ·have hi0 : i ≠ 0 := by have := of_decide_eq_true hp0; omega
    rw [if_neg hi0] at hp ⊢
    refine ⟨_, rfl, hF.str (by simp only [List.length_append]; omega) fun E hE => hE⟩
   ·have hi0 : i = 0 := by have := of_decide_eq_false hp0; omega
    rw [if_pos hi0, List.append_nil]; exact hF
  ·rintro _ E hE
   have hc : E b13 = some (true, .row (Qg.c x)) := hE.le _ _ (by rw [Heap.del_ne _ hbb]; exact c13)
   refine bxT (c := Qg.c) hc (he _ (List.getElem_mem hlt) x E _ _ (hE.down hAF) hx (by simp only [List.length_append]; omega) fun D3 h3 => ?_)
   rw [QM (by omega) (by omega)]
   refine ⟨⟨i + 1, by omega, by omega, ?_⟩, by first | omega | (dsimp only; omega)⟩
   rw [QbW hlt]
   simpa using h3
 ·have hie : i = l.length := by have := of_decide_eq_false h; omega
  subst hie
  rw [List.take_length] at hD
  exact k D hD
theorem QrI {R : α → Qh → Prop} {A : Heap} {s : Sl} {l : List α} {e : Value} {d : α → Nat} {K : Int → Heap → Prop} (hs : SlIs R Qh.c A s l) (hA : A.le H)
 (he : ∀ v ∈ l, ∀ (x : Qh) (D : Heap) (Φ : Int → Heap → Prop), A.le D → R v x → Φ (d v) D → callU Tryz.prog C e [.agg (Qh.c x).toArray] D (fun v H31 => ∃ r30 : Int, v = .int .i64 r30 ∧ Φ r30 H31))
 (k : K (mxL d l) H) : QY C s e K H := by
 apply QY.gh
 apply QgL
 unfold QdZ
 have hlen := SlIs.len hs
 have hbd := SlIs.bd hs
 refine ⟨fun y D => H.le D ∧ ∃ i : Nat, y = (((mxL d (l.take i) : Nat) : Int), (i : Int)) ∧ i ≤ l.length, fun y _ => l.length - y.2.toNat, ⟨Heap.le.refl _, 0, rfl, Nat.zero_le _⟩, ?_⟩
 rintro _ D ⟨hD, i, rfl, hi⟩
 rw [hlen]
 refine ift.of (fun h => ?_) (fun h => ?_)
 ·have hlt : i < l.length := by have := of_decide_eq_true h; dsimp only at this; omega
  refine SlIs.ld hs (hA.trans hD) Qgk (by omega) rfl hlt fun x hx => ?_
  intro b n13
  refine nwT rfl ?_
  have l13 := Heap.le_put n13 (g := .row (Qh.c x)) (m := true)
  refine bxT (c := Qh.c) (Heap.put_same ..) (he _ (List.getElem_mem hlt) x _ _ ((hA.trans hD).trans l13) hx ?_)
  dsimp only
  rw [QM (by omega) (by omega)]
  refine ⟨⟨hD.trans l13, i + 1, ?_, by omega⟩, by first | omega | (dsimp only; omega)⟩
  rw [Qgj hlt]
  refine Prod.ext ?_ (by dsimp only; omega)
  dsimp only
  split <;> omega
 ·have hie : i = l.length := by have := of_decide_eq_false h; dsimp only at this; omega
  subst hie
  rw [List.take_length]
  exact ⟨H, Gh.le hD, k⟩
theorem Qrs {R : α → Qh → Prop} {A : Heap} {s : Sl} {l : List α} {e : Value} {ok : α → Bool} {K : Bool → Heap → Prop} (hs : SlIs R Qh.c A s l) (hA : A.le H)
 (he : ∀ v ∈ l, ∀ (x : Qh) (D : Heap) (Φ : Bool → Heap → Prop), A.le D → R v x → Φ (ok v) D → callU Tryz.prog C e [.agg (Qh.c x).toArray] D (fun v H31 => ∃ r30 : Bool, v = .bool r30 ∧ Φ r30 H31))
 (k : K (l.all ok) H) (h1c : Value.cells e = #[e] := by exact rfl) : Qam C s e K H := by
 apply Qam.gh
 apply QiP
 unfold Qfk
 refine ⟨h1c, ?_⟩
 intro b1 n1
 have l1 := Heap.le_put n1 (g := .row [e]) (m := true)
 have c1 : (H.put b1 (.row [e])) b1 = some (true, .row [e]) := Heap.put_same ..
 generalize H.put b1 (.row [e]) = H1 at *
 apply Qcz
 unfold QaM
 apply Qc9
 unfold Qba
 have hlen := SlIs.len hs
 have hbd := SlIs.bd hs
 refine ⟨fun y D => H1.le D ∧ ∃ i : Nat, y = (i : Int) ∧ i ≤ l.length ∧ (l.take i).all ok = true, fun y _ => l.length - y.toNat, ⟨Heap.le.refl _, 0, rfl, Nat.zero_le _, rfl⟩, ?_⟩
 rintro _ D ⟨hD, i, rfl, hi, hall⟩
 rw [hlen]
 refine ift.of (fun h => ?_) (fun h => ?_)
 ·have hlt : i < l.length := by have := of_decide_eq_true h; omega
  refine SlIs.ld hs (hA.trans (l1.trans hD)) Qgk (by omega) rfl hlt fun x hx => ?_
  have key : ∀ Φ : Bool → Heap → Prop, (∀ D2, D.le D2 → Φ (!ok l[i]) D2) → callU Tryz.prog C (.func (.func 139) (List.toArray []) (List.toArray [pv (some (b1, 0))])) [.agg (Qh.c x).toArray] D (fun v H31 => ∃ r30 : Bool, v = .bool r30 ∧ Φ r30 H31) := fun Φ hΦ => by
   refine ⟨139, [], [pv (some (b1, 0))], rfl, QhP, ?_⟩
   show QeW C x (b1, 0) Φ D
   apply Qhz
   unfold QeF
   intro b2 n2
   have l2 := Heap.le_put n2 (g := .row (Qh.c x)) (m := true)
   refine ⟨e, by rw [QbU (l2 _ _ (hD _ _ c1))]; rfl, bxT (c := Qh.c) (Heap.put_same ..) (he _ (List.getElem_mem hlt) x _ _ ((hA.trans (l1.trans hD)).trans l2) hx ?_)⟩
   exact hΦ _ l2
  refine key _ fun D2 hD2 => ?_
  refine ift.of (fun hb => ?_) (fun hb => ?_)
  ·have hf : ok l[i] = false := by simpa using hb
   rw [allNo hlt hf] at k
   have e0 : decide ((i : Int) ≥ 0) = true := decide_eq_true (by omega)
   dsimp only
   rw [e0]
   exact ⟨H, Gh.le (l1.trans (hD.trans hD2)), k⟩
  ·have hf : ok l[i] = true := by simpa using hb
   rw [QM (by omega) (by omega)]
   exact ⟨⟨hD.trans hD2, i + 1, by omega, by omega, by rw [allTake hlt, hall, hf]; rfl⟩, by first | omega | (dsimp only; omega)⟩
 ·have hie : i = l.length := by have := of_decide_eq_false h; omega
  subst hie
  rw [List.take_length] at hall
  rw [hall] at k
  exact ⟨H, Gh.le (l1.trans hD), k⟩
theorem Qr4 {R : α → Qh → Prop} {A B : Heap} {s : Sl} {l : List α} {e : Value} {f : α → Str} {sep t : Str} {b : Nat} {K : Heap → Prop} (hs : SlIs R Qh.c A s l) (hW : Ww A B b t)
 (he : ∀ v ∈ l, ∀ (x : Qh) (D : Heap) (u : Str) (Φ : Heap → Prop), Ww A D b u → R v x → u.length + (f v).length ≤ 140737488355328 → (∀ D2, Ww A D2 b (u ++ f v) → Φ D2) → callU Tryz.prog C e [.agg (Qh.c x).toArray] D (fun v H31 => v = .tuple #[] ∧ Φ H31))
 (hl : t.length + (jo sep f 0 l).length ≤ 140737488355328) (k : ∀ D, Ww A D b (t ++ jo sep f 0 l) → K D) : Qdc C (some (b, 0)) s sep e K B := by
 apply Qia
 unfold Qfb
 have hlen := SlIs.len hs
 have hbd := SlIs.bd hs
 refine ⟨fun y D => ∃ i : Nat, y = (i : Int) ∧ i ≤ l.length ∧ Ww A D b (t ++ jo sep f 0 (l.take i)), fun y _ => l.length - y.toNat, ⟨0, rfl, Nat.zero_le _, by simpa [jo] using hW⟩, ?_⟩
 rintro _ D ⟨i, rfl, hi, hD⟩
 rw [hlen]
 refine ift.of (fun h => ?_) (fun h => ?_)
 ·have hlt : i < l.length := by have := of_decide_eq_true h; omega
  have hp := Qjg (sep := sep) (f := f) l (i + 1)
  rw [QbW hlt] at hp
  simp only [List.length_append] at hp
  refine SlIs.ld hs hD.le Qgk (by omega) rfl hlt fun x hx => ?_
  intro b13 n13
  refine nwT rfl ?_
  have l13 := Heap.le_put n13 (g := .row (Qh.c x)) (m := true)
  have c13 : (D.put b13 (.row (Qh.c x))) b13 = some (true, .row (Qh.c x)) := Heap.put_same ..
  have hD2 := hD.up l13
  generalize D.put b13 (.row (Qh.c x)) = D2 at *
  obtain ⟨hF, hAF⟩ := hD2.full
  have hbb : b13 ≠ b := fun e' => by
   obtain ⟨g, hg⟩ := hD.bl.some
   rw [← e', n13] at hg; cases hg
  refine ⟨fun _ E => Ww (D2.del b) E b (t ++ jo sep f 0 (l.take i) ++ (if i = 0 then [] else sep)), ?_, ?_⟩
  ·refine ift.of (fun hp0 => ?_) (fun hp0 => ?_)
   ·have hi0 : i ≠ 0 := by have := of_decide_eq_true hp0; omega
    rw [if_neg hi0] at hp ⊢
    refine ⟨_, rfl, hF.str (by simp only [List.length_append]; omega) fun E hE => hE⟩
   ·have hi0 : i = 0 := by have := of_decide_eq_false hp0; omega
    rw [if_pos hi0, List.append_nil]; exact hF
  ·rintro _ E hE
   have hc : E b13 = some (true, .row (Qh.c x)) := hE.le _ _ (by rw [Heap.del_ne _ hbb]; exact c13)
   refine bxT (c := Qh.c) hc (he _ (List.getElem_mem hlt) x E _ _ (hE.down hAF) hx (by simp only [List.length_append]; omega) fun D3 h3 => ?_)
   rw [QM (by omega) (by omega)]
   refine ⟨⟨i + 1, by omega, by omega, ?_⟩, by first | omega | (dsimp only; omega)⟩
   rw [QbW hlt]
   simpa using h3
 ·have hie : i = l.length := by have := of_decide_eq_false h; omega
  subst hie
  rw [List.take_length] at hD
  exact k D hD
theorem Qt5 {R : α → Qk → Prop} {A : Heap} {s : Sl} {l : List α} {e : Value} {d : α → Nat} {K : Int → Heap → Prop} (hs : SlIs R Qk.c A s l) (hA : A.le H)
 (he : ∀ v ∈ l, ∀ (x : Qk) (D : Heap) (Φ : Int → Heap → Prop), A.le D → R v x → Φ (d v) D → callU Tryz.prog C e [.agg (Qk.c x).toArray] D (fun v H31 => ∃ r30 : Int, v = .int .i64 r30 ∧ Φ r30 H31))
 (k : K (mxL d l) H) : Q7 C s e K H := by
 apply Q7.gh
 apply QhB
 unfold QeH
 have hlen := SlIs.len hs
 have hbd := SlIs.bd hs
 refine ⟨fun y D => H.le D ∧ ∃ i : Nat, y = (((mxL d (l.take i) : Nat) : Int), (i : Int)) ∧ i ≤ l.length, fun y _ => l.length - y.2.toNat, ⟨Heap.le.refl _, 0, rfl, Nat.zero_le _⟩, ?_⟩
 rintro _ D ⟨hD, i, rfl, hi⟩
 rw [hlen]
 refine ift.of (fun h => ?_) (fun h => ?_)
 ·have hlt : i < l.length := by have := of_decide_eq_true h; dsimp only at this; omega
  refine SlIs.ld hs (hA.trans hD) QgU (by omega) rfl hlt fun x hx => ?_
  intro b n13
  refine nwT rfl ?_
  have l13 := Heap.le_put n13 (g := .row (Qk.c x)) (m := true)
  refine bxT (c := Qk.c) (Heap.put_same ..) (he _ (List.getElem_mem hlt) x _ _ ((hA.trans hD).trans l13) hx ?_)
  dsimp only
  rw [QM (by omega) (by omega)]
  refine ⟨⟨hD.trans l13, i + 1, ?_, by omega⟩, by first | omega | (dsimp only; omega)⟩
  rw [Qgj hlt]
  refine Prod.ext ?_ (by dsimp only; omega)
  dsimp only
  split <;> omega
 ·have hie : i = l.length := by have := of_decide_eq_false h; dsimp only at this; omega
  subst hie
  rw [List.take_length]
  exact ⟨H, Gh.le hD, k⟩
theorem Qrt {R : α → Qk → Prop} {A : Heap} {s : Sl} {l : List α} {e : Value} {ok : α → Bool} {K : Bool → Heap → Prop} (hs : SlIs R Qk.c A s l) (hA : A.le H)
 (he : ∀ v ∈ l, ∀ (x : Qk) (D : Heap) (Φ : Bool → Heap → Prop), A.le D → R v x → Φ (ok v) D → callU Tryz.prog C e [.agg (Qk.c x).toArray] D (fun v H31 => ∃ r30 : Bool, v = .bool r30 ∧ Φ r30 H31))
 (k : K (l.all ok) H) (h1c : Value.cells e = #[e] := by exact rfl) : Qan C s e K H := by
 apply Qan.gh
 apply QjO
 unfold Qf6
 refine ⟨h1c, ?_⟩
 intro b1 n1
 have l1 := Heap.le_put n1 (g := .row [e]) (m := true)
 have c1 : (H.put b1 (.row [e])) b1 = some (true, .row [e]) := Heap.put_same ..
 generalize H.put b1 (.row [e]) = H1 at *
 apply Qdp
 unfold Qbm
 apply Qd1
 unfold QbG
 have hlen := SlIs.len hs
 have hbd := SlIs.bd hs
 refine ⟨fun y D => H1.le D ∧ ∃ i : Nat, y = (i : Int) ∧ i ≤ l.length ∧ (l.take i).all ok = true, fun y _ => l.length - y.toNat, ⟨Heap.le.refl _, 0, rfl, Nat.zero_le _, rfl⟩, ?_⟩
 rintro _ D ⟨hD, i, rfl, hi, hall⟩
 rw [hlen]
 refine ift.of (fun h => ?_) (fun h => ?_)
 ·have hlt : i < l.length := by have := of_decide_eq_true h; omega
  refine SlIs.ld hs (hA.trans (l1.trans hD)) QgU (by omega) rfl hlt fun x hx => ?_
  have key : ∀ Φ : Bool → Heap → Prop, (∀ D2, D.le D2 → Φ (!ok l[i]) D2) → callU Tryz.prog C (.func (.func 144) (List.toArray []) (List.toArray [pv (some (b1, 0))])) [.agg (Qk.c x).toArray] D (fun v H31 => ∃ r30 : Bool, v = .bool r30 ∧ Φ r30 H31) := fun Φ hΦ => by
   refine ⟨144, [], [pv (some (b1, 0))], rfl, QiZ, ?_⟩
   show QfC C x (b1, 0) Φ D
   apply QiQ
   unfold Qfl
   intro b2 n2
   have l2 := Heap.le_put n2 (g := .row (Qk.c x)) (m := true)
   refine ⟨e, by rw [QbU (l2 _ _ (hD _ _ c1))]; rfl, bxT (c := Qk.c) (Heap.put_same ..) (he _ (List.getElem_mem hlt) x _ _ ((hA.trans (l1.trans hD)).trans l2) hx ?_)⟩
   exact hΦ _ l2
  refine key _ fun D2 hD2 => ?_
  refine ift.of (fun hb => ?_) (fun hb => ?_)
  ·have hf : ok l[i] = false := by simpa using hb
   rw [allNo hlt hf] at k
   have e0 : decide ((i : Int) ≥ 0) = true := decide_eq_true (by omega)
   dsimp only
   rw [e0]
   exact ⟨H, Gh.le (l1.trans (hD.trans hD2)), k⟩
  ·have hf : ok l[i] = true := by simpa using hb
   rw [QM (by omega) (by omega)]
   exact ⟨⟨hD.trans hD2, i + 1, by omega, by omega, by rw [allTake hlt, hall, hf]; rfl⟩, by first | omega | (dsimp only; omega)⟩
 ·have hie : i = l.length := by have := of_decide_eq_false h; omega
  subst hie
  rw [List.take_length] at hall
  rw [hall] at k
  exact ⟨H, Gh.le (l1.trans hD), k⟩
theorem Qui {R : α → Qk → Prop} {A B : Heap} {s : Sl} {l : List α} {e : Value} {f : α → Str} {sep t : Str} {b : Nat} {K : Heap → Prop} (hs : SlIs R Qk.c A s l) (hW : Ww A B b t)
 (he : ∀ v ∈ l, ∀ (x : Qk) (D : Heap) (u : Str) (Φ : Heap → Prop), Ww A D b u → R v x → u.length + (f v).length ≤ 140737488355328 → (∀ D2, Ww A D2 b (u ++ f v) → Φ D2) → callU Tryz.prog C e [.agg (Qk.c x).toArray] D (fun v H31 => v = .tuple #[] ∧ Φ H31))
 (hl : t.length + (jo sep f 0 l).length ≤ 140737488355328) (k : ∀ D, Ww A D b (t ++ jo sep f 0 l) → K D) : Qd5 C (some (b, 0)) s sep e K B := by
 apply Qi8
 unfold QfM
 have hlen := SlIs.len hs
 have hbd := SlIs.bd hs
 refine ⟨fun y D => ∃ i : Nat, y = (i : Int) ∧ i ≤ l.length ∧ Ww A D b (t ++ jo sep f 0 (l.take i)), fun y _ => l.length - y.toNat, ⟨0, rfl, Nat.zero_le _, by simpa [jo] using hW⟩, ?_⟩
 rintro _ D ⟨i, rfl, hi, hD⟩
 rw [hlen]
 refine ift.of (fun h => ?_) (fun h => ?_)
 ·have hlt : i < l.length := by have := of_decide_eq_true h; omega
  have hp := Qjg (sep := sep) (f := f) l (i + 1)
  rw [QbW hlt] at hp
  simp only [List.length_append] at hp
  refine SlIs.ld hs hD.le QgU (by omega) rfl hlt fun x hx => ?_
  intro b13 n13
  refine nwT rfl ?_
  have l13 := Heap.le_put n13 (g := .row (Qk.c x)) (m := true)
  have c13 : (D.put b13 (.row (Qk.c x))) b13 = some (true, .row (Qk.c x)) := Heap.put_same ..
  have hD2 := hD.up l13
  generalize D.put b13 (.row (Qk.c x)) = D2 at *
  obtain ⟨hF, hAF⟩ := hD2.full
  have hbb : b13 ≠ b := fun e' => by
   obtain ⟨g, hg⟩ := hD.bl.some
   rw [← e', n13] at hg; cases hg
  refine ⟨fun _ E => Ww (D2.del b) E b (t ++ jo sep f 0 (l.take i) ++ (if i = 0 then [] else sep)), ?_, ?_⟩
  ·refine ift.of (fun hp0 => ?_) (fun hp0 => ?_)
   ·have hi0 : i ≠ 0 := by have := of_decide_eq_true hp0; omega
    rw [if_neg hi0] at hp ⊢
    refine ⟨_, rfl, hF.str (by simp only [List.length_append]; omega) fun E hE => hE⟩
   ·have hi0 : i = 0 := by have := of_decide_eq_false hp0; omega
    rw [if_pos hi0, List.append_nil]; exact hF
  ·rintro _ E hE
   have hc : E b13 = some (true, .row (Qk.c x)) := hE.le _ _ (by rw [Heap.del_ne _ hbb]; exact c13)
   refine bxT (c := Qk.c) hc (he _ (List.getElem_mem hlt) x E _ _ (hE.down hAF) hx (by simp only [List.length_append]; omega) fun D3 h3 => ?_)
   rw [QM (by omega) (by omega)]
   refine ⟨⟨i + 1, by omega, by omega, ?_⟩, by first | omega | (dsimp only; omega)⟩
   rw [QbW hlt]
   simpa using h3
 ·have hie : i = l.length := by have := of_decide_eq_false h; omega
  subst hie
  rw [List.take_length] at hD
  exact k D hD
theorem QsS {R : α → Qj → Prop} {A : Heap} {s : Sl} {l : List α} {e : Value} {d : α → Nat} {K : Int → Heap → Prop} (hs : SlIs R Qj.c A s l) (hA : A.le H)
 (he : ∀ v ∈ l, ∀ (x : Qj) (D : Heap) (Φ : Int → Heap → Prop), A.le D → R v x → Φ (d v) D → callU Tryz.prog C e [.agg (Qj.c x).toArray] D (fun v H31 => ∃ r30 : Int, v = .int .i64 r30 ∧ Φ r30 H31))
 (k : K (mxL d l) H) : Q1 C s e K H := by
 apply Q1.gh
 apply Qhg
 unfold Qeo
 have hlen := SlIs.len hs
 have hbd := SlIs.bd hs
 refine ⟨fun y D => H.le D ∧ ∃ i : Nat, y = (((mxL d (l.take i) : Nat) : Int), (i : Int)) ∧ i ≤ l.length, fun y _ => l.length - y.2.toNat, ⟨Heap.le.refl _, 0, rfl, Nat.zero_le _⟩, ?_⟩
 rintro _ D ⟨hD, i, rfl, hi⟩
 rw [hlen]
 refine ift.of (fun h => ?_) (fun h => ?_)
 ·have hlt : i < l.length := by have := of_decide_eq_true h; dsimp only at this; omega
  refine SlIs.ld hs (hA.trans hD) QhJ (by omega) rfl hlt fun x hx => ?_
  intro b n13
  refine nwT rfl ?_
  have l13 := Heap.le_put n13 (g := .row (Qj.c x)) (m := true)
  refine bxT (c := Qj.c) (Heap.put_same ..) (he _ (List.getElem_mem hlt) x _ _ ((hA.trans hD).trans l13) hx ?_)
  dsimp only
  rw [QM (by omega) (by omega)]
  refine ⟨⟨hD.trans l13, i + 1, ?_, by omega⟩, by first | omega | (dsimp only; omega)⟩
  rw [Qgj hlt]
  refine Prod.ext ?_ (by dsimp only; omega)
  dsimp only
  split <;> omega
 ·have hie : i = l.length := by have := of_decide_eq_false h; dsimp only at this; omega
  subst hie
  rw [List.take_length]
  exact ⟨H, Gh.le hD, k⟩
theorem Qqi {R : α → Qj → Prop} {A : Heap} {s : Sl} {l : List α} {e : Value} {ok : α → Bool} {K : Bool → Heap → Prop} (hs : SlIs R Qj.c A s l) (hA : A.le H)
 (he : ∀ v ∈ l, ∀ (x : Qj) (D : Heap) (Φ : Bool → Heap → Prop), A.le D → R v x → Φ (ok v) D → callU Tryz.prog C e [.agg (Qj.c x).toArray] D (fun v H31 => ∃ r30 : Bool, v = .bool r30 ∧ Φ r30 H31))
 (k : K (l.all ok) H) (h1c : Value.cells e = #[e] := by exact rfl) : Qae C s e K H := by
 apply Qae.gh
 apply Qi7
 unfold QfL
 refine ⟨h1c, ?_⟩
 intro b1 n1
 have l1 := Heap.le_put n1 (g := .row [e]) (m := true)
 have c1 : (H.put b1 (.row [e])) b1 = some (true, .row [e]) := Heap.put_same ..
 generalize H.put b1 (.row [e]) = H1 at *
 apply QcQ
 unfold Qa4
 apply Qdv
 unfold Qbs
 have hlen := SlIs.len hs
 have hbd := SlIs.bd hs
 refine ⟨fun y D => H1.le D ∧ ∃ i : Nat, y = (i : Int) ∧ i ≤ l.length ∧ (l.take i).all ok = true, fun y _ => l.length - y.toNat, ⟨Heap.le.refl _, 0, rfl, Nat.zero_le _, rfl⟩, ?_⟩
 rintro _ D ⟨hD, i, rfl, hi, hall⟩
 rw [hlen]
 refine ift.of (fun h => ?_) (fun h => ?_)
 ·have hlt : i < l.length := by have := of_decide_eq_true h; omega
  refine SlIs.ld hs (hA.trans (l1.trans hD)) QhJ (by omega) rfl hlt fun x hx => ?_
  have key : ∀ Φ : Bool → Heap → Prop, (∀ D2, D.le D2 → Φ (!ok l[i]) D2) → callU Tryz.prog C (.func (.func 149) (List.toArray []) (List.toArray [pv (some (b1, 0))])) [.agg (Qj.c x).toArray] D (fun v H31 => ∃ r30 : Bool, v = .bool r30 ∧ Φ r30 H31) := fun Φ hΦ => by
   refine ⟨149, [], [pv (some (b1, 0))], rfl, Qiq, ?_⟩
   show Qff C x (b1, 0) Φ D
   apply Qh6
   unfold Qe7
   intro b2 n2
   have l2 := Heap.le_put n2 (g := .row (Qj.c x)) (m := true)
   refine ⟨e, by rw [QbU (l2 _ _ (hD _ _ c1))]; rfl, bxT (c := Qj.c) (Heap.put_same ..) (he _ (List.getElem_mem hlt) x _ _ ((hA.trans (l1.trans hD)).trans l2) hx ?_)⟩
   exact hΦ _ l2
  refine key _ fun D2 hD2 => ?_
  refine ift.of (fun hb => ?_) (fun hb => ?_)
  ·have hf : ok l[i] = false := by simpa using hb
   rw [allNo hlt hf] at k
   have e0 : decide ((i : Int) ≥ 0) = true := decide_eq_true (by omega)
   dsimp only
   rw [e0]
   exact ⟨H, Gh.le (l1.trans (hD.trans hD2)), k⟩
  ·have hf : ok l[i] = true := by simpa using hb
   rw [QM (by omega) (by omega)]
   exact ⟨⟨hD.trans hD2, i + 1, by omega, by omega, by rw [allTake hlt, hall, hf]; rfl⟩, by first | omega | (dsimp only; omega)⟩
 ·have hie : i = l.length := by have := of_decide_eq_false h; omega
  subst hie
  rw [List.take_length] at hall
  rw [hall] at k
  exact ⟨H, Gh.le (l1.trans hD), k⟩
theorem Qs2 {R : α → Qj → Prop} {A B : Heap} {s : Sl} {l : List α} {e : Value} {f : α → Str} {sep t : Str} {b : Nat} {K : Heap → Prop} (hs : SlIs R Qj.c A s l) (hW : Ww A B b t)
 (he : ∀ v ∈ l, ∀ (x : Qj) (D : Heap) (u : Str) (Φ : Heap → Prop), Ww A D b u → R v x → u.length + (f v).length ≤ 140737488355328 → (∀ D2, Ww A D2 b (u ++ f v) → Φ D2) → callU Tryz.prog C e [.agg (Qj.c x).toArray] D (fun v H31 => v = .tuple #[] ∧ Φ H31))
 (hl : t.length + (jo sep f 0 l).length ≤ 140737488355328) (k : ∀ D, Ww A D b (t ++ jo sep f 0 l) → K D) : Qdz C (some (b, 0)) s sep e K B := by
 apply QiS
 unfold Qfn
 have hlen := SlIs.len hs
 have hbd := SlIs.bd hs
 refine ⟨fun y D => ∃ i : Nat, y = (i : Int) ∧ i ≤ l.length ∧ Ww A D b (t ++ jo sep f 0 (l.take i)), fun y _ => l.length - y.toNat, ⟨0, rfl, Nat.zero_le _, by simpa [jo] using hW⟩, ?_⟩
 rintro _ D ⟨i, rfl, hi, hD⟩
 rw [hlen]
 refine ift.of (fun h => ?_) (fun h => ?_)
 ·have hlt : i < l.length := by have := of_decide_eq_true h; omega
  have hp := Qjg (sep := sep) (f := f) l (i + 1)
  rw [QbW hlt] at hp
  simp only [List.length_append] at hp
  refine SlIs.ld hs hD.le QhJ (by omega) rfl hlt fun x hx => ?_
  intro b13 n13
  refine nwT rfl ?_
  have l13 := Heap.le_put n13 (g := .row (Qj.c x)) (m := true)
  have c13 : (D.put b13 (.row (Qj.c x))) b13 = some (true, .row (Qj.c x)) := Heap.put_same ..
  have hD2 := hD.up l13
  generalize D.put b13 (.row (Qj.c x)) = D2 at *
  obtain ⟨hF, hAF⟩ := hD2.full
  have hbb : b13 ≠ b := fun e' => by
   obtain ⟨g, hg⟩ := hD.bl.some
   rw [← e', n13] at hg; cases hg
  refine ⟨fun _ E => Ww (D2.del b) E b (t ++ jo sep f 0 (l.take i) ++ (if i = 0 then [] else sep)), ?_, ?_⟩
  ·refine ift.of (fun hp0 => ?_) (fun hp0 => ?_)
   ·have hi0 : i ≠ 0 := by have := of_decide_eq_true hp0; omega
    rw [if_neg hi0] at hp ⊢
    refine ⟨_, rfl, hF.str (by simp only [List.length_append]; omega) fun E hE => hE⟩
   ·have hi0 : i = 0 := by have := of_decide_eq_false hp0; omega
    rw [if_pos hi0, List.append_nil]; exact hF
  ·rintro _ E hE
   have hc : E b13 = some (true, .row (Qj.c x)) := hE.le _ _ (by rw [Heap.del_ne _ hbb]; exact c13)
   refine bxT (c := Qj.c) hc (he _ (List.getElem_mem hlt) x E _ _ (hE.down hAF) hx (by simp only [List.length_append]; omega) fun D3 h3 => ?_)
   rw [QM (by omega) (by omega)]
   refine ⟨⟨i + 1, by omega, by omega, ?_⟩, by first | omega | (dsimp only; omega)⟩
   rw [QbW hlt]
   simpa using h3
 ·have hie : i = l.length := by have := of_decide_eq_false h; omega
  subst hie
  rw [List.take_length] at hD
  exact k D hD
theorem QqX {R : α → Qd → Prop} {A : Heap} {s : Sl} {l : List α} {e : Value} {d : α → Nat} {K : Int → Heap → Prop} (hs : SlIs R Qd.c A s l) (hA : A.le H)
 (he : ∀ v ∈ l, ∀ (x : Qd) (D : Heap) (Φ : Int → Heap → Prop), A.le D → R v x → Φ (d v) D → callU Tryz.prog C e [.agg (Qd.c x).toArray] D (fun v H31 => ∃ r30 : Int, v = .int .i64 r30 ∧ Φ r30 H31))
 (k : K (mxL d l) H) : QF C s e K H := by
 apply QF.gh
 apply Qgo
 unfold QdH
 have hlen := SlIs.len hs
 have hbd := SlIs.bd hs
 refine ⟨fun y D => H.le D ∧ ∃ i : Nat, y = (((mxL d (l.take i) : Nat) : Int), (i : Int)) ∧ i ≤ l.length, fun y _ => l.length - y.2.toNat, ⟨Heap.le.refl _, 0, rfl, Nat.zero_le _⟩, ?_⟩
 rintro _ D ⟨hD, i, rfl, hi⟩
 rw [hlen]
 refine ift.of (fun h => ?_) (fun h => ?_)
 ·have hlt : i < l.length := by have := of_decide_eq_true h; dsimp only at this; omega
  refine SlIs.ld hs (hA.trans hD) Qev (by omega) rfl hlt fun x hx => ?_
  intro b n13
  refine nwT rfl ?_
  have l13 := Heap.le_put n13 (g := .row (Qd.c x)) (m := true)
  refine bxT (c := Qd.c) (Heap.put_same ..) (he _ (List.getElem_mem hlt) x _ _ ((hA.trans hD).trans l13) hx ?_)
  dsimp only
  rw [QM (by omega) (by omega)]
  refine ⟨⟨hD.trans l13, i + 1, ?_, by omega⟩, by first | omega | (dsimp only; omega)⟩
  rw [Qgj hlt]
  refine Prod.ext ?_ (by dsimp only; omega)
  dsimp only
  split <;> omega
 ·have hie : i = l.length := by have := of_decide_eq_false h; dsimp only at this; omega
  subst hie
  rw [List.take_length]
  exact ⟨H, Gh.le hD, k⟩
theorem QqU {R : α → Qd → Prop} {A : Heap} {s : Sl} {l : List α} {e : Value} {ok : α → Bool} {K : Bool → Heap → Prop} (hs : SlIs R Qd.c A s l) (hA : A.le H)
 (he : ∀ v ∈ l, ∀ (x : Qd) (D : Heap) (Φ : Bool → Heap → Prop), A.le D → R v x → Φ (ok v) D → callU Tryz.prog C e [.agg (Qd.c x).toArray] D (fun v H31 => ∃ r30 : Bool, v = .bool r30 ∧ Φ r30 H31))
 (k : K (l.all ok) H) (h1c : Value.cells e = #[e] := by exact rfl) : QS C s e K H := by
 apply QS.gh
 apply Qh5
 unfold Qe6
 refine ⟨h1c, ?_⟩
 intro b1 n1
 have l1 := Heap.le_put n1 (g := .row [e]) (m := true)
 have c1 : (H.put b1 (.row [e])) b1 = some (true, .row [e]) := Heap.put_same ..
 generalize H.put b1 (.row [e]) = H1 at *
 apply Qch
 unfold Qax
 apply QcH
 unfold QaY
 have hlen := SlIs.len hs
 have hbd := SlIs.bd hs
 refine ⟨fun y D => H1.le D ∧ ∃ i : Nat, y = (i : Int) ∧ i ≤ l.length ∧ (l.take i).all ok = true, fun y _ => l.length - y.toNat, ⟨Heap.le.refl _, 0, rfl, Nat.zero_le _, rfl⟩, ?_⟩
 rintro _ D ⟨hD, i, rfl, hi, hall⟩
 rw [hlen]
 refine ift.of (fun h => ?_) (fun h => ?_)
 ·have hlt : i < l.length := by have := of_decide_eq_true h; omega
  refine SlIs.ld hs (hA.trans (l1.trans hD)) Qev (by omega) rfl hlt fun x hx => ?_
  have key : ∀ Φ : Bool → Heap → Prop, (∀ D2, D.le D2 → Φ (!ok l[i]) D2) → callU Tryz.prog C (.func (.func 151) (List.toArray []) (List.toArray [pv (some (b1, 0))])) [.agg (Qd.c x).toArray] D (fun v H31 => ∃ r30 : Bool, v = .bool r30 ∧ Φ r30 H31) := fun Φ hΦ => by
   refine ⟨151, [], [pv (some (b1, 0))], rfl, Qhp, ?_⟩
   show Qey C x (b1, 0) Φ D
   apply Qhd
   unfold Qel
   intro b2 n2
   have l2 := Heap.le_put n2 (g := .row (Qd.c x)) (m := true)
   refine ⟨e, by rw [QbU (l2 _ _ (hD _ _ c1))]; rfl, bxT (c := Qd.c) (Heap.put_same ..) (he _ (List.getElem_mem hlt) x _ _ ((hA.trans (l1.trans hD)).trans l2) hx ?_)⟩
   exact hΦ _ l2
  refine key _ fun D2 hD2 => ?_
  refine ift.of (fun hb => ?_) (fun hb => ?_)
  ·have hf : ok l[i] = false := by simpa using hb
   rw [allNo hlt hf] at k
   have e0 : decide ((i : Int) ≥ 0) = true := decide_eq_true (by omega)
   dsimp only
   rw [e0]
   exact ⟨H, Gh.le (l1.trans (hD.trans hD2)), k⟩
  ·have hf : ok l[i] = true := by simpa using hb
   rw [QM (by omega) (by omega)]
   exact ⟨⟨hD.trans hD2, i + 1, by omega, by omega, by rw [allTake hlt, hall, hf]; rfl⟩, by first | omega | (dsimp only; omega)⟩
 ·have hie : i = l.length := by have := of_decide_eq_false h; omega
  subst hie
  rw [List.take_length] at hall
  rw [hall] at k
  exact ⟨H, Gh.le (l1.trans hD), k⟩
theorem Qq4 {R : α → Qd → Prop} {A B : Heap} {s : Sl} {l : List α} {e : Value} {f : α → Str} {sep t : Str} {b : Nat} {K : Heap → Prop} (hs : SlIs R Qd.c A s l) (hW : Ww A B b t)
 (he : ∀ v ∈ l, ∀ (x : Qd) (D : Heap) (u : Str) (Φ : Heap → Prop), Ww A D b u → R v x → u.length + (f v).length ≤ 140737488355328 → (∀ D2, Ww A D2 b (u ++ f v) → Φ D2) → callU Tryz.prog C e [.agg (Qd.c x).toArray] D (fun v H31 => v = .tuple #[] ∧ Φ H31))
 (hl : t.length + (jo sep f 0 l).length ≤ 140737488355328) (k : ∀ D, Ww A D b (t ++ jo sep f 0 l) → K D) : QaU C (some (b, 0)) s sep e K B := by
 apply QhE
 unfold QeK
 have hlen := SlIs.len hs
 have hbd := SlIs.bd hs
 refine ⟨fun y D => ∃ i : Nat, y = (i : Int) ∧ i ≤ l.length ∧ Ww A D b (t ++ jo sep f 0 (l.take i)), fun y _ => l.length - y.toNat, ⟨0, rfl, Nat.zero_le _, by simpa [jo] using hW⟩, ?_⟩
 rintro _ D ⟨i, rfl, hi, hD⟩
 rw [hlen]
 refine ift.of (fun h => ?_) (fun h => ?_)
 ·have hlt : i < l.length := by have := of_decide_eq_true h; omega
  have hp := Qjg (sep := sep) (f := f) l (i + 1)
  rw [QbW hlt] at hp
  simp only [List.length_append] at hp
  refine SlIs.ld hs hD.le Qev (by omega) rfl hlt fun x hx => ?_
  intro b13 n13
  refine nwT rfl ?_
  have l13 := Heap.le_put n13 (g := .row (Qd.c x)) (m := true)
  have c13 : (D.put b13 (.row (Qd.c x))) b13 = some (true, .row (Qd.c x)) := Heap.put_same ..
  have hD2 := hD.up l13
  generalize D.put b13 (.row (Qd.c x)) = D2 at *
  obtain ⟨hF, hAF⟩ := hD2.full
  have hbb : b13 ≠ b := fun e' => by
   obtain ⟨g, hg⟩ := hD.bl.some
   rw [← e', n13] at hg; cases hg
  refine ⟨fun _ E => Ww (D2.del b) E b (t ++ jo sep f 0 (l.take i) ++ (if i = 0 then [] else sep)), ?_, ?_⟩
  ·refine ift.of (fun hp0 => ?_) (fun hp0 => ?_)
   ·have hi0 : i ≠ 0 := by have := of_decide_eq_true hp0; omega
    rw [if_neg hi0] at hp ⊢
    refine ⟨_, rfl, hF.str (by simp only [List.length_append]; omega) fun E hE => hE⟩
   ·have hi0 : i = 0 := by have := of_decide_eq_false hp0; omega
    rw [if_pos hi0, List.append_nil]; exact hF
  ·rintro _ E hE
   have hc : E b13 = some (true, .row (Qd.c x)) := hE.le _ _ (by rw [Heap.del_ne _ hbb]; exact c13)
   refine bxT (c := Qd.c) hc (he _ (List.getElem_mem hlt) x E _ _ (hE.down hAF) hx (by simp only [List.length_append]; omega) fun D3 h3 => ?_)
   rw [QM (by omega) (by omega)]
   refine ⟨⟨i + 1, by omega, by omega, ?_⟩, by first | omega | (dsimp only; omega)⟩
   rw [QbW hlt]
   simpa using h3
 ·have hie : i = l.length := by have := of_decide_eq_false h; omega
  subst hie
  rw [List.take_length] at hD
  exact k D hD
theorem QpV {R : α → Qc → Prop} {A : Heap} {s : Sl} {l : List α} {e : Value} {d : α → Nat} {K : Int → Heap → Prop} (hs : SlIs R Qc.c A s l) (hA : A.le H)
 (he : ∀ v ∈ l, ∀ (x : Qc) (D : Heap) (Φ : Int → Heap → Prop), A.le D → R v x → Φ (d v) D → callU Tryz.prog C e [.agg (Qc.c x).toArray] D (fun v H31 => ∃ r30 : Int, v = .int .i64 r30 ∧ Φ r30 H31))
 (k : K (mxL d l) H) : QD C s e K H := by
 apply QD.gh
 apply Qgf
 unfold Qdn
 have hlen := SlIs.len hs
 have hbd := SlIs.bd hs
 refine ⟨fun y D => H.le D ∧ ∃ i : Nat, y = (((mxL d (l.take i) : Nat) : Int), (i : Int)) ∧ i ≤ l.length, fun y _ => l.length - y.2.toNat, ⟨Heap.le.refl _, 0, rfl, Nat.zero_le _⟩, ?_⟩
 rintro _ D ⟨hD, i, rfl, hi⟩
 rw [hlen]
 refine ift.of (fun h => ?_) (fun h => ?_)
 ·have hlt : i < l.length := by have := of_decide_eq_true h; dsimp only at this; omega
  refine SlIs.ld hs (hA.trans hD) QdB (by omega) rfl hlt fun x hx => ?_
  intro b n13
  refine nwT rfl ?_
  have l13 := Heap.le_put n13 (g := .row (Qc.c x)) (m := true)
  refine bxT (c := Qc.c) (Heap.put_same ..) (he _ (List.getElem_mem hlt) x _ _ ((hA.trans hD).trans l13) hx ?_)
  dsimp only
  rw [QM (by omega) (by omega)]
  refine ⟨⟨hD.trans l13, i + 1, ?_, by omega⟩, by first | omega | (dsimp only; omega)⟩
  rw [Qgj hlt]
  refine Prod.ext ?_ (by dsimp only; omega)
  dsimp only
  split <;> omega
 ·have hie : i = l.length := by have := of_decide_eq_false h; dsimp only at this; omega
  subst hie
  rw [List.take_length]
  exact ⟨H, Gh.le hD, k⟩
theorem QpS {R : α → Qc → Prop} {A : Heap} {s : Sl} {l : List α} {e : Value} {ok : α → Bool} {K : Bool → Heap → Prop} (hs : SlIs R Qc.c A s l) (hA : A.le H)
 (he : ∀ v ∈ l, ∀ (x : Qc) (D : Heap) (Φ : Bool → Heap → Prop), A.le D → R v x → Φ (ok v) D → callU Tryz.prog C e [.agg (Qc.c x).toArray] D (fun v H31 => ∃ r30 : Bool, v = .bool r30 ∧ Φ r30 H31))
 (k : K (l.all ok) H) (h1c : Value.cells e = #[e] := by exact rfl) : Q5 C s e K H := by
 apply Q5.gh
 apply Qhx
 unfold QeD
 refine ⟨h1c, ?_⟩
 intro b1 n1
 have l1 := Heap.le_put n1 (g := .row [e]) (m := true)
 have c1 : (H.put b1 (.row [e])) b1 = some (true, .row [e]) := Heap.put_same ..
 generalize H.put b1 (.row [e]) = H1 at *
 apply QbZ
 unfold Qar
 apply Qcn
 unfold QaI
 have hlen := SlIs.len hs
 have hbd := SlIs.bd hs
 refine ⟨fun y D => H1.le D ∧ ∃ i : Nat, y = (i : Int) ∧ i ≤ l.length ∧ (l.take i).all ok = true, fun y _ => l.length - y.toNat, ⟨Heap.le.refl _, 0, rfl, Nat.zero_le _, rfl⟩, ?_⟩
 rintro _ D ⟨hD, i, rfl, hi, hall⟩
 rw [hlen]
 refine ift.of (fun h => ?_) (fun h => ?_)
 ·have hlt : i < l.length := by have := of_decide_eq_true h; omega
  refine SlIs.ld hs (hA.trans (l1.trans hD)) QdB (by omega) rfl hlt fun x hx => ?_
  have key : ∀ Φ : Bool → Heap → Prop, (∀ D2, D.le D2 → Φ (!ok l[i]) D2) → callU Tryz.prog C (.func (.func 192) (List.toArray []) (List.toArray [pv (some (b1, 0))])) [.agg (Qc.c x).toArray] D (fun v H31 => ∃ r30 : Bool, v = .bool r30 ∧ Φ r30 H31) := fun Φ hΦ => by
   refine ⟨192, [], [pv (some (b1, 0))], rfl, QgP, ?_⟩
   show Qee C x (b1, 0) Φ D
   apply QgK
   unfold QdY
   intro b2 n2
   have l2 := Heap.le_put n2 (g := .row (Qc.c x)) (m := true)
   refine ⟨e, by rw [QbU (l2 _ _ (hD _ _ c1))]; rfl, bxT (c := Qc.c) (Heap.put_same ..) (he _ (List.getElem_mem hlt) x _ _ ((hA.trans (l1.trans hD)).trans l2) hx ?_)⟩
   exact hΦ _ l2
  refine key _ fun D2 hD2 => ?_
  refine ift.of (fun hb => ?_) (fun hb => ?_)
  ·have hf : ok l[i] = false := by simpa using hb
   rw [allNo hlt hf] at k
   have e0 : decide ((i : Int) ≥ 0) = true := decide_eq_true (by omega)
   dsimp only
   rw [e0]
   exact ⟨H, Gh.le (l1.trans (hD.trans hD2)), k⟩
  ·have hf : ok l[i] = true := by simpa using hb
   rw [QM (by omega) (by omega)]
   exact ⟨⟨hD.trans hD2, i + 1, by omega, by omega, by rw [allTake hlt, hall, hf]; rfl⟩, by first | omega | (dsimp only; omega)⟩
 ·have hie : i = l.length := by have := of_decide_eq_false h; omega
  subst hie
  rw [List.take_length] at hall
  rw [hall] at k
  exact ⟨H, Gh.le (l1.trans hD), k⟩
theorem Qp4 {R : α → Qc → Prop} {A B : Heap} {s : Sl} {l : List α} {e : Value} {f : α → Str} {sep t : Str} {b : Nat} {K : Heap → Prop} (hs : SlIs R Qc.c A s l) (hW : Ww A B b t)
 (he : ∀ v ∈ l, ∀ (x : Qc) (D : Heap) (u : Str) (Φ : Heap → Prop), Ww A D b u → R v x → u.length + (f v).length ≤ 140737488355328 → (∀ D2, Ww A D2 b (u ++ f v) → Φ D2) → callU Tryz.prog C e [.agg (Qc.c x).toArray] D (fun v H31 => v = .tuple #[] ∧ Φ H31))
 (hl : t.length + (jo sep f 0 l).length ≤ 140737488355328) (k : ∀ D, Ww A D b (t ++ jo sep f 0 l) → K D) : Qcu C (some (b, 0)) s sep e K B := by
 apply Qhh
 unfold Qep
 have hlen := SlIs.len hs
 have hbd := SlIs.bd hs
 refine ⟨fun y D => ∃ i : Nat, y = (i : Int) ∧ i ≤ l.length ∧ Ww A D b (t ++ jo sep f 0 (l.take i)), fun y _ => l.length - y.toNat, ⟨0, rfl, Nat.zero_le _, by simpa [jo] using hW⟩, ?_⟩
 rintro _ D ⟨i, rfl, hi, hD⟩
 rw [hlen]
 refine ift.of (fun h => ?_) (fun h => ?_)
 ·have hlt : i < l.length := by have := of_decide_eq_true h; omega
  have hp := Qjg (sep := sep) (f := f) l (i + 1)
  rw [QbW hlt] at hp
  simp only [List.length_append] at hp
  refine SlIs.ld hs hD.le QdB (by omega) rfl hlt fun x hx => ?_
  intro b13 n13
  refine nwT rfl ?_
  have l13 := Heap.le_put n13 (g := .row (Qc.c x)) (m := true)
  have c13 : (D.put b13 (.row (Qc.c x))) b13 = some (true, .row (Qc.c x)) := Heap.put_same ..
  have hD2 := hD.up l13
  generalize D.put b13 (.row (Qc.c x)) = D2 at *
  obtain ⟨hF, hAF⟩ := hD2.full
  have hbb : b13 ≠ b := fun e' => by
   obtain ⟨g, hg⟩ := hD.bl.some
   rw [← e', n13] at hg; cases hg
  refine ⟨fun _ E => Ww (D2.del b) E b (t ++ jo sep f 0 (l.take i) ++ (if i = 0 then [] else sep)), ?_, ?_⟩
  ·refine ift.of (fun hp0 => ?_) (fun hp0 => ?_)
   ·have hi0 : i ≠ 0 := by have := of_decide_eq_true hp0; omega
    rw [if_neg hi0] at hp ⊢
    refine ⟨_, rfl, hF.str (by simp only [List.length_append]; omega) fun E hE => hE⟩
   ·have hi0 : i = 0 := by have := of_decide_eq_false hp0; omega
    rw [if_pos hi0, List.append_nil]; exact hF
  ·rintro _ E hE
   have hc : E b13 = some (true, .row (Qc.c x)) := hE.le _ _ (by rw [Heap.del_ne _ hbb]; exact c13)
   refine bxT (c := Qc.c) hc (he _ (List.getElem_mem hlt) x E _ _ (hE.down hAF) hx (by simp only [List.length_append]; omega) fun D3 h3 => ?_)
   rw [QM (by omega) (by omega)]
   refine ⟨⟨i + 1, by omega, by omega, ?_⟩, by first | omega | (dsimp only; omega)⟩
   rw [QbW hlt]
   simpa using h3
 ·have hie : i = l.length := by have := of_decide_eq_false h; omega
  subst hie
  rw [List.take_length] at hD
  exact k D hD
theorem QpT {R : α → Qc → Prop} {A B : Heap} {s : Sl} {l : List α} {e : Value} {f : α → Str} {t : Str} {b : Nat} {K : Heap → Prop} (hs : SlIs R Qc.c A s l) (hW : Ww A B b t)
 (he : ∀ v ∈ l, ∀ (x : Qc) (D : Heap) (u : Str) (Φ : Heap → Prop), Ww A D b u → R v x → u.length + (f v).length ≤ 140737488355328 → (∀ D2, Ww A D2 b (u ++ f v) → Φ D2) → callU Tryz.prog C e [.agg (Qc.c x).toArray] D (fun v H31 => v = .tuple #[] ∧ Φ H31))
 (hl : t.length + (jo [44, 32] f 0 l).length + 2 ≤ 140737488355328) (k : ∀ D, Ww A D b (t ++ 40 :: (jo [44, 32] f 0 l ++ [41])) → K D) : Qai C (some (b, 0)) s e K B := by
 apply QfU
 unfold QcY
 refine ⟨_, rfl, hW.byte (c := 40) rfl (by omega) fun D1 h1 => ?_⟩
 refine Qp4 hs h1 he (by simp only [List.length_append, List.length_singleton]; omega) fun D2 h2 => ?_
 refine ⟨_, rfl, h2.byte (c := 41) rfl (by simp only [List.length_append, List.length_singleton]; omega) fun D3 h3 => k D3 (by simpa using h3)⟩
theorem QqW {R : α → Qe → Prop} {A : Heap} {s : Sl} {l : List α} {e : Value} {d : α → Nat} {K : Int → Heap → Prop} (hs : SlIs R Qe.c A s l) (hA : A.le H)
 (he : ∀ v ∈ l, ∀ (x : Qe) (D : Heap) (Φ : Int → Heap → Prop), A.le D → R v x → Φ (d v) D → callU Tryz.prog C e [.agg (Qe.c x).toArray] D (fun v H31 => ∃ r30 : Int, v = .int .i64 r30 ∧ Φ r30 H31))
 (k : K (mxL d l) H) : QU C s e K H := by
 apply QU.gh
 apply Qgn
 unfold QdG
 have hlen := SlIs.len hs
 have hbd := SlIs.bd hs
 refine ⟨fun y D => H.le D ∧ ∃ i : Nat, y = (((mxL d (l.take i) : Nat) : Int), (i : Int)) ∧ i ≤ l.length, fun y _ => l.length - y.2.toNat, ⟨Heap.le.refl _, 0, rfl, Nat.zero_le _⟩, ?_⟩
 rintro _ D ⟨hD, i, rfl, hi⟩
 rw [hlen]
 refine ift.of (fun h => ?_) (fun h => ?_)
 ·have hlt : i < l.length := by have := of_decide_eq_true h; dsimp only at this; omega
  refine SlIs.ld hs (hA.trans hD) Qfu (by omega) rfl hlt fun x hx => ?_
  intro b n13
  refine nwT rfl ?_
  have l13 := Heap.le_put n13 (g := .row (Qe.c x)) (m := true)
  refine bxT (c := Qe.c) (Heap.put_same ..) (he _ (List.getElem_mem hlt) x _ _ ((hA.trans hD).trans l13) hx ?_)
  dsimp only
  rw [QM (by omega) (by omega)]
  refine ⟨⟨hD.trans l13, i + 1, ?_, by omega⟩, by first | omega | (dsimp only; omega)⟩
  rw [Qgj hlt]
  refine Prod.ext ?_ (by dsimp only; omega)
  dsimp only
  split <;> omega
 ·have hie : i = l.length := by have := of_decide_eq_false h; dsimp only at this; omega
  subst hie
  rw [List.take_length]
  exact ⟨H, Gh.le hD, k⟩
theorem QqT {R : α → Qe → Prop} {A : Heap} {s : Sl} {l : List α} {e : Value} {ok : α → Bool} {K : Bool → Heap → Prop} (hs : SlIs R Qe.c A s l) (hA : A.le H)
 (he : ∀ v ∈ l, ∀ (x : Qe) (D : Heap) (Φ : Bool → Heap → Prop), A.le D → R v x → Φ (ok v) D → callU Tryz.prog C e [.agg (Qe.c x).toArray] D (fun v H31 => ∃ r30 : Bool, v = .bool r30 ∧ Φ r30 H31))
 (k : K (l.all ok) H) (h1c : Value.cells e = #[e] := by exact rfl) : Qag C s e K H := by
 apply Qag.gh
 apply Qh4
 unfold Qe5
 refine ⟨h1c, ?_⟩
 intro b1 n1
 have l1 := Heap.le_put n1 (g := .row [e]) (m := true)
 have c1 : (H.put b1 (.row [e])) b1 = some (true, .row [e]) := Heap.put_same ..
 generalize H.put b1 (.row [e]) = H1 at *
 apply Qcg
 unfold Qaw
 apply QcG
 unfold QaX
 have hlen := SlIs.len hs
 have hbd := SlIs.bd hs
 refine ⟨fun y D => H1.le D ∧ ∃ i : Nat, y = (i : Int) ∧ i ≤ l.length ∧ (l.take i).all ok = true, fun y _ => l.length - y.toNat, ⟨Heap.le.refl _, 0, rfl, Nat.zero_le _, rfl⟩, ?_⟩
 rintro _ D ⟨hD, i, rfl, hi, hall⟩
 rw [hlen]
 refine ift.of (fun h => ?_) (fun h => ?_)
 ·have hlt : i < l.length := by have := of_decide_eq_true h; omega
  refine SlIs.ld hs (hA.trans (l1.trans hD)) Qfu (by omega) rfl hlt fun x hx => ?_
  have key : ∀ Φ : Bool → Heap → Prop, (∀ D2, D.le D2 → Φ (!ok l[i]) D2) → callU Tryz.prog C (.func (.func 189) (List.toArray []) (List.toArray [pv (some (b1, 0))])) [.agg (Qe.c x).toArray] D (fun v H31 => ∃ r30 : Bool, v = .bool r30 ∧ Φ r30 H31) := fun Φ hΦ => by
   refine ⟨189, [], [pv (some (b1, 0))], rfl, Qho, ?_⟩
   show Qex C x (b1, 0) Φ D
   apply Qhc
   unfold Qek
   intro b2 n2
   have l2 := Heap.le_put n2 (g := .row (Qe.c x)) (m := true)
   refine ⟨e, by rw [QbU (l2 _ _ (hD _ _ c1))]; rfl, bxT (c := Qe.c) (Heap.put_same ..) (he _ (List.getElem_mem hlt) x _ _ ((hA.trans (l1.trans hD)).trans l2) hx ?_)⟩
   exact hΦ _ l2
  refine key _ fun D2 hD2 => ?_
  refine ift.of (fun hb => ?_) (fun hb => ?_)
  ·have hf : ok l[i] = false := by simpa using hb
   rw [allNo hlt hf] at k
   have e0 : decide ((i : Int) ≥ 0) = true := decide_eq_true (by omega)
   dsimp only
   rw [e0]
   exact ⟨H, Gh.le (l1.trans (hD.trans hD2)), k⟩
  ·have hf : ok l[i] = true := by simpa using hb
   rw [QM (by omega) (by omega)]
   exact ⟨⟨hD.trans hD2, i + 1, by omega, by omega, by rw [allTake hlt, hall, hf]; rfl⟩, by first | omega | (dsimp only; omega)⟩
 ·have hie : i = l.length := by have := of_decide_eq_false h; omega
  subst hie
  rw [List.take_length] at hall
  rw [hall] at k
  exact ⟨H, Gh.le (l1.trans hD), k⟩
theorem Qq3 {R : α → Qe → Prop} {A B : Heap} {s : Sl} {l : List α} {e : Value} {f : α → Str} {sep t : Str} {b : Nat} {K : Heap → Prop} (hs : SlIs R Qe.c A s l) (hW : Ww A B b t)
 (he : ∀ v ∈ l, ∀ (x : Qe) (D : Heap) (u : Str) (Φ : Heap → Prop), Ww A D b u → R v x → u.length + (f v).length ≤ 140737488355328 → (∀ D2, Ww A D2 b (u ++ f v) → Φ D2) → callU Tryz.prog C e [.agg (Qe.c x).toArray] D (fun v H31 => v = .tuple #[] ∧ Φ H31))
 (hl : t.length + (jo sep f 0 l).length ≤ 140737488355328) (k : ∀ D, Ww A D b (t ++ jo sep f 0 l) → K D) : QcL C (some (b, 0)) s sep e K B := by
 apply QhD
 unfold QeJ
 have hlen := SlIs.len hs
 have hbd := SlIs.bd hs
 refine ⟨fun y D => ∃ i : Nat, y = (i : Int) ∧ i ≤ l.length ∧ Ww A D b (t ++ jo sep f 0 (l.take i)), fun y _ => l.length - y.toNat, ⟨0, rfl, Nat.zero_le _, by simpa [jo] using hW⟩, ?_⟩
 rintro _ D ⟨i, rfl, hi, hD⟩
 rw [hlen]
 refine ift.of (fun h => ?_) (fun h => ?_)
 ·have hlt : i < l.length := by have := of_decide_eq_true h; omega
  have hp := Qjg (sep := sep) (f := f) l (i + 1)
  rw [QbW hlt] at hp
  simp only [List.length_append] at hp
  refine SlIs.ld hs hD.le Qfu (by omega) rfl hlt fun x hx => ?_
  intro b13 n13
  refine nwT rfl ?_
  have l13 := Heap.le_put n13 (g := .row (Qe.c x)) (m := true)
  have c13 : (D.put b13 (.row (Qe.c x))) b13 = some (true, .row (Qe.c x)) := Heap.put_same ..
  have hD2 := hD.up l13
  generalize D.put b13 (.row (Qe.c x)) = D2 at *
  obtain ⟨hF, hAF⟩ := hD2.full
  have hbb : b13 ≠ b := fun e' => by
   obtain ⟨g, hg⟩ := hD.bl.some
   rw [← e', n13] at hg; cases hg
  refine ⟨fun _ E => Ww (D2.del b) E b (t ++ jo sep f 0 (l.take i) ++ (if i = 0 then [] else sep)), ?_, ?_⟩
  ·refine ift.of (fun hp0 => ?_) (fun hp0 => ?_)
   ·have hi0 : i ≠ 0 := by have := of_decide_eq_true hp0; omega
    rw [if_neg hi0] at hp ⊢
    refine ⟨_, rfl, hF.str (by simp only [List.length_append]; omega) fun E hE => hE⟩
   ·have hi0 : i = 0 := by have := of_decide_eq_false hp0; omega
    rw [if_pos hi0, List.append_nil]; exact hF
  ·rintro _ E hE
   have hc : E b13 = some (true, .row (Qe.c x)) := hE.le _ _ (by rw [Heap.del_ne _ hbb]; exact c13)
   refine bxT (c := Qe.c) hc (he _ (List.getElem_mem hlt) x E _ _ (hE.down hAF) hx (by simp only [List.length_append]; omega) fun D3 h3 => ?_)
   rw [QM (by omega) (by omega)]
   refine ⟨⟨i + 1, by omega, by omega, ?_⟩, by first | omega | (dsimp only; omega)⟩
   rw [QbW hlt]
   simpa using h3
 ·have hie : i = l.length := by have := of_decide_eq_false h; omega
  subst hie
  rw [List.take_length] at hD
  exact k D hD
theorem Qt6 {R : α → Qf → Prop} {A : Heap} {s : Sl} {l : List α} {e : Value} {d : α → Nat} {K : Int → Heap → Prop} (hs : SlIs R Qf.c A s l) (hA : A.le H)
 (he : ∀ v ∈ l, ∀ (x : Qf) (D : Heap) (Φ : Int → Heap → Prop), A.le D → R v x → Φ (d v) D → callU Tryz.prog C e [.agg (Qf.c x).toArray] D (fun v H31 => ∃ r30 : Int, v = .int .i64 r30 ∧ Φ r30 H31))
 (k : K (mxL d l) H) : Q8 C s e K H := by
 apply Q8.gh
 apply QhC
 unfold QeI
 have hlen := SlIs.len hs
 have hbd := SlIs.bd hs
 refine ⟨fun y D => H.le D ∧ ∃ i : Nat, y = (((mxL d (l.take i) : Nat) : Int), (i : Int)) ∧ i ≤ l.length, fun y _ => l.length - y.2.toNat, ⟨Heap.le.refl _, 0, rfl, Nat.zero_le _⟩, ?_⟩
 rintro _ D ⟨hD, i, rfl, hi⟩
 rw [hlen]
 refine ift.of (fun h => ?_) (fun h => ?_)
 ·have hlt : i < l.length := by have := of_decide_eq_true h; dsimp only at this; omega
  refine SlIs.ld hs (hA.trans hD) Qih (by omega) rfl hlt fun x hx => ?_
  intro b n13
  refine nwT rfl ?_
  have l13 := Heap.le_put n13 (g := .row (Qf.c x)) (m := true)
  refine bxT (c := Qf.c) (Heap.put_same ..) (he _ (List.getElem_mem hlt) x _ _ ((hA.trans hD).trans l13) hx ?_)
  dsimp only
  rw [QM (by omega) (by omega)]
  refine ⟨⟨hD.trans l13, i + 1, ?_, by omega⟩, by first | omega | (dsimp only; omega)⟩
  rw [Qgj hlt]
  refine Prod.ext ?_ (by dsimp only; omega)
  dsimp only
  split <;> omega
 ·have hie : i = l.length := by have := of_decide_eq_false h; dsimp only at this; omega
  subst hie
  rw [List.take_length]
  exact ⟨H, Gh.le hD, k⟩
theorem QtW {R : α → Qf → Prop} {A : Heap} {s : Sl} {l : List α} {e : Value} {ok : α → Bool} {K : Bool → Heap → Prop} (hs : SlIs R Qf.c A s l) (hA : A.le H)
 (he : ∀ v ∈ l, ∀ (x : Qf) (D : Heap) (Φ : Bool → Heap → Prop), A.le D → R v x → Φ (ok v) D → callU Tryz.prog C e [.agg (Qf.c x).toArray] D (fun v H31 => ∃ r30 : Bool, v = .bool r30 ∧ Φ r30 H31))
 (k : K (l.all ok) H) (h1c : Value.cells e = #[e] := by exact rfl) : Q6 C s e K H := by
 apply Q6.gh
 apply QjP
 unfold Qf7
 refine ⟨h1c, ?_⟩
 intro b1 n1
 have l1 := Heap.le_put n1 (g := .row [e]) (m := true)
 have c1 : (H.put b1 (.row [e])) b1 = some (true, .row [e]) := Heap.put_same ..
 generalize H.put b1 (.row [e]) = H1 at *
 apply Qdq
 unfold Qbn
 apply Qd2
 unfold QbH
 have hlen := SlIs.len hs
 have hbd := SlIs.bd hs
 refine ⟨fun y D => H1.le D ∧ ∃ i : Nat, y = (i : Int) ∧ i ≤ l.length ∧ (l.take i).all ok = true, fun y _ => l.length - y.toNat, ⟨Heap.le.refl _, 0, rfl, Nat.zero_le _, rfl⟩, ?_⟩
 rintro _ D ⟨hD, i, rfl, hi, hall⟩
 rw [hlen]
 refine ift.of (fun h => ?_) (fun h => ?_)
 ·have hlt : i < l.length := by have := of_decide_eq_true h; omega
  refine SlIs.ld hs (hA.trans (l1.trans hD)) Qih (by omega) rfl hlt fun x hx => ?_
  have key : ∀ Φ : Bool → Heap → Prop, (∀ D2, D.le D2 → Φ (!ok l[i]) D2) → callU Tryz.prog C (.func (.func 225) (List.toArray []) (List.toArray [pv (some (b1, 0))])) [.agg (Qf.c x).toArray] D (fun v H31 => ∃ r30 : Bool, v = .bool r30 ∧ Φ r30 H31) := fun Φ hΦ => by
   refine ⟨225, [], [pv (some (b1, 0))], rfl, Qi0, ?_⟩
   show QfD C x (b1, 0) Φ D
   apply QiR
   unfold Qfm
   intro b2 n2
   have l2 := Heap.le_put n2 (g := .row (Qf.c x)) (m := true)
   refine ⟨e, by rw [QbU (l2 _ _ (hD _ _ c1))]; rfl, bxT (c := Qf.c) (Heap.put_same ..) (he _ (List.getElem_mem hlt) x _ _ ((hA.trans (l1.trans hD)).trans l2) hx ?_)⟩
   exact hΦ _ l2
  refine key _ fun D2 hD2 => ?_
  refine ift.of (fun hb => ?_) (fun hb => ?_)
  ·have hf : ok l[i] = false := by simpa using hb
   rw [allNo hlt hf] at k
   have e0 : decide ((i : Int) ≥ 0) = true := decide_eq_true (by omega)
   dsimp only
   rw [e0]
   exact ⟨H, Gh.le (l1.trans (hD.trans hD2)), k⟩
  ·have hf : ok l[i] = true := by simpa using hb
   rw [QM (by omega) (by omega)]
   exact ⟨⟨hD.trans hD2, i + 1, by omega, by omega, by rw [allTake hlt, hall, hf]; rfl⟩, by first | omega | (dsimp only; omega)⟩
 ·have hie : i = l.length := by have := of_decide_eq_false h; omega
  subst hie
  rw [List.take_length] at hall
  rw [hall] at k
  exact ⟨H, Gh.le (l1.trans hD), k⟩
theorem Quj {R : α → Qf → Prop} {A B : Heap} {s : Sl} {l : List α} {e : Value} {f : α → Str} {sep t : Str} {b : Nat} {K : Heap → Prop} (hs : SlIs R Qf.c A s l) (hW : Ww A B b t)
 (he : ∀ v ∈ l, ∀ (x : Qf) (D : Heap) (u : Str) (Φ : Heap → Prop), Ww A D b u → R v x → u.length + (f v).length ≤ 140737488355328 → (∀ D2, Ww A D2 b (u ++ f v) → Φ D2) → callU Tryz.prog C e [.agg (Qf.c x).toArray] D (fun v H31 => v = .tuple #[] ∧ Φ H31))
 (hl : t.length + (jo sep f 0 l).length ≤ 140737488355328) (k : ∀ D, Ww A D b (t ++ jo sep f 0 l) → K D) : Qd6 C (some (b, 0)) s sep e K B := by
 apply Qi9
 unfold QfN
 have hlen := SlIs.len hs
 have hbd := SlIs.bd hs
 refine ⟨fun y D => ∃ i : Nat, y = (i : Int) ∧ i ≤ l.length ∧ Ww A D b (t ++ jo sep f 0 (l.take i)), fun y _ => l.length - y.toNat, ⟨0, rfl, Nat.zero_le _, by simpa [jo] using hW⟩, ?_⟩
 rintro _ D ⟨i, rfl, hi, hD⟩
 rw [hlen]
 refine ift.of (fun h => ?_) (fun h => ?_)
 ·have hlt : i < l.length := by have := of_decide_eq_true h; omega
  have hp := Qjg (sep := sep) (f := f) l (i + 1)
  rw [QbW hlt] at hp
  simp only [List.length_append] at hp
  refine SlIs.ld hs hD.le Qih (by omega) rfl hlt fun x hx => ?_
  intro b13 n13
  refine nwT rfl ?_
  have l13 := Heap.le_put n13 (g := .row (Qf.c x)) (m := true)
  have c13 : (D.put b13 (.row (Qf.c x))) b13 = some (true, .row (Qf.c x)) := Heap.put_same ..
  have hD2 := hD.up l13
  generalize D.put b13 (.row (Qf.c x)) = D2 at *
  obtain ⟨hF, hAF⟩ := hD2.full
  have hbb : b13 ≠ b := fun e' => by
   obtain ⟨g, hg⟩ := hD.bl.some
   rw [← e', n13] at hg; cases hg
  refine ⟨fun _ E => Ww (D2.del b) E b (t ++ jo sep f 0 (l.take i) ++ (if i = 0 then [] else sep)), ?_, ?_⟩
  ·refine ift.of (fun hp0 => ?_) (fun hp0 => ?_)
   ·have hi0 : i ≠ 0 := by have := of_decide_eq_true hp0; omega
    rw [if_neg hi0] at hp ⊢
    refine ⟨_, rfl, hF.str (by simp only [List.length_append]; omega) fun E hE => hE⟩
   ·have hi0 : i = 0 := by have := of_decide_eq_false hp0; omega
    rw [if_pos hi0, List.append_nil]; exact hF
  ·rintro _ E hE
   have hc : E b13 = some (true, .row (Qf.c x)) := hE.le _ _ (by rw [Heap.del_ne _ hbb]; exact c13)
   refine bxT (c := Qf.c) hc (he _ (List.getElem_mem hlt) x E _ _ (hE.down hAF) hx (by simp only [List.length_append]; omega) fun D3 h3 => ?_)
   rw [QM (by omega) (by omega)]
   refine ⟨⟨i + 1, by omega, by omega, ?_⟩, by first | omega | (dsimp only; omega)⟩
   rw [QbW hlt]
   simpa using h3
 ·have hie : i = l.length := by have := of_decide_eq_false h; omega
  subst hie
  rw [List.take_length] at hD
  exact k D hD
theorem QtZ {R : α → Qf → Prop} {A B : Heap} {s : Sl} {l : List α} {e : Value} {f : α → Str} {t : Str} {b : Nat} {K : Heap → Prop} (hs : SlIs R Qf.c A s l) (hW : Ww A B b t)
 (he : ∀ v ∈ l, ∀ (x : Qf) (D : Heap) (u : Str) (Φ : Heap → Prop), Ww A D b u → R v x → u.length + (f v).length ≤ 140737488355328 → (∀ D2, Ww A D2 b (u ++ f v) → Φ D2) → callU Tryz.prog C e [.agg (Qf.c x).toArray] D (fun v H31 => v = .tuple #[] ∧ Φ H31))
 (hl : t.length + (jo [44, 32] f 0 l).length + 2 ≤ 140737488355328) (k : ∀ D, Ww A D b (t ++ 40 :: (jo [44, 32] f 0 l ++ [41])) → K D) : Qcr C (some (b, 0)) s e K B := by
 apply Qhf
 unfold Qen
 refine ⟨_, rfl, hW.byte (c := 40) rfl (by omega) fun D1 h1 => ?_⟩
 refine Quj hs h1 he (by simp only [List.length_append, List.length_singleton]; omega) fun D2 h2 => ?_
 refine ⟨_, rfl, h2.byte (c := 41) rfl (by simp only [List.length_append, List.length_singleton]; omega) fun D3 h3 => k D3 (by simpa using h3)⟩
theorem QrH {R : α → Qa → Prop} {A : Heap} {s : Sl} {l : List α} {e : Value} {d : α → Nat} {K : Int → Heap → Prop} (hs : SlIs R Qa.c A s l) (hA : A.le H)
 (he : ∀ v ∈ l, ∀ (x : Qa) (D : Heap) (Φ : Int → Heap → Prop), A.le D → R v x → Φ (d v) D → callU Tryz.prog C e [.agg (Qa.c x).toArray] D (fun v H31 => ∃ r30 : Int, v = .int .i64 r30 ∧ Φ r30 H31))
 (k : K (mxL d l) H) : QH C s e K H := by
 apply QH.gh
 apply QhA
 unfold QeG
 have hlen := SlIs.len hs
 have hbd := SlIs.bd hs
 refine ⟨fun y D => H.le D ∧ ∃ i : Nat, y = (((mxL d (l.take i) : Nat) : Int), (i : Int)) ∧ i ≤ l.length, fun y _ => l.length - y.2.toNat, ⟨Heap.le.refl _, 0, rfl, Nat.zero_le _⟩, ?_⟩
 rintro _ D ⟨hD, i, rfl, hi⟩
 rw [hlen]
 refine ift.of (fun h => ?_) (fun h => ?_)
 ·have hlt : i < l.length := by have := of_decide_eq_true h; dsimp only at this; omega
  refine SlIs.ld hs (hA.trans hD) Qbw (by omega) rfl hlt fun x hx => ?_
  intro b n13
  refine nwT rfl ?_
  have l13 := Heap.le_put n13 (g := .row (Qa.c x)) (m := true)
  refine bxT (c := Qa.c) (Heap.put_same ..) (he _ (List.getElem_mem hlt) x _ _ ((hA.trans hD).trans l13) hx ?_)
  dsimp only
  rw [QM (by omega) (by omega)]
  refine ⟨⟨hD.trans l13, i + 1, ?_, by omega⟩, by first | omega | (dsimp only; omega)⟩
  rw [Qgj hlt]
  refine Prod.ext ?_ (by dsimp only; omega)
  dsimp only
  split <;> omega
 ·have hie : i = l.length := by have := of_decide_eq_false h; dsimp only at this; omega
  subst hie
  rw [List.take_length]
  exact ⟨H, Gh.le hD, k⟩
theorem QpR {R : α → Qa → Prop} {A : Heap} {s : Sl} {l : List α} {e : Value} {ok : α → Bool} {K : Bool → Heap → Prop} (hs : SlIs R Qa.c A s l) (hA : A.le H)
 (he : ∀ v ∈ l, ∀ (x : Qa) (D : Heap) (Φ : Bool → Heap → Prop), A.le D → R v x → Φ (ok v) D → callU Tryz.prog C e [.agg (Qa.c x).toArray] D (fun v H31 => ∃ r30 : Bool, v = .bool r30 ∧ Φ r30 H31))
 (k : K (l.all ok) H) (h1c : Value.cells e = #[e] := by exact rfl) : QN C s e K H := by
 apply QN.gh
 apply QjN
 unfold Qf5
 refine ⟨h1c, ?_⟩
 intro b1 n1
 have l1 := Heap.le_put n1 (g := .row [e]) (m := true)
 have c1 : (H.put b1 (.row [e])) b1 = some (true, .row [e]) := Heap.put_same ..
 generalize H.put b1 (.row [e]) = H1 at *
 apply Qdo
 unfold Qbl
 apply Qd0
 unfold QbF
 have hlen := SlIs.len hs
 have hbd := SlIs.bd hs
 refine ⟨fun y D => H1.le D ∧ ∃ i : Nat, y = (i : Int) ∧ i ≤ l.length ∧ (l.take i).all ok = true, fun y _ => l.length - y.toNat, ⟨Heap.le.refl _, 0, rfl, Nat.zero_le _, rfl⟩, ?_⟩
 rintro _ D ⟨hD, i, rfl, hi, hall⟩
 rw [hlen]
 refine ift.of (fun h => ?_) (fun h => ?_)
 ·have hlt : i < l.length := by have := of_decide_eq_true h; omega
  refine SlIs.ld hs (hA.trans (l1.trans hD)) Qbw (by omega) rfl hlt fun x hx => ?_
  have key : ∀ Φ : Bool → Heap → Prop, (∀ D2, D.le D2 → Φ (!ok l[i]) D2) → callU Tryz.prog C (.func (.func 197) (List.toArray []) (List.toArray [pv (some (b1, 0))])) [.agg (Qa.c x).toArray] D (fun v H31 => ∃ r30 : Bool, v = .bool r30 ∧ Φ r30 H31) := fun Φ hΦ => by
   refine ⟨197, [], [pv (some (b1, 0))], rfl, QiW, ?_⟩
   show QfB C x (b1, 0) Φ D
   apply QiN
   unfold Qfi
   intro b2 n2
   have l2 := Heap.le_put n2 (g := .row (Qa.c x)) (m := true)
   refine ⟨e, by rw [QbU (l2 _ _ (hD _ _ c1))]; rfl, bxT (c := Qa.c) (Heap.put_same ..) (he _ (List.getElem_mem hlt) x _ _ ((hA.trans (l1.trans hD)).trans l2) hx ?_)⟩
   exact hΦ _ l2
  refine key _ fun D2 hD2 => ?_
  refine ift.of (fun hb => ?_) (fun hb => ?_)
  ·have hf : ok l[i] = false := by simpa using hb
   rw [allNo hlt hf] at k
   have e0 : decide ((i : Int) ≥ 0) = true := decide_eq_true (by omega)
   dsimp only
   rw [e0]
   exact ⟨H, Gh.le (l1.trans (hD.trans hD2)), k⟩
  ·have hf : ok l[i] = true := by simpa using hb
   rw [QM (by omega) (by omega)]
   exact ⟨⟨hD.trans hD2, i + 1, by omega, by omega, by rw [allTake hlt, hall, hf]; rfl⟩, by first | omega | (dsimp only; omega)⟩
 ·have hie : i = l.length := by have := of_decide_eq_false h; omega
  subst hie
  rw [List.take_length] at hall
  rw [hall] at k
  exact ⟨H, Gh.le (l1.trans hD), k⟩
theorem Qr2 {R : α → Qa → Prop} {A B : Heap} {s : Sl} {l : List α} {e : Value} {f : α → Str} {sep t : Str} {b : Nat} {K : Heap → Prop} (hs : SlIs R Qa.c A s l) (hW : Ww A B b t)
 (he : ∀ v ∈ l, ∀ (x : Qa) (D : Heap) (u : Str) (Φ : Heap → Prop), Ww A D b u → R v x → u.length + (f v).length ≤ 140737488355328 → (∀ D2, Ww A D2 b (u ++ f v) → Φ D2) → callU Tryz.prog C e [.agg (Qa.c x).toArray] D (fun v H31 => v = .tuple #[] ∧ Φ H31))
 (hl : t.length + (jo sep f 0 l).length ≤ 140737488355328) (k : ∀ D, Ww A D b (t ++ jo sep f 0 l) → K D) : Qa0 C (some (b, 0)) s sep e K B := by
 apply QfA
 unfold QdJ
 have hlen := SlIs.len hs
 have hbd := SlIs.bd hs
 refine ⟨fun y D => ∃ i : Nat, y = (i : Int) ∧ i ≤ l.length ∧ Ww A D b (t ++ jo sep f 0 (l.take i)), fun y _ => l.length - y.toNat, ⟨0, rfl, Nat.zero_le _, by simpa [jo] using hW⟩, ?_⟩
 rintro _ D ⟨i, rfl, hi, hD⟩
 rw [hlen]
 refine ift.of (fun h => ?_) (fun h => ?_)
 ·have hlt : i < l.length := by have := of_decide_eq_true h; omega
  have hp := Qjg (sep := sep) (f := f) l (i + 1)
  rw [QbW hlt] at hp
  simp only [List.length_append] at hp
  refine SlIs.ld hs hD.le Qbw (by omega) rfl hlt fun x hx => ?_
  intro b13 n13
  refine nwT rfl ?_
  have l13 := Heap.le_put n13 (g := .row (Qa.c x)) (m := true)
  have c13 : (D.put b13 (.row (Qa.c x))) b13 = some (true, .row (Qa.c x)) := Heap.put_same ..
  have hD2 := hD.up l13
  generalize D.put b13 (.row (Qa.c x)) = D2 at *
  obtain ⟨hF, hAF⟩ := hD2.full
  have hbb : b13 ≠ b := fun e' => by
   obtain ⟨g, hg⟩ := hD.bl.some
   rw [← e', n13] at hg; cases hg
  refine ⟨fun _ E => Ww (D2.del b) E b (t ++ jo sep f 0 (l.take i) ++ (if i = 0 then [] else sep)), ?_, ?_⟩
  ·refine ift.of (fun hp0 => ?_) (fun hp0 => ?_)
   ·have hi0 : i ≠ 0 := by have := of_decide_eq_true hp0; omega
    rw [if_neg hi0] at hp ⊢
    refine ⟨_, rfl, hF.str (by simp only [List.length_append]; omega) fun E hE => hE⟩
   ·have hi0 : i = 0 := by have := of_decide_eq_false hp0; omega
    rw [if_pos hi0, List.append_nil]; exact hF
  ·rintro _ E hE
   have hc : E b13 = some (true, .row (Qa.c x)) := hE.le _ _ (by rw [Heap.del_ne _ hbb]; exact c13)
   refine bxT (c := Qa.c) hc (he _ (List.getElem_mem hlt) x E _ _ (hE.down hAF) hx (by simp only [List.length_append]; omega) fun D3 h3 => ?_)
   rw [QM (by omega) (by omega)]
   refine ⟨⟨i + 1, by omega, by omega, ?_⟩, by first | omega | (dsimp only; omega)⟩
   rw [QbW hlt]
   simpa using h3
 ·have hie : i = l.length := by have := of_decide_eq_false h; omega
  subst hie
  rw [List.take_length] at hD
  exact k D hD
theorem QtY {R : α → Qa → Prop} {A B : Heap} {s : Sl} {l : List α} {e : Value} {f : α → Str} {t : Str} {b : Nat} {K : Heap → Prop} (hs : SlIs R Qa.c A s l) (hW : Ww A B b t)
 (he : ∀ v ∈ l, ∀ (x : Qa) (D : Heap) (u : Str) (Φ : Heap → Prop), Ww A D b u → R v x → u.length + (f v).length ≤ 140737488355328 → (∀ D2, Ww A D2 b (u ++ f v) → Φ D2) → callU Tryz.prog C e [.agg (Qa.c x).toArray] D (fun v H31 => v = .tuple #[] ∧ Φ H31))
 (hl : t.length + (jo [44, 32] f 0 l).length + 2 ≤ 140737488355328) (k : ∀ D, Ww A D b (t ++ 40 :: (jo [44, 32] f 0 l ++ [41])) → K D) : QE C (some (b, 0)) s e K B := by
 apply Qed
 unfold Qcd
 refine ⟨_, rfl, hW.byte (c := 40) rfl (by omega) fun D1 h1 => ?_⟩
 refine Qr2 hs h1 he (by simp only [List.length_append, List.length_singleton]; omega) fun D2 h2 => ?_
 refine ⟨_, rfl, h2.byte (c := 41) rfl (by simp only [List.length_append, List.length_singleton]; omega) fun D3 h3 => k D3 (by simpa using h3)⟩
theorem Qo7 {A : Heap} {s : Sl} {l : List Str} {e : Value} {ok : Str → Bool} {K : Bool → Heap → Prop} (hs : StL A s l) (hA : A.le H)
 (he : ∀ v ∈ l, ∀ (D : Heap) (Φ : Bool → Heap → Prop), A.le D → v.length ≤ 140737488355328 → Φ (ok v) D → callU Tryz.prog C e [sv v] D (fun v H31 => ∃ r30 : Bool, v = .bool r30 ∧ Φ r30 H31))
 (k : K (l.all ok) H) (h1c : Value.cells e = #[e] := by exact rfl) : QaH C s e K H := by
 apply QaH.gh
 apply QkU
 unfold Qg5
 refine ⟨h1c, ?_⟩
 intro b1 n1
 have l1 := Heap.le_put n1 (g := .row [e]) (m := true)
 have c1 : (H.put b1 (.row [e])) b1 = some (true, .row [e]) := Heap.put_same ..
 generalize H.put b1 (.row [e]) = H1 at *
 apply Qec
 unfold QbP
 apply QeT
 unfold Qb9
 have hlen := SlIs.len hs
 have hbd := SlIs.bd hs
 refine ⟨fun y D => H1.le D ∧ ∃ i : Nat, y = (i : Int) ∧ i ≤ l.length ∧ (l.take i).all ok = true, fun y _ => l.length - y.toNat, ⟨Heap.le.refl _, 0, rfl, Nat.zero_le _, rfl⟩, ?_⟩
 rintro _ D ⟨hD, i, rfl, hi, hall⟩
 rw [hlen]
 refine ift.of (fun h => ?_) (fun h => ?_)
 ·have hlt : i < l.length := by have := of_decide_eq_true h; omega
  refine SlIs.at_ hs (hA.trans (l1.trans hD)) (z := 1) (fun _ => rfl) (by omega) rfl hlt fun p y hy hr => ⟨y, hr 0 _ rfl, ?_⟩
  rw [hy.1]
  have key : ∀ Φ : Bool → Heap → Prop, (∀ D2, D.le D2 → Φ (!ok l[i]) D2) → callU Tryz.prog C (.func (.func 186) (List.toArray []) (List.toArray [pv (some (b1, 0))])) [sv l[i]] D (fun v H31 => ∃ r30 : Bool, v = .bool r30 ∧ Φ r30 H31) := fun Φ hΦ => by
   refine ⟨186, [], [pv (some (b1, 0))], rfl, QjW, ?_⟩
   show Qgu C l[i] (b1, 0) Φ D
   apply QjQ
   unfold Qf8
   refine ⟨e, by rw [QbU (hD _ _ c1)]; rfl, he _ (List.getElem_mem hlt) _ _ (hA.trans (l1.trans hD)) hy.2 ?_⟩
   exact hΦ _ (Heap.le.refl _)
  refine key _ fun D2 hD2 => ?_
  refine ift.of (fun hb => ?_) (fun hb => ?_)
  ·have hf : ok l[i] = false := by simpa using hb
   rw [allNo hlt hf] at k
   have e0 : decide ((i : Int) ≥ 0) = true := decide_eq_true (by omega)
   dsimp only
   rw [e0]
   exact ⟨H, Gh.le (l1.trans (hD.trans hD2)), k⟩
  ·have hf : ok l[i] = true := by simpa using hb
   rw [QM (by omega) (by omega)]
   exact ⟨⟨hD.trans hD2, i + 1, by omega, by omega, by rw [allTake hlt, hall, hf]; rfl⟩, by first | omega | (dsimp only; omega)⟩
 ·have hie : i = l.length := by have := of_decide_eq_false h; omega
  subst hie
  rw [List.take_length] at hall
  rw [hall] at k
  exact ⟨H, Gh.le (l1.trans hD), k⟩
theorem Qrz {A B : Heap} {s : Sl} {l : List Str} {e : Value} {t : Str} {b : Nat} {K : Heap → Prop} (hs : StL A s l) (hW : Ww A B b t)
 (he : ∀ v ∈ l, ∀ (D : Heap) (u : Str) (Φ : Heap → Prop), Ww A D b u → u.length + v.length ≤ 140737488355328 → (∀ D2, Ww A D2 b (u ++ v) → Φ D2) → callU Tryz.prog C e [sv v] D (fun v H31 => v = .tuple #[] ∧ Φ H31))
 (hl : t.length + (jo [44, 32] id 0 l).length + 2 ≤ 140737488355328) (k : ∀ D, Ww A D b (t ++ 40 :: (jo [44, 32] id 0 l ++ [41])) → K D) : Qda C (some (b, 0)) s e K B := by
 apply Qh8
 unfold Qe9
 refine ⟨_, rfl, hW.byte (c := 40) rfl (by omega) fun D1 h1 => ?_⟩
 apply QkC
 unfold QgE
 have hlen := SlIs.len hs
 have hbd := SlIs.bd hs
 refine ⟨fun y D => ∃ i : Nat, y = (i : Int) ∧ i ≤ l.length ∧ Ww A D b (t ++ [40] ++ jo [44, 32] id 0 (l.take i)), fun y _ => l.length - y.toNat, ⟨0, rfl, Nat.zero_le _, by simpa [jo] using h1⟩, ?_⟩
 rintro _ D ⟨i, rfl, hi, hD⟩
 rw [hlen]
 refine ift.of (fun h => ?_) (fun h => ?_)
 ·have hlt : i < l.length := by have := of_decide_eq_true h; omega
  have hp := Qjg (sep := [44, 32]) (f := (id : Str → Str)) l (i + 1)
  rw [QbW hlt] at hp
  simp only [List.length_append, id_eq] at hp
  refine SlIs.at_ hs hD.le (z := 1) (fun _ => rfl) (by omega) rfl hlt fun p y hy hr => ⟨y, hr 0 _ rfl, ?_⟩
  rw [hy.1]
  refine ⟨fun _ E => Ww A E b (t ++ [40] ++ jo [44, 32] id 0 (l.take i) ++ (if i = 0 then [] else [44, 32])), ?_, ?_⟩
  ·refine ift.of (fun hp0 => ?_) (fun hp0 => ?_)
   ·have hi0 : i ≠ 0 := by have := of_decide_eq_true hp0; omega
    rw [if_neg hi0] at hp ⊢
    exact ⟨_, rfl, hD.str (by simp only [List.length_append, List.length_cons, List.length_nil] at hp ⊢; omega) fun E hE => hE⟩
   ·have hi0 : i = 0 := by have := of_decide_eq_false hp0; omega
    rw [if_pos hi0, List.append_nil]; exact hD
  ·rintro _ E hE
   refine he _ (List.getElem_mem hlt) E _ _ hE (by simp only [List.length_append, List.length_cons, List.length_nil] at hp ⊢; omega) fun D3 h3 => ?_
   rw [QM (by omega) (by omega)]
   refine ⟨⟨i + 1, by omega, by omega, ?_⟩, by first | omega | (dsimp only; omega)⟩
   rw [QbW hlt]
   simpa using h3
 ·have hie : i = l.length := by have := of_decide_eq_false h; omega
  subst hie
  rw [List.take_length] at hD
  refine ⟨_, rfl, hD.byte (c := 41) rfl (by simp only [List.length_append, List.length_singleton]; omega) fun D3 h3 => k D3 (by simpa using h3)⟩
/-- several texts, one behind the other -/
theorem Qth {B : Heap} {b b2 n : Nat} {ss : List Str} {t : Str} {cs : List Value} {A : Heap} {K : Heap → Prop} (hW : Ww A B b t) (hc : B b2 = some (true, .row cs)) (hs : cs = ss.map sv) (hn : n = ss.length) (hb : n ≤ 100) (hl : t.length + ss.flatten.length ≤ 140737488355328) (k : ∀ D, Ww (B.del b) D b (t ++ ss.flatten) → K D) : QG C (some (b, 0)) (Sl.of (some (b2, 0)) n n) K B := by
 subst hs; subst hn
 apply QjT
 unfold Qgb
 obtain ⟨hF, hAF⟩ := hW.full
 obtain ⟨g, hg⟩ := hW.bl.some
 have hbb : b2 ≠ b := fun e' => by
  rw [e'] at hc
  rcases hW.bl with h | ⟨_, h⟩
  ·rw [h] at hc; injection hc with hc; injection hc with _ hc; cases hc
  ·rw [h] at hc; injection hc with hc; injection hc with _ hc; cases hc
 have hc2 : (B.del b) b2 = some (true, .row (ss.map sv)) := by rw [Heap.del_ne _ hbb]; exact hc
 have hpre : ∀ i, (ss.take i).flatten.length ≤ ss.flatten.length := fun i => by
  have := congrArg List.length (congrArg List.flatten (List.take_append_drop i ss))
  rw [List.flatten_append, List.length_append] at this; omega
 refine ⟨fun y D => ∃ i : Nat, y = (i : Int) ∧ i ≤ ss.length ∧ Ww (B.del b) D b (t ++ (ss.take i).flatten), fun y _ => ss.length - y.toNat, ⟨0, rfl, Nat.zero_le _, by simpa using hF⟩, ?_⟩
 rintro _ D ⟨i, rfl, hi, hD⟩
 refine ift.of (fun h => ?_) (fun h => ?_)
 ·have hlt : i < ss.length := by have := of_decide_eq_true h; simp only [Sl.of] at this; omega
  have hstep : (ss.take (i + 1)).flatten = (ss.take i).flatten ++ ss[i] := by rw [List.take_add_one, List.getElem?_eq_getElem hlt, Option.toList_some, List.flatten_append]; simp
  have hp := hpre (i + 1)
  rw [hstep, List.length_append] at hp
  refine ⟨(b2, 0), rfl, rfl, by omega, by simp only [Sl.of]; omega, ss[i], ?_, ?_⟩
  ·show rd D (b2, 0 + (i : Int).toNat * 1) = _
   rw [QbU (hD.le _ _ hc2), show 0 + (i : Int).toNat * 1 = i by omega, List.getElem?_map, List.getElem?_eq_getElem hlt]; rfl
  ·refine ⟨_, rfl, hD.str (by simp only [List.length_append]; omega) fun E hE => ?_⟩
   rw [QM (by omega) (by omega)]
   refine ⟨⟨i + 1, by omega, by omega, ?_⟩, by first | omega | (dsimp only; omega)⟩
   rw [hstep, ← List.append_assoc]; exact hE
 ·have hie : i = ss.length := by have := of_decide_eq_false h; simp only [Sl.of] at this; omega
  subst hie
  rw [List.take_length] at hD
  exact k D hD
end
end
section
open Go Go.Proofs
theorem jp {P : Prop} {R : Bool → Heap → Prop} {body : (Bool → Heap → Prop) → Prop} (H0 : Heap) (h1 : body (fun b E => E = H0 ∧ (b = true ↔ P))) (h2 : ∀ b, (b = true ↔ P) → R b H0) : jn (α := Bool) R body := ⟨fun b E => E = H0 ∧ (b = true ↔ P), h1, by rintro b _ ⟨rfl, h⟩; exact h2 b h⟩
theorem jv {R : Bool → Heap → Prop} {body : (Bool → Heap → Prop) → Prop} (v : Bool) (H0 : Heap) (h1 : body (fun b E => E = H0 ∧ b = v)) (h2 : R v H0) : jn (α := Bool) R body := ⟨fun b E => E = H0 ∧ b = v, h1, by rintro _ _ ⟨rfl, rfl⟩; exact h2⟩
theorem jw {R : Bool → Heap → Prop} {body : (Bool → Heap → Prop) → Prop} (v : Bool) (H0 : Heap) (h1 : body (fun b E => H0.le E ∧ b = v)) (h2 : ∀ E, H0.le E → R v E) : jn (α := Bool) R body := ⟨fun b E => H0.le E ∧ b = v, h1, by rintro _ _ ⟨h, rfl⟩; exact h2 _ h⟩
theorem ja {R : Bool → Heap → Prop} {x : Bool} (y : Bool) (H0 : Heap) {A : (Bool → Heap → Prop) → Prop} (h : x = true → A (fun b E => E = H0 ∧ b = y)) (k : R (x && y) H0) : jn (α := Bool) R (fun J => ift x (A J) (J false H0)) :=
 ⟨fun b E => E = H0 ∧ b = (x && y), ift.of (fun hx => by cases hx; exact h rfl) (fun hx => ⟨rfl, by rw [hx]; rfl⟩), by rintro _ _ ⟨rfl, rfl⟩; exact k⟩
theorem jo' {R : Bool → Heap → Prop} {x : Bool} (y : Bool) (H0 : Heap) {A : (Bool → Heap → Prop) → Prop} (h : x = false → A (fun b E => E = H0 ∧ b = y)) (k : R (x || y) H0) : jn (α := Bool) R (fun J => ift x (J true H0) (A J)) :=
 ⟨fun b E => E = H0 ∧ b = (x || y), ift.of (fun hx => ⟨rfl, by rw [hx]; rfl⟩) (fun hx => by cases hx; exact h rfl), by rintro _ _ ⟨rfl, rfl⟩; exact k⟩
theorem ix0 {s : Str} {K : UInt8 → Prop} (h : s ≠ []) (k : K (s.headD 0)) : ixs s 0 K := by
 cases s with
 | nil => exact absurd rfl h
 | cons c t => exact ⟨c, by omega, rfl, k⟩
theorem Qk3 (s : Str) : (s == ([] : Str)) = s.isEmpty := by cases s <;> rfl
theorem Qtl {x : Qc} (i : Nat) (u : Value) (hi : (Qf.c x.Type_)[i]? = some u) : (Qc.c x)[1 + i]? = some u := by
 match i, hi with
 | 0, hi => exact hi
 | 1, hi => exact hi
 | i + 2, hi => simp [Qf.c] at hi
theorem Quz {x : Qa} (i : Nat) (u : Value) (hi : (Qb.c x.Value_)[i]? = some u) : (Qa.c x)[4 + i]? = some u := by
 match i, hi with
 | 0, hi => exact hi
 | 1, hi => exact hi
 | 2, hi => exact hi
 | 3, hi => exact hi
 | i + 4, hi => simp [Qb.c] at hi
theorem QtJ (v : TyV) : tyD v = mxL tyD v.a + 1 := by
 obtain ⟨n, a⟩ := v
 have : ∀ l, tysD l = mxL tyD l := fun l => by
  induction l with
  | nil => rfl
  | cons v l ih => simp only [tysD, mxL, ih]
 simp only [tyD, TyV.a, this]
theorem Qot (l : List ExV) : exsD l = mxL exD l := by
 induction l with
 | nil => rfl
 | cons v l ih => simp only [exsD, mxL, ih]
theorem Qtw (v : ExV) : exD v = mxL exD v.a + 1 := by
 obtain ⟨k, n, u, a⟩ := v
 simp only [exD, ExV.a, Qot]
section
variable {C : Ctx} {H A : Heap}
theorem box1 {cx : List Value} {K : Nat → Heap → Prop} (k : ∀ b1 H2, H.le H2 → H2 b1 = some (true, .row cx) → K b1 H2) : nw cx K H := fun b n => k b _ (Heap.le_put n) (Heap.put_same ..)
theorem fB0 {b : Nat} {m : Bool} {t : Bool} {K : Bool → Prop} (h : H b = some (m, .row [.bool t])) (k : K t) : ldB H (b, 0) K := ⟨t, by rw [QbU h]; rfl, k⟩
theorem QpB : ∀ (v : TyV) {x : Qf} {H : Heap} {K : Int → Heap → Prop}, TyIs A v x → A.le H → tyD v ≤ 4611686018427387904 → K (tyD v : Nat) H → QbB C x K H := by
 refine TyV.rec_ fun v ih x H K hx hA hb k => ?_
 have hx' := Qeq.1 hx
 apply QbB.gh
 apply QlB
 unfold Qh2
 rw [QtJ] at hb k
 refine box1 fun b1 H2 hle h1 => fL h1 rfl ?_
 refine Qt6 hx'.2 (hA.trans hle) (d := tyD) (fun w hw x D Φ hD hR hΦ => cu QhV (ih w hw hR hD (by have := Qj4 (f := tyD) hw; omega) hΦ)) ?_
 rw [QM (by omega) (by omega)]
 have e : (1 + (mxL tyD v.a : Nat) : Int) = ((mxL tyD v.a + 1 : Nat) : Int) := by omega
 rw [e]; exact ⟨H, Gh.le hle, k⟩
theorem Qqp : ∀ (v : ExV) {x : Qa} {H : Heap} {K : Int → Heap → Prop}, ExIs A v x → A.le H → exD v ≤ 4611686018427387904 → K (exD v : Nat) H → Qdy C x K H := by
 refine ExV.rec_ fun v ih x H K hx hA hb k => ?_
 have hx' := Qa6.1 hx
 apply Qdy.gh
 apply Qog
 unfold Qlo
 rw [Qtw] at hb k
 refine box1 fun b1 H2 hle h1 => fL h1 rfl ?_
 refine QrH hx'.2.2.2.2 (hA.trans hle) (d := exD) (fun w hw x D Φ hD hR hΦ => cu Qit (ih w hw hR hD (by have := Qj4 (f := exD) hw; omega) hΦ)) ?_
 rw [QM (by omega) (by omega)]
 have e : (1 + (mxL exD v.a : Nat) : Int) = ((mxL exD v.a + 1 : Nat) : Int) := by omega
 rw [e]; exact ⟨H, Gh.le hle, k⟩
theorem QmP {l : List ExV} {s : Sl} {K : Int → Heap → Prop} (hs : ExL A s l) (hA : A.le H) (hb : exsD l ≤ 4611686018427387904) (k : K (exsD l : Nat) H) : QH C s (.func (.func 91) (List.toArray []) (List.toArray []) : Value) K H := by
 rw [Qot] at k hb
 exact QrH hs hA (d := exD) (fun w hw x D Φ hD hR hΦ => cu Qit (Qqp w hR hD (by have := Qj4 (f := exD) hw; omega) hΦ)) k
theorem Qoy {v : FdV} {x : Qc} {K : Int → Heap → Prop} (hx : FdIs A v x) (hA : A.le H) (hb : tyD v.t ≤ 4611686018427387904) (k : K (tyD v.t : Nat) H) : QbQ C x K H := by
 apply QbQ.gh
 apply QkV
 unfold Qg6
 exact box1 fun b1 H2 hle h1 => fT h1 Qtl (QpB v.t hx.2 (hA.trans hle) hb ⟨H, Gh.le hle, k⟩)
theorem Qj3 {l : List FdV} {s : Sl} {K : Int → Heap → Prop} (hs : FdL A s l) (hA : A.le H) (hb : fdsD l ≤ 4611686018427387904) (k : K (fdsD l : Nat) H) : QD C s (.func (.func 118) (List.toArray []) (List.toArray []) : Value) K H :=
 QpV hs hA (d := fun f : FdV => tyD f.t) (fun w hw x D Φ hD hR hΦ => cu Qle (Qoy hR hD (by have := Qj4 (f := fun f : FdV => tyD f.t) hw; unfold fdsD at hb; omega) hΦ)) k
theorem QmW {v : LiV} {x : Qd} {K : Int → Heap → Prop} (hx : LiIs A v x) (hA : A.le H) (hb : liD v ≤ 4611686018427387904) (k : K (liD v : Nat) H) : Qbf C x K H := by
 apply Qbf.gh
 apply QjR
 unfold Qf9
 exact box1 fun b1 H2 hle h1 => fL h1 rfl (QmP hx.2.2 (hA.trans hle) hb ⟨H, Gh.le hle, k⟩)
theorem QmV {l : List LiV} {s : Sl} {K : Int → Heap → Prop} (hs : LiL A s l) (hA : A.le H) (hb : lisD l ≤ 4611686018427387904) (k : K (lisD l : Nat) H) : QF C s (.func (.func 125) (List.toArray []) (List.toArray []) : Value) K H :=
 QqX hs hA (d := liD) (fun w hw x D Φ hD hR hΦ => cu QjX (QmW hR hD (by have := Qj4 (f := liD) hw; unfold lisD at hb; omega) hΦ)) k
theorem QrC {v : CnV} {x : Qe} {K : Int → Heap → Prop} (hx : CnIs A v x) (hA : A.le H) (hb : fdsD v.f ≤ 4611686018427387904) (k : K (fdsD v.f : Nat) H) : Qcs C x K H := by
 apply Qcs.gh
 apply Qma
 unfold QiG
 exact box1 fun b1 H2 hle h1 => fL h1 rfl (Qj3 hx.2 (hA.trans hle) hb ⟨H, Gh.le hle, k⟩)
theorem QsO {v : TdV} {x : Qg} {K : Int → Heap → Prop} (hx : TdIs A v x) (hA : A.le H) (hb : tdD v ≤ 4611686018427387904) (k : K (tdD v : Nat) H) : QdQ C x K H := by
 apply QdQ.gh
 apply Qny
 unfold Qkq
 exact box1 fun b1 H2 hle h1 => fL h1 rfl (QqW hx.2.2.2 (hA.trans hle) (d := fun c : CnV => fdsD c.f) (fun w hw x D Φ hD hR hΦ => cu Qmi (QrC hR hD (by have := Qj4 (f := fun c : CnV => fdsD c.f) hw; unfold tdD at hb; omega) hΦ)) ⟨H, Gh.le hle, k⟩)
theorem QsP {v : RdV} {x : Qh} {K : Int → Heap → Prop} (hx : RdIs A v x) (hA : A.le H) (hb : fdsD v.f ≤ 4611686018427387904) (k : K (fdsD v.f : Nat) H) : QdR C x K H := by
 apply QdR.gh
 apply Qnz
 unfold Qkr
 exact box1 fun b1 H2 hle h1 => fL h1 rfl (Qj3 hx.2.2.2 (hA.trans hle) hb ⟨H, Gh.le hle, k⟩)
theorem ifmax (a b : Nat) : (if ((b : Nat) : Int) > ((a : Nat) : Int) then ((b : Nat) : Int) else ((a : Nat) : Int)) = ((max a b : Nat) : Int) := by split <;> omega
theorem QsQ {v : RuV} {x : Qk} {K : Int → Heap → Prop} (hx : RuIs A v x) (hA : A.le H) (hb : ruD v ≤ 4611686018427387904) (k : K (ruD v : Nat) H) : QdS C x K H := by
 apply QdS.gh
 apply QnA
 unfold Qks
 unfold ruD at hb
 refine box1 fun b1 H2 hle h1 => ⟨H2, Heap.le.refl _, fL h1 rfl (fL h1 rfl ?_)⟩
 refine QmP hx.2.1 (hA.trans hle) (by omega) ⟨Heap.le.refl _, QmV hx.2.2.2 (hA.trans hle) (by omega) ⟨Heap.le.refl _, ?_⟩⟩
 dsimp only
 rw [ifmax]; exact ⟨H, Gh.le hle, k⟩
theorem QsR {v : NeV} {x : Qj} {K : Int → Heap → Prop} (hx : NeIs A v x) (hA : A.le H) (hb : lisD v.b ≤ 4611686018427387904) (k : K (lisD v.b : Nat) H) : QdT C x K H := by
 apply QdT.gh
 apply QnB
 unfold Qkt
 exact box1 fun b1 H2 hle h1 => fL h1 rfl (QmV hx.2 (hA.trans hle) hb ⟨H, Gh.le hle, k⟩)
theorem Qt4 {v : MoV} {x : Qi} {K : Int → Heap → Prop} (hx : MoIs A v x) (hA : A.le H) (hb : moD v ≤ 4611686018427387904) (k : K (moD v : Nat) H) : Qer C x K H := by
 apply Qer.gh
 apply QoY
 unfold QlX
 unfold moD at hb k
 refine box1 fun b1 H2 hle h1 => ⟨H2, Heap.le.refl _, fL h1 rfl (fL h1 rfl (fL h1 rfl (fL h1 rfl ?_)))⟩
 have hA2 := hA.trans hle
 refine QqY hx.2.2.1 hA2 (d := tdD) (fun w hw x D Φ hD hR hΦ => cu QnN (QsO hR hD (by have := Qj4 (f := tdD) hw; omega) hΦ)) ⟨Heap.le.refl _, ?_⟩
 refine QrI hx.2.2.2.1 hA2 (d := fun r : RdV => fdsD r.f) (fun w hw x D Φ hD hR hΦ => cu QnO (QsP hR hD (by have := Qj4 (f := fun r : RdV => fdsD r.f) hw; omega) hΦ)) ⟨Heap.le.refl _, ?_⟩
 refine Qt5 hx.2.2.2.2.1 hA2 (d := ruD) (fun w hw x D Φ hD hR hΦ => cu QnP (QsQ hR hD (by have := Qj4 (f := ruD) hw; omega) hΦ)) ⟨Heap.le.refl _, ?_⟩
 refine QsS hx.2.2.2.2.2 hA2 (d := fun n : NeV => lisD n.b) (fun w hw x D Φ hD hR hΦ => cu QnQ (QsR hR hD (by have := Qj4 (f := fun n : NeV => lisD n.b) hw; omega) hΦ)) ⟨Heap.le.refl _, ?_⟩
 have e : max4 ((mxL tdD v.ty : Nat) : Int) ((mxL (fun r : RdV => fdsD r.f) v.re : Nat) : Int) ((mxL ruD v.ru : Nat) : Int) ((mxL (fun n : NeV => lisD n.b) v.ne : Nat) : Int) = ((max (max (mxL tdD v.ty) (mxL (fun r : RdV => fdsD r.f) v.re)) (max (mxL ruD v.ru) (mxL (fun n : NeV => lisD n.b) v.ne)) : Nat) : Int) := by unfold max4; omega
 rw [e]; exact ⟨H, Gh.le hle, k⟩
theorem Qsn {s : Str} {K : Bool → Heap → Prop} (hs : s.length ≤ 140737488355328) (k : K (s.all nameC && decide (s.length ≤ 32)) H) : Qie C s K H := by
 apply Qo3
 unfold Ql2
 refine ⟨fun x D => D = H ∧ ∃ i : Nat, x = (i : Int) ∧ i ≤ s.length ∧ (s.take i).all nameC = true, fun x _ => s.length - x.toNat, ⟨rfl, 0, rfl, Nat.zero_le _, rfl⟩, ?_⟩
 rintro _ D ⟨rfl, i, rfl, hi, ha⟩
 refine ift.of (fun h => ?_) (fun h => ?_)
 ·have hlt : i < s.length := by have := of_decide_eq_true h; omega
  refine ⟨s[i], by omega, getE hlt, ?_⟩
  dsimp only
  have hm := List.getElem_mem hlt
  have hat := Qqj (p := nameC) hlt
  generalize s[i] = c at *
  have e : ((((decide ((c.toNat : Int) ≥ 97)) && (decide ((c.toNat : Int) ≤ 122))) || ((decide ((c.toNat : Int) ≥ 65)) && (decide ((c.toNat : Int) ≤ 90)))) || ((decide ((c.toNat : Int) ≥ 48)) && (decide ((c.toNat : Int) ≤ 57)))  || ((c.toNat : Int) == 95)) = nameC c := by
   unfold nameC lowC
   have h1 : decide ((c.toNat : Int) ≥ 65) = decide (65 ≤ c.toNat) := by rw [decide_eq_decide]; omega
   have h2 : decide ((c.toNat : Int) ≤ 90) = decide (c.toNat ≤ 90) := by rw [decide_eq_decide]; omega
   have h3 : decide ((c.toNat : Int) ≥ 48) = decide (48 ≤ c.toNat) := by rw [decide_eq_decide]; omega
   have h4 : decide ((c.toNat : Int) ≤ 57) = decide (c.toNat ≤ 57) := by rw [decide_eq_decide]; omega
   have h5 : ((c.toNat : Int) == 95) = decide (c.toNat = 95) := by
    rw [Bool.eq_iff_iff]; simp only [beq_iff_eq, decide_eq_true_eq]; omega
   have h6 : decide ((c.toNat : Int) ≥ 97) = decide (97 ≤ c.toNat) := by rw [decide_eq_decide]; omega
   have h7 : decide ((c.toNat : Int) ≤ 122) = decide (c.toNat ≤ 122) := by rw [decide_eq_decide]; omega
   rw [h1, h2, h3, h4, h5, h6, h7]
  rw [e]
  refine ift.of (fun h => ?_) (fun h => ?_)
  ·rw [Qtr hm (by simpa using h)] at k; exact k
  ·rw [QM (by omega) (by omega)]
   refine ⟨⟨rfl, i + 1, by omega, by omega, ?_⟩, by first | omega | (dsimp only; omega)⟩
   rw [hat, ha]; simpa using h
 ·have hie : i = s.length := by have := of_decide_eq_false h; omega
  rw [hie, List.take_length] at ha
  rw [ha] at k
  have e : decide ((s.length : Int) ≤ 32) = decide (s.length ≤ 32) := by rw [decide_eq_decide]; omega
  rw [e]; exact k
theorem QuH {s : Str} {p : Bool} (h : ((!(s == ([] : Str))) && p) = true) : s ≠ [] := fun e => by rw [e] at h; simp at h
theorem QfW {s t : Str} {K : Bool → Heap → Prop} (hT : MaxC C) (ht : Nm t s) (k : K (namS s) H) : Qbg C t K H := by
 obtain ⟨rfl, hs⟩ := ht
 apply Qo2
 unfold Ql1
 refine ja (decide (97 ≤ (t.headD 0).toNat)) H (fun h => ix0 (fun e => by rw [e] at h; simp at h) ⟨rfl, by rw [decide_eq_decide]; omega⟩) ?_
 refine ja (decide ((t.headD 0).toNat ≤ 122)) H (fun h => ix0 (QuH h) ⟨rfl, by rw [decide_eq_decide]; omega⟩) ?_
 refine ja (t.all nameC && decide (t.length ≤ 32)) H (fun h => Qsn hs ⟨rfl, rfl⟩) ?_
 refine ja (!resW.contains t) H (fun h => ?_) ?_
 ·simp only [Bool.and_eq_true, decide_eq_true_eq] at h
  have h32 := h.2.2
  refine ⟨by simp [catOk]; omega, by simp [catOk]; omega, ?_⟩
  rw [← QtX]
  have hbl : (blk resW).length < 4294967281 := by decide
  refine QnV hT hbl ?_
  rw [Qvd h.2.1]; exact ⟨rfl, rfl⟩
 have e : (((((!(t == ([] : Str))) && decide (97 ≤ (t.headD 0).toNat)) && decide ((t.headD 0).toNat ≤ 122)) && (t.all nameC && decide (t.length ≤ 32))) && !resW.contains t) = namS t := by
  unfold namS nameS lowC
  rw [Qk3, Bool.eq_iff_iff]
  simp only [Bool.and_eq_true]
  constructor
  ·rintro ⟨⟨⟨⟨a, b⟩, c⟩, d, e⟩, f⟩; exact ⟨⟨⟨⟨a, e⟩, b, c⟩, d⟩, f⟩
  ·rintro ⟨⟨⟨⟨a, e⟩, b, c⟩, d⟩, f⟩; exact ⟨⟨⟨⟨a, b⟩, c⟩, d, e⟩, f⟩
 rw [e]; exact k
theorem QoE {s t : Str} {K : Bool → Heap → Prop} (hT : MaxC C) (ht : Nm t s) (k : K (longS s) H) : Qfr C t K H := by
 obtain ⟨rfl, hs⟩ := ht
 apply Qo1
 unfold Ql0
 refine Qpb hs ?_
 unfold longS at k
 cases hc : cutD t with
 | none =>
  rw [hc] at k
  refine QfW hT ⟨rfl, hs⟩ ?_
  refine ja true H (fun h => jo' true H (fun h => (nomatch h)) ⟨rfl, rfl⟩) ?_
  rw [Bool.and_true]; exact k
 | some p =>
  obtain ⟨a, b⟩ := p
  rw [hc] at k
  have hl := Qqn hc
  refine QfW hT ⟨rfl, by omega⟩ ?_
  exact ja (namS b) H (fun h => jo' (namS b) H (fun h => QfW hT ⟨rfl, by omega⟩ ⟨rfl, rfl⟩) ⟨rfl, rfl⟩) k
theorem Qnm {s t : Str} {K : Bool → Heap → Prop} (ht : Nm t s) (k : K (varS s) H) : QeY C t K H := by
 obtain ⟨rfl, hs⟩ := ht
 apply Qmf
 unfold QiL
 refine ja (decide (65 ≤ (t.headD 0).toNat)) H (fun h => ix0 (fun e => by rw [e] at h; simp at h) ⟨rfl, by rw [decide_eq_decide]; omega⟩) ?_
 refine ja (decide ((t.headD 0).toNat ≤ 90)) H (fun h => ix0 (QuH h) ⟨rfl, by rw [decide_eq_decide]; omega⟩) ?_
 refine ja (t.all nameC && decide (t.length ≤ 32)) H (fun h => Qsn hs ⟨rfl, rfl⟩) ?_
 have e : ((((!(t == ([] : Str))) && decide (65 ≤ (t.headD 0).toNat)) && decide ((t.headD 0).toNat ≤ 90)) && (t.all nameC && decide (t.length ≤ 32))) = varS t := by
  unfold varS upC
  rw [Qk3, Bool.eq_iff_iff]
  simp only [Bool.and_eq_true]
  constructor
  ·rintro ⟨⟨⟨a, b⟩, c⟩, d, e⟩; exact ⟨⟨⟨a, e⟩, b, c⟩, d⟩
  ·rintro ⟨⟨⟨a, e⟩, b, c⟩, d⟩; exact ⟨⟨⟨a, b⟩, c⟩, d, e⟩
 rw [e]; exact k
theorem QqF {s t : Str} {K : Bool → Heap → Prop} (hT : MaxC C) (ht : Nm t s) (k : K (parS s) H) : Qjd C t K H := by
 obtain ⟨rfl, hs⟩ := ht
 apply Qoh
 unfold Qlp
 apply QjM
 unfold Qf4
 refine QlN ?_
 refine ja (namS (t.drop 1)) H (fun h => ?_) ?_
 ·have hl : 1 ≤ t.length := by have := (List.isPrefixOf_iff_prefix.1 h).length_le; simpa using this
  refine ⟨by omega, by omega, by omega, t.drop 1, by simp, QfW hT ⟨rfl, by simp; omega⟩ ⟨rfl, rfl⟩⟩
 have e : (([39] : Str).isPrefixOf t && namS (t.drop 1)) = parS t := by
  cases t with
  | nil => rfl
  | cons c t =>
   simp only [List.isPrefixOf, parS, List.drop_succ_cons, List.drop_zero, Bool.and_true]
   rw [show ((39 : UInt8) == c) = decide (c = 39) by rw [Bool.eq_iff_iff, beq_iff_eq, decide_eq_true_eq]; exact eq_comm]
 rw [e]; exact k
theorem QmS {s : Str} {K : Bool → Heap → Prop} (k : K (funB s) H) : QeX C s K H := by
 apply Qmc
 unfold QiI
 have e : ((((s == ([110, 101, 103] : Str)) || (s == ([108, 101, 110] : Str))) || (s == ([98, 105, 103] : Str))) || (s == ([105, 110, 116] : Str))) = funB s := by
  unfold funB negS lenS bigS intS
  rw [Bool.eq_iff_iff]; simp only [Bool.or_eq_true, beq_iff_eq, decide_eq_true_eq, or_assoc]
 rw [e]; exact k
end
end
section
open Go Go.Proofs
/-- the table: how many arguments -/
def arL (k : Str) : Option Int := if opsW.contains k then some 2 else if k = intS then some 1 else if k = bigS then some 1 else if k = lenS then some 1 else if k = negS then some 1 else if k = notS then some 1 else none
theorem QuG (k : Str) : arL k = if arS k = 0 then none else some (arS k : Nat) := by
 unfold arL arS
 by_cases h : opsW.contains k = true
 ·rw [if_pos h, if_pos h]; rfl
 rw [if_neg h, if_neg h]
 unfold funB
 by_cases h1 : k = intS
 ·rw [if_pos h1]; subst h1; rfl
 rw [if_neg h1]
 by_cases h2 : k = bigS
 ·rw [if_pos h2]; subst h2; rfl
 rw [if_neg h2]
 by_cases h3 : k = lenS
 ·rw [if_pos h3]; subst h3; rfl
 rw [if_neg h3]
 by_cases h4 : k = negS
 ·rw [if_pos h4]; subst h4; rfl
 rw [if_neg h4]
 by_cases h5 : k = notS
 ·rw [if_pos h5]; subst h5; rfl
 rw [if_neg h5]
 have : ¬ (k = notS ∨ decide (k = negS ∨ k = lenS ∨ k = bigS ∨ k = intS) = true) := by
  rintro (h | h)
  ·exact h5 h
  ·rcases of_decide_eq_true h with h | h | h | h
   ·exact h4 h
   ·exact h3 h
   ·exact h2 h
   ·exact h1 h
 rw [if_neg this]; rfl
theorem QpD : ∀ l, tysOk l = l.all tyOk
 | [] => rfl
 | v :: l => by simp only [tysOk, List.all_cons, QpD l]
theorem Qgv (p : Bool) : ∀ l, exsOk p l = l.all (exOk p)
 | [] => rfl
 | v :: l => by simp only [exsOk, List.all_cons, Qgv p l]
theorem Qsv (v : TyV) : tyOk v = (tyN v.n v.a.length && v.a.all tyOk) := by obtain ⟨n, a⟩ := v; simp only [tyOk, QpD, TyV.n, TyV.a]
theorem Qoo (p : Bool) (v : ExV) : exOk p v = if v.k = 1 then litV v.v && decide (v.a.length = 0) && v.n.isEmpty else exN p v.k v.n v.a.length && noV v.v && v.a.all (exOk p) := by obtain ⟨k, n, u, a⟩ := v; simp only [exOk, Qgv, ExV.n, ExV.a, ExV.k, ExV.v]; rfl
theorem lenI {n m : Nat} : (((n : Nat) : Int) == (m : Int)) = decide (n = m) := by rw [Bool.eq_iff_iff, beq_iff_eq, decide_eq_true_eq]; omega
theorem lenN {n m : Nat} : (((n : Nat) : Int) != (m : Int)) = decide (n ≠ m) := by rw [Bool.eq_iff_iff, bne_iff_ne, decide_eq_true_eq]; omega
theorem lenL {n m : Nat} : decide (((n : Nat) : Int) ≤ (m : Int)) = decide (n ≤ m) := by rw [decide_eq_decide]; omega
section
variable {C : Ctx} {H A : Heap}
theorem Qn6 {H D : Heap} {b : Nat} {l : List (Str × Int)} {f : Str → Option Int} {k : Str} {x : Int} {K : Heap → Prop} (nb : H b = none) (hle : H.le D) (hm : MapS sv (fun x : Int => (.int .i64 x : Value)) D b l) (hf : ∀ k2, lkL k2 l = f k2)
 (kk : ∀ D2 l2, H.le D2 → MapS sv (fun x : Int => (.int .i64 x : Value)) D2 b l2 → (∀ k2, lkL k2 l2 = if k2 = k then some x else f k2) → (∀ c, c ≠ b → D2 c = D c) → K D2) : upS sv (fun x : Int => (.int .i64 x : Value)) (some b) k x K D :=
 ⟨b, l, rfl, hm, fun g l2 hm2 hk _ => kk _ _ (hle.put _ _ nb) hm2 (fun k2 => by rw [hk, hf]) (fun c hc => Heap.put_ne _ _ _ hc)⟩
theorem QsI {K : Option Nat → Heap → Prop} (k : ∀ (b : Nat) (D : Heap) (l : List (Str × Int)), H.le D → MapIs sv (fun x : Int => (.int .i64 x : Value)) D b l → (∀ k2, lkL k2 l = arL k2) → K (some b) D) : Qjc C K H := by
 apply Qof
 unfold Qln
 intro b nb
 refine Qn6 nb ((Heap.le.refl H).put _ _ nb) MapS.new (f := fun _ => none) (fun _ => rfl) fun D1 l1 h1 m1 f1 _ => ?_
 refine Qn6 nb h1 m1 f1 fun D2 l2 h2 m2 f2 _ => ?_
 refine Qn6 nb h2 m2 f2 fun D3 l3 h3 m3 f3 _ => ?_
 refine Qn6 nb h3 m3 f3 fun D4 l4 h4 m4 f4 _ => ?_
 refine Qn6 nb h4 m4 f4 fun D5 l5 h5 m5 f5 _ => ?_
 intro b8 n8
 have ne : b8 ≠ b := fun e => by
  obtain ⟨g, hg⟩ := m5.is.mine
  rw [← e, n8] at hg; cases hg
 have h6 := h5.trans (Heap.le_put n8 (m := true) (g := .row (opsW.map sv)))
 have m6 := m5.le (Heap.le_put n8 (m := true) (g := .row (opsW.map sv)))
 have c6 : (D5.put b8 (.row (opsW.map sv))) b8 = some (true, .row (opsW.map sv)) := Heap.put_same ..
 have hol : opsW.length = 14 := rfl
 refine ⟨fun y D => ∃ (i : Nat) (l : List (Str × Int)), y = (i : Int) ∧ i ≤ 14 ∧ H.le D ∧ MapS sv (fun x : Int => (.int .i64 x : Value)) D b l ∧ D b8 = some (true, .row (opsW.map sv)) ∧ (∀ k2, lkL k2 l = if (opsW.take i).contains k2 then some 2 else lkL k2 l5), fun y _ => 14 - y.toNat, ⟨0, l5, rfl, by omega, h6, m6, c6, fun k2 => by simp⟩, ?_⟩
 rintro _ D ⟨i, l, rfl, hi, hD, hm, hc, hf⟩
 refine ift.of (fun h => ?_) (fun h => ?_)
 ·have hlt : i < 14 := by have := of_decide_eq_true h; simp only [Sl.of] at this; omega
  refine ⟨(b8, 0), rfl, rfl, by omega, by simp only [Sl.of]; omega, opsW[i]'(by omega), ?_, ?_⟩
  ·show rd D (b8, 0 + (i : Int).toNat * 1) = _
   rw [QbU hc, show 0 + (i : Int).toNat * 1 = i by omega, List.getElem?_map, List.getElem?_eq_getElem (by omega)]; rfl
  ·refine Qn6 nb hD hm hf fun D2 l2 h2 m2 f2 o2 => ?_
   rw [QM (by omega) (by omega)]
   refine ⟨⟨i + 1, l2, by omega, by omega, h2, m2, by rw [o2 _ ne]; exact hc, fun k2 => ?_⟩, by first | omega | (dsimp only; omega)⟩
   rw [f2, List.take_add_one, List.getElem?_eq_getElem (by omega : i < opsW.length), Option.toList_some]
   by_cases hk : k2 = opsW[i]'(by omega)
   ·rw [if_pos hk, if_pos (by rw [List.contains_iff_mem, hk]; exact List.mem_append.2 (.inr (List.mem_singleton.2 rfl)))]
   ·rw [if_neg hk]
    have : (opsW.take i ++ [opsW[i]'(by omega)]).contains k2 = (opsW.take i).contains k2 := by
     rw [Bool.eq_iff_iff, List.contains_iff_mem, List.contains_iff_mem, List.mem_append, List.mem_singleton]; exact ⟨fun h => h.resolve_right hk, .inl⟩
    rw [this]
 ·have hie : i = 14 := by have := of_decide_eq_false h; simp only [Sl.of] at this; omega
  subst hie
  refine k b D l hD hm.is fun k2 => ?_
  rw [hf, show opsW.take 14 = opsW from rfl, f5]; rfl
theorem QuC {v : V} {x : TV} {K : Bool → Heap → Prop} (hx : VIs A v x) (k : K (noV v) H) : Qet C x K H := by
 have hx' := Qfq.1 hx
 apply Qet.gh
 apply Qo5
 unfold Ql4
 refine box1 fun b1 H2 hle h1 => fI h1 rfl ?_
 refine ja (decide (v.n = 0)) H2 (fun _ => fI h1 rfl ⟨rfl, by rw [hx'.2.1]; rfl⟩) ?_
 refine ja v.s.isEmpty H2 (fun _ => fS h1 rfl ⟨rfl, by rw [hx'.2.2.1, Qk3]⟩) ?_
 refine ja (decide (v.l.length = 0)) H2 (fun _ => fL h1 rfl ⟨rfl, by rw [hx'.2.2.2.len]; exact lenI (m := 0)⟩) ?_
 rw [hx'.1]
 have e : ((v.k == 0 && decide (v.n = 0)) && v.s.isEmpty && decide (v.l.length = 0)) = noV v := rfl
 rw [e]; exact ⟨H, Gh.le hle, k⟩
theorem Qtm (hT : MaxC C) : ∀ (v : TyV) {x : Qf} {H : Heap} {K : Bool → Heap → Prop}, TyIs A v x → A.le H → K (tyOk v) H → QdA C x K H := by
 refine TyV.rec_ fun v ih x H K hx hA k => ?_
 have hx' := Qeq.1 hx
 have hlen := hx'.2.len
 apply QdA.gh
 apply Qoi
 unfold Qlq
 rw [Qsv] at k
 refine box1 fun b1 H2 hle h1 => fL h1 rfl (fS h1 rfl ?_)
 have hall : ∀ {K : Bool → Heap → Prop}, K (v.a.all tyOk) H2 → Q6 C x.Args (.func (.func 142) (List.toArray []) (List.toArray []) : Value) K H2 := fun k => QtW hx'.2 (hA.trans hle) (ok := tyOk) (fun w hw y D Φ hD hR hΦ => cu Qlg (ih w hw hR hD hΦ)) k
 rw [hlen]
 have e1 := hx'.1.1
 refine jp (P := v.n = boolS ∨ v.n = intS ∨ v.n = bigS ∨ v.n = textS) H2 ?_ fun b hb => ?_
 ·rw [e1]
  refine ift.of (fun h => ⟨rfl, ⟨fun _ => .inl (beq_iff_eq.1 h), fun _ => h⟩⟩) fun h1 => ?_
  refine ift.of (fun h => ⟨rfl, ⟨fun _ => .inr (.inl (beq_iff_eq.1 h)), fun _ => h⟩⟩) fun h2 => ?_
  refine ift.of (fun h => ⟨rfl, ⟨fun _ => .inr (.inr (.inl (beq_iff_eq.1 h))), fun _ => h⟩⟩) fun h3 => ⟨rfl, ⟨fun h => .inr (.inr (.inr (beq_iff_eq.1 h))), fun h => ?_⟩⟩
  rcases h with h | h | h | h
  ·rw [h] at h1; cases h1
  ·rw [h] at h2; cases h2
  ·rw [h] at h3; cases h3
  ·rw [h]; rfl
 refine ift.of (fun h => ?_) (fun h => ?_)
 ·have hp := hb.1 h
  have e : (tyN v.n v.a.length && v.a.all tyOk) = (((v.a.length : Nat) : Int) == 0) := by
   unfold tyN
   rw [if_pos hp, show (((v.a.length : Nat) : Int) == 0) = decide (v.a.length = 0) from lenI (m := 0)]
   cases ha : v.a with
   | nil => rfl
   | cons w l => simp
  rw [← e]; exact ⟨H, Gh.le hle, k⟩
 have hp : ¬ (v.n = boolS ∨ v.n = intS ∨ v.n = bigS ∨ v.n = textS) := fun p => by rw [hb.2 p] at h; cases h
 unfold tyN at k
 rw [if_neg hp] at k
 refine ift.of (fun h => ?_) (fun h => ?_)
 ·rw [e1] at h
  rw [if_pos (show v.n = tupS from beq_iff_eq.1 h)] at k
  refine ja (v.a.all tyOk) H2 (fun _ => fL h1 rfl (hall ⟨rfl, rfl⟩)) ?_
  rw [show (((v.a.length : Nat) : Int) != 1) = decide (v.a.length ≠ 1) from lenN (m := 1), show decide (((v.a.length : Nat) : Int) ≤ 16) = decide (v.a.length ≤ 16) from lenL (m := 16)]
  exact ⟨H, Gh.le hle, k⟩
 ·rw [e1] at h
  rw [if_neg (fun e : v.n = tupS => by rw [e] at h; exact absurd h (by decide))] at k
  refine fS h1 rfl (QqF hT hx'.1 ?_)
  rw [show (((v.a.length : Nat) : Int) == 0) = decide (v.a.length = 0) from lenI (m := 0), show decide (((v.a.length : Nat) : Int) ≤ 8) = decide (v.a.length ≤ 8) from lenL (m := 8)]
  refine jo' ((longS v.n && decide (v.a.length ≤ 8)) && v.a.all tyOk) H2 (fun _ => fS h1 rfl (QoE hT hx'.1 ?_)) ?_
  ·exact ja (v.a.all tyOk) H2 (fun _ => fL h1 rfl (hall ⟨rfl, rfl⟩)) ⟨rfl, rfl⟩
  have e : ((parS v.n && decide (v.a.length = 0)) || ((longS v.n && decide (v.a.length ≤ 8)) && v.a.all tyOk)) = ((parS v.n && decide (v.a.length = 0) || longS v.n && decide (v.a.length ≤ 8)) && v.a.all tyOk) := by
   cases hp : (parS v.n && decide (v.a.length = 0)) with
   | false => simp
   | true =>
    have h0 : v.a.length = 0 := by simp only [Bool.and_eq_true, decide_eq_true_eq] at hp; exact hp.2
    rw [List.length_eq_zero_iff.1 h0]; simp
  rw [e]; exact ⟨H, Gh.le hle, k⟩
theorem exN2 {p n m} : exN p 2 n m = (varS n && decide (m = 0)) := rfl
theorem exN3 {p n m} : exN p 3 n m = (p && n.isEmpty && decide (m = 0)) := rfl
theorem exN4 {p n m} : exN p 4 n m = (n.isEmpty && decide (m ≠ 1) && decide (m ≤ 16)) := rfl
theorem exN5 {p n m} : exN p 5 n m = (longS n && decide (m ≤ 8)) := rfl
theorem exN6 {p n m} : exN p 6 n m = (!p && decide (0 < arS n) && decide (m = arS n)) := rfl
theorem exN7 {p n m} : exN p 7 n m = (!p && namS n && decide (m = 1)) := rfl
theorem exN8 {p n m} : exN p 8 n m = (!p && n.isEmpty && decide (m = 3)) := rfl
theorem QrT (hT : MaxC C) : ∀ (v : ExV) {p : Bool} {x : Qa} {H : Heap} {K : Bool → Heap → Prop}, ExIs A v x → A.le H → K (exOk p v) H → QcK C x p K H := by
 refine ExV.rec_ fun v ih p x H K hx hA k => ?_
 have hx' := Qa6.1 hx
 obtain ⟨ek, en, hv, hB, hs⟩ := hx'
 have hlen := hs.len
 apply QcK.gh
 apply Qo0
 unfold QlZ
 rw [Qoo] at k
 refine box2 fun b1 b3 H4 hle h1 h3 => fL h1 rfl ?_
 have hA4 := hA.trans hle
 rw [hlen]
 have l0 : (((v.a.length : Nat) : Int) == 0) = decide (v.a.length = 0) := lenI (m := 0)
 rw [l0]
 by_cases hk1 : v.k = 1
 ·rw [if_pos hk1] at k
  refine ⟨fun _ _ => False, fI h1 rfl (QbT (by rw [ek, hk1]; rfl) (fI (j := 4) h1 rfl ?_)), fun _ _ h => h.elim⟩
  refine ja (decide (checkV v.v = 0)) H4 (fun h => fT h1 Quz (QkA (hv.le hA4) hB ⟨rfl, ?_⟩)) ?_
  ·rw [Bool.eq_iff_iff, beq_iff_eq, decide_eq_true_eq]
  refine ja v.n.isEmpty H4 (fun h => fS h1 rfl ⟨rfl, by rw [en.1, Qk3]⟩) ?_
  have e : ((((decide (x.Value_.Kind ≥ 1)) && (decide (x.Value_.Kind ≤ 4))) && decide (checkV v.v = 0)) && decide (v.a.length = 0) && v.n.isEmpty) = (litV v.v && decide (v.a.length = 0) && v.n.isEmpty) := by
   unfold litV mayV
   rw [(Qfq.1 hv).1]
  rw [e]; exact ⟨H, Gh.le hle, k⟩
 rw [if_neg hk1] at k
 refine jw (exN p v.k v.n v.a.length) H4 (fI h1 rfl ?_) fun E hE => ?_
 ·rw [ek]
  have r0 := Heap.le.refl H4
  refine ift.of (fun h => absurd (by simpa using h) hk1) fun _ => ?_
  refine ift.of (fun h => ?_) fun n2 => ?_
  ·rw [show v.k = 2 by simpa using h, exN2]
   exact fS h1 rfl (Qnm en ⟨r0, rfl⟩)
  refine ift.of (fun h => ?_) fun n3 => ?_
  ·rw [show v.k = 3 by simpa using h, exN3]
   exact fB0 h3 (ja v.n.isEmpty H4 (fun h => fS h1 rfl ⟨rfl, by rw [en.1, Qk3]⟩) ⟨r0, rfl⟩)
  refine ift.of (fun h => ?_) fun n4 => ?_
  ·rw [show v.k = 4 by simpa using h, exN4]
   refine fS h1 rfl ⟨r0, ?_⟩
   rw [en.1, Qk3, show (((v.a.length : Nat) : Int) != 1) = decide (v.a.length ≠ 1) from lenN (m := 1), show decide (((v.a.length : Nat) : Int) ≤ 16) = decide (v.a.length ≤ 16) from lenL (m := 16)]
  refine ift.of (fun h => ?_) fun n5 => ?_
  ·rw [show v.k = 5 by simpa using h, exN5]
   refine fS h1 rfl (QoE hT en ⟨r0, ?_⟩)
   rw [show decide (((v.a.length : Nat) : Int) ≤ 8) = decide (v.a.length ≤ 8) from lenL (m := 8)]
  refine ift.of (fun h => ?_) fun n6 => ?_
  ·rw [show v.k = 6 by simpa using h, exN6]
   refine ⟨H4, r0, fS h1 rfl (QsI fun b D l hD hM hl => ⟨hD, ?_⟩)⟩
   rw [en.1]
   have ha := (hl v.n).trans (QuG v.n)
   refine hM.lk (fun y hy => ⟨hD, fB0 (hD _ _ h3) ⟨hD, ?_⟩⟩) (fun hy => ⟨hD, fB0 (hD _ _ h3) ⟨hD, ?_⟩⟩)
   ·rw [hy] at ha
    by_cases h0 : arS v.n = 0
    ·rw [if_pos h0] at ha; cases ha
    ·rw [if_neg h0] at ha; injection ha with ha; subst ha
     rw [lenI]
     congr 1
     ·congr 1; rw [decide_eq_decide]; omega
     ·rw [decide_eq_decide]; exact eq_comm
   ·rw [hy] at ha
    by_cases h0 : arS v.n = 0
    ·rw [h0]; simp
    ·rw [if_neg h0] at ha; cases ha
  refine ift.of (fun h => ?_) fun n7 => ?_
  ·rw [show v.k = 7 by simpa using h, exN7]
   refine fB0 h3 (ja (namS v.n) H4 (fun h => fS h1 rfl (QfW hT en ⟨rfl, rfl⟩)) ⟨r0, ?_⟩)
   rw [show (((v.a.length : Nat) : Int) == 1) = decide (v.a.length = 1) from lenI (m := 1)]
  refine ift.of (fun h => ?_) fun n8 => ?_
  ·rw [show v.k = 8 by simpa using h, exN8]
   refine fB0 h3 (ja v.n.isEmpty H4 (fun h => fS h1 rfl ⟨rfl, by rw [en.1, Qk3]⟩) ⟨r0, ?_⟩)
   rw [show (((v.a.length : Nat) : Int) == 3) = decide (v.a.length = 3) from lenI (m := 3)]
  refine ⟨r0, ?_⟩
  unfold exN
  rw [if_neg (by simpa using n2), if_neg (by simpa using n3), if_neg (by simpa using n4), if_neg (by simpa using n5), if_neg (by simpa using n6), if_neg (by simpa using n7), if_neg (by simpa using n8)]
 have g1 := hE _ _ h1
 have g3 := hE _ _ h3
 have hAE := hA4.trans hE
 refine ja (noV v.v) E (fun _ => fT g1 Quz (QuC (hv.le hAE) ⟨rfl, rfl⟩)) ?_
 refine ja (v.a.all (exOk p)) E (fun _ => fL g1 rfl ?_) ?_
 ·refine QpR (hs.le hAE fun _ _ _ h => h) (Heap.le.refl E) (ok := exOk p) (fun w hw y D Φ hD hR hΦ => ⟨_, [], [pv (some (b3, 0))], rfl, QnR, ?_⟩) ⟨rfl, rfl⟩
  show QdU C y (b3, 0) Φ D
  apply QdU.gh
  apply QnD
  unfold Qkv
  exact box1 fun b4 H5 hle5 h5 => bxT h5 (fB0 (hle5 _ _ (hD _ _ g3)) (ih w hw hR (hAE.trans (hD.trans hle5)) ⟨D, Gh.le hle5, hΦ⟩))
 exact ⟨H, Gh.le (hle.trans hE), k⟩
end
end
end Sx
end
