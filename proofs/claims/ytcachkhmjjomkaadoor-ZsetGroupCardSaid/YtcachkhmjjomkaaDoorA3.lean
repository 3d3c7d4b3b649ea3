/-
  Texts of this family, one behind the other: Ev10, Ev10b, Ev11, Ev12, Ev13, Ev14.
-/
import Derived.Test.YtcachkhmjjomkaaDoorA2
noncomputable section
set_option linter.unusedVariables false
set_option linter.unusedSimpArgs false
namespace Sx
open Go
/-- what has not come up -/
structure Rem (N : Nat) (p : Nat → Prop) (rem : List Nat) (c : Nat) : Prop where
 len : rem.length = c
 nd : rem.Nodup
 mem : ∀ j, j ∈ rem ↔ j < N ∧ ¬ p j
theorem Rem.step {N c i : Nat} {p : Nat → Prop} {rem : List Nat} (h : Rem N p rem (c + 1)) (hi : i < N) (hp : ¬ p i) : Rem N (fun j => j = i ∨ p j) (rem.erase i) c := by
 have hm := (h.mem i).2 ⟨hi, hp⟩
 refine ⟨by rw [List.length_erase_of_mem hm, h.len]; rfl, h.nd.erase i, fun j => ?_⟩
 rw [h.nd.mem_erase_iff, h.mem j]
 constructor
 ·rintro ⟨h1, h2, h3⟩
  exact ⟨h2, fun hh => by
   rcases hh with hh | hh
   ·exact h1 hh
   ·exact h3 hh⟩
 ·rintro ⟨h1, h2⟩
  exact ⟨fun hh => h2 (.inl hh), h1, fun hh => h2 (.inr hh)⟩
theorem Rem.zero {N : Nat} {p : Nat → Prop} {rem : List Nat} (h : Rem N p rem 0) : ∀ j, j < N → p j := fun j hj => Classical.byContradiction fun hn => by
 have h1 := (h.mem j).2 ⟨hj, hn⟩
 rw [List.length_eq_zero_iff.1 h.len] at h1; cases h1
theorem Rem.pos {N c : Nat} {p : Nat → Prop} {rem : List Nat} (h : Rem N p rem c) {j : Nat} (hj : j < N) (hp : ¬ p j) : ∃ c', c = c' + 1 := by
 cases c with
 | zero => exact absurd (h.zero j hj) hp
 | succ c => exact ⟨c, rfl⟩
theorem least {q : Nat → Prop} {M : Nat} (h : ∃ r, r < M ∧ ¬ q r) : ∃ r, r < M ∧ ¬ q r ∧ ∀ r', r' < r → q r' := by
 obtain ⟨r, h1, h2⟩ := h
 induction r using Nat.strongRecOn with
 | _ r ih =>
  by_cases hq : ∃ r', r' < r ∧ ¬ q r'
  ·obtain ⟨r', g1, g2⟩ := hq
   exact ih r' g1 (by omega) g2
  ·exact ⟨r, h1, h2, fun r' hr' => Classical.byContradiction fun hn => hq ⟨r', hr', hn⟩⟩
theorem Ls.some_ready {ops : Array Oper} {L : Array Bool} {p : Nat → Prop} (h : Ls ops L p) (hdd : ∀ (j : Nat) (o : Oper), ops[j]? = some o → ∀ d ∈ dirs o, d < j) {c : Nat} {rem : List Nat} (hr : Rem ops.size p rem (c + 1)) : Region.ready .any ops L ≠ [] := by
 intro h0
 have hex : ∃ j, j < ops.size ∧ ¬ p j := by
  cases hrem : rem with
  | nil => have := hr.len; rw [hrem] at this; cases this
  | cons j l => exact ⟨j, (hr.mem j).1 (by rw [hrem]; exact List.mem_cons_self ..)⟩
 obtain ⟨j, h1, h2, h3⟩ := least hex
 have : j ∈ Region.ready .any ops L := h.ready.2 ⟨h2, ops[j], Array.getElem?_eq_getElem h1, fun d hd => by
  have := hdd j _ (Array.getElem?_eq_getElem h1) d hd
  exact ⟨by omega, h3 d this⟩⟩
 rw [h0] at this; cases this
section
variable {P : Program} {C : Ctx} {n : FN} {ro : Option Nat} {I : Ids} {self : Tk → AS → Option Rs} {ops : Array Oper} {T0 : PT AV} {vs : Vs} {Z : Nat → Prop}
theorem seg_run {s : Nat} {R : List Rc} {st : Nat → AS} {F : Heap} {e0 : Env} {Q : Exit → Act → World → Prop} (hB : Base ops n.n T0 vs) {AZ : AS} (hZ : ZOk P AZ ops T0 vs Z)
 (hS : SelfOk P C I self) (hG : Seg P I self ops s T0 vs Z R st) (hdum : ∀ r, r < R.length → Z (s + r) → (st (r + 1)).nx = (st r).nx)
 (hAZ : ∀ k o, AZ.at_ k = some o → k < (st 0).nx ∧ (st R.length).at_ k = some o)
 (hlate : ∀ i, s + R.length ≤ i → i < ops.size → ¬ Z i → ∀ r, r < R.length → ¬ Z (s + r) → Dep ops i (s + r))
 (cont : ∀ c L' p' a' w' e' H' rem', Inv C ops n s T0 vs Z R.length st F e0 L' p' a' w' e' H' → Rem ops.size p' rem' c → (∀ r, r < R.length → ¬ Z (s + r) → p' (s + r)) → wpAnyIn (FRo ro) 0 P .any ops Q c L' a' w') :
 ∀ (c : Nat) (L : Array Bool) (p : Nat → Prop) (a : Act) (w : World) (e : Env) (H : Heap) (rem : List Nat), Inv C ops n s T0 vs Z R.length st F e0 L p a w e H → Rem ops.size p rem c → wpAnyIn (FRo ro) 0 P .any ops Q c L a w := by
 intro c
 induction c with
 | zero =>
  intro L p a w e H rem hI hr
  refine cont 0 L p a w e H rem hI hr fun r h1 h2 => ?_
  rcases hG.rec_ r R[r] (List.getElem?_eq_getElem h1) with ⟨h | h, _⟩
  ·exact absurd h.1 h2
  ·obtain ⟨o, _, _, ho, _⟩ := h.op
   exact hr.zero _ (Array.getElem?_eq_some_iff.1 ho).1
 | succ c ih =>
  intro L p a w e H rem hI hr
  by_cases hcomp : ∀ r, r < R.length → ¬ Z (s + r) → p (s + r)
  ·exact cont _ L p a w e H rem hI hr hcomp
  ·have hex : ∃ r, r < R.length ∧ ¬ Z (s + r) ∧ ¬ p (s + r) := Classical.byContradiction fun hn => hcomp fun r h1 h2 => Classical.byContradiction fun h3 => hn ⟨r, h1, h2, h3⟩
   refine ⟨fun h0 => absurd h0 (hI.ls.some_ready hB.dd hr), fun i hi => ?_⟩
   obtain ⟨hnp, o, ho, hd⟩ := hI.ls.ready.1 hi
   have hsz := (Array.getElem?_eq_some_iff.1 ho).1
   by_cases hz : Z i
   ·exact hI.stepZ hB hZ hAZ hdum hz hi fun a' w' e' H' hI' => ih _ _ a' w' e' H' _ hI' (hr.step hsz hnp)
   ·have his : s ≤ i := by
     rcases Nat.lt_or_ge i s with hl | hl
     ·exact absurd (hI.low i hl hz) hnp
     ·exact hl
    have hiM : i < s + R.length := by
     rcases Nat.lt_or_ge i (s + R.length) with hl | hl
     ·exact hl
     ·obtain ⟨r, h1, h2, h3⟩ := hex
      exact absurd (ready_deps hI.cl ho (fun d hdm => (hd d hdm).2) (hlate i hl hsz hz r h1 h2)) h3
    obtain ⟨r, rfl⟩ : ∃ r, i = s + r := ⟨i - s, by omega⟩
    have hrl : r < R.length := by omega
    exact Inv.step hB hS hG hI (List.getElem?_eq_getElem hrl) hz hi fun a' w' e' H' hI' => ih _ _ a' w' e' H' _ hI' (hr.step hsz hnp)
/-- all but what looks at no memory has come up -/
theorem fin_run {s M : Nat} {st : Nat → AS} {F : Heap} {e0 : Env} {Q : Exit → Act → World → Prop} (hB : Base ops n.n T0 vs) {AZ : AS} (hZ : ZOk P AZ ops T0 vs Z) (hdum : ∀ r, r < M → Z (s + r) → (st (r + 1)).nx = (st r).nx) (hAZ : ∀ k o, AZ.at_ k = some o → k < (st 0).nx ∧ (st M).at_ k = some o)
 (hk : ∀ L p a w e H, Inv C ops n s T0 vs Z M st F e0 L p a w e H → (∀ j, j < ops.size → p j) → Q .normal a w) :
 ∀ (c : Nat) (L : Array Bool) (p : Nat → Prop) (a : Act) (w : World) (e : Env) (H : Heap) (rem : List Nat), Inv C ops n s T0 vs Z M st F e0 L p a w e H → Rem ops.size p rem c → (∀ j, j < ops.size → ¬ Z j → p j) → wpAnyIn (FRo ro) 0 P .any ops Q c L a w := by
 intro c
 induction c with
 | zero =>
  intro L p a w e H rem hI hr _
  refine ⟨?_, hk L p a w e H hI hr.zero⟩
  cases hrd : Region.ready .any ops L with
  | nil => rfl
  | cons i l =>
   obtain ⟨h1, o, h2, _⟩ := hI.ls.ready.1 (show i ∈ Region.ready .any ops L by rw [hrd]; exact List.mem_cons_self ..)
   exact absurd (hr.zero i (Array.getElem?_eq_some_iff.1 h2).1) h1
 | succ c ih =>
  intro L p a w e H rem hI hr hall
  refine ⟨fun h0 => absurd h0 (hI.ls.some_ready hB.dd hr), fun i hi => ?_⟩
  obtain ⟨hnp, o, ho, hd⟩ := hI.ls.ready.1 hi
  have hsz := (Array.getElem?_eq_some_iff.1 ho).1
  have hz : Z i := Classical.byContradiction fun hn => hnp (hall i hsz hn)
  exact hI.stepZ hB hZ hAZ hdum hz hi fun a' w' e' H' hI' => ih _ _ a' w' e' H' _ hI' (hr.step hsz hnp) fun j hj hn => .inr (hall j hj hn)
theorem inv_grow {s : Nat} {R : List Rc} {st : Nat → AS} {F : Heap} {L : Array Bool} {p : Nat → Prop} {a : Act} {w : World} {e : Env} {H : Heap}
 (hS : SelfOk P C I self) (hG : Seg P I self ops s T0 vs Z R st) (hdum : ∀ r, r < R.length → Z (s + r) → (st (r + 1)).nx = (st r).nx) (hfr : Free e (st 0).nx (st R.length).nx)
 (hI : Inv C ops n s T0 vs Z 0 (fun _ => st 0) F e L p a w e H) : Inv C ops n s T0 vs Z R.length st F e L p a w e H := by
 obtain ⟨m1, m2⟩ := hG.mono hS R.length 0 (by omega) (Nat.le_refl _)
 have hhid := hG.hid R.length (Nat.le_refl _)
 have back : ∀ k o, Live s st R.length p k → (st R.length).at_ k = some o → Live s (fun _ => st 0) 0 p k ∧ (st 0).at_ k = some o := fun k o hl hk => by
  rcases hl with hl | ⟨r, h1, h2, h3, h4⟩
  ·obtain ⟨k1, k2, k3⟩ := AS.at_lt hk
   exact ⟨.inl hl, AS.at_of hl (by rw [← hhid]; exact k2) (by rw [← m2 k hl]; exact k3)⟩
  ·have hz : Z (s + r) := Classical.byContradiction fun hn => hI.high (s + r) (by omega) hn h2
   have := hdum r h1 hz
   omega
 exact ⟨hI.st_, hI.fle, hI.ls, hI.low, fun j hj hn => hI.high j (by omega) hn, hI.cl, fun k o hl hk => hI.mem k o (back k o hl hk).1 (back k o hl hk).2,
  fun k k' o o' b c c' h1 h2 h3 h4 h5 h6 => hI.inj k k' o o' b c c' (back k o h1 h3).1 (back k' o' h2 h4).1 (back k o h1 h3).2 (back k' o' h2 h4).2 h5 h6,
  fun r hr _ k h1 h2 => hfr k (Nat.le_trans (hG.mono hS r 0 (by omega) (by omega)).1 h1) (Nat.lt_of_lt_of_le h2 (hG.mono hS R.length (r + 1) (by omega) (Nat.le_refl _)).1),
  fun _ _ => rfl, hI.size, hI.defers, hI.t0, hI.tr⟩
theorem inv_live {s : Nat} {st : Nat → AS} {M k : Nat} {p : Nat → Prop} (hall : ∀ r, r < M → ¬ Z (s + r) → p (s + r)) (hdum : ∀ r, r < M → Z (s + r) → (st (r + 1)).nx = (st r).nx) (h : k < (st M).nx) : Live s st M p k := by
 have find : ∀ q, q ≤ M → k < (st q).nx → k < (st 0).nx ∨ ∃ r', r' < q ∧ (st r').nx ≤ k ∧ k < (st (r' + 1)).nx := by
  intro q
  induction q with
  | zero => intro _ h; exact .inl h
  | succ q ih =>
   intro hq h
   by_cases hkq : k < (st q).nx
   ·rcases ih (by omega) hkq with h' | ⟨r', h1, h2⟩
    ·exact .inl h'
    ·exact .inr ⟨r', by omega, h2⟩
   ·exact .inr ⟨q, by omega, by omega, h⟩
 rcases find M (Nat.le_refl _) h with h' | ⟨r', h1, h2, h3⟩
 ·exact .inl h'
 ·refine .inr ⟨r', h1, hall r' h1 fun hz => ?_, h2, h3⟩
  have := hdum r' h1 hz
  omega
theorem inv_emb {s M : Nat} {st : Nat → AS} {F : Heap} {e0 : Env} {L : Array Bool} {p : Nat → Prop} {a : Act} {w : World} {e : Env} {H : Heap}
 (hI : Inv C ops n s T0 vs Z M st F e0 L p a w e H) (hall : ∀ r, r < M → ¬ Z (s + r) → p (s + r)) (hdum : ∀ r, r < M → Z (s + r) → (st (r + 1)).nx = (st r).nx) : Emb e F (st M) H :=
 ⟨hI.fle, fun k o hk => hI.mem k o (inv_live hall hdum (AS.at_lt hk).1) hk, fun k k' o o' b c c' h1 h2 h3 h4 => hI.inj k k' o o' b c c' (inv_live hall hdum (AS.at_lt h1).1) (inv_live hall hdum (AS.at_lt h2).1) h1 h2 h3 h4⟩
/-- an operation that may write what there was: all but what looks at no memory has come up ahead of it -/
theorem bar_run {s : Nat} {R : List Rc} {st : Nat → AS} {F : Heap} {e0 : Env} {Q : Exit → Act → World → Prop} {o : Oper} {Ti : PT AV} {v : AV} {A A1 : AS} (hB : Base ops n.n T0 vs) {AZ : AS} (hZ : ZOk P AZ ops T0 vs Z) (hS : SelfOk P C I self)
 (hAZ : ∀ k o, AZ.at_ k = some o → k < (st 0).nx ∧ (st R.length).at_ k = some o) (hdum : ∀ r, r < R.length → Z (s + r) → (st (r + 1)).nx = (st r).nx) (ho : ops[s + R.length]? = some o) (hnz : ¬ Z (s + R.length)) (hlate : ∀ i, s + R.length < i → i < ops.size → ¬ Z i → Dep ops i (s + R.length))
 (hv : ∀ d, o.dst = some d → vs (s + R.length) = some (some d, v)) (hT : Sees ops T0 vs (s + R.length) Ti) (hw : wantA ops.toList Ti o.guard = some true) (hst : opStep P I self Ti ⟨A.h, A.nx, A.hid, A.nx⟩ o = some (v, A1)) (hA : st R.length = A)
 (hzero : (st 0).nx ≤ A.nx) {lo : Nat}
 (hfree : ∀ e, EnvX e0 e (st 0).nx A.nx → Free e A.nx A1.nx)
 (next : ∀ c L p a w e H rem, EnvX e0 e (st 0).nx A1.nx → Inv C ops n (s + R.length + 1) T0 vs Z 0 (fun _ => ⟨A1.h, A1.nx, A.hid, lo⟩) F e L p a w e H → Rem ops.size p rem c → wpAnyIn (FRo ro) 0 P .any ops Q c L a w) :
 ∀ (c : Nat) (L : Array Bool) (p : Nat → Prop) (a : Act) (w : World) (e : Env) (H : Heap) (rem : List Nat), Inv C ops n s T0 vs Z R.length st F e0 L p a w e H → Rem ops.size p rem c → (∀ r, r < R.length → ¬ Z (s + r) → p (s + r)) → wpAnyIn (FRo ro) 0 P .any ops Q c L a w := by
 have hisz := (Array.getElem?_eq_some_iff.1 ho).1
 intro c
 induction c with
 | zero =>
  intro L p a w e H rem hI hr hall
  exact absurd (hr.zero _ hisz) (hI.high _ (Nat.le_refl _) hnz)
 | succ c ih =>
  intro L p a w e H rem hI hr hall
  refine ⟨fun h0 => absurd h0 (hI.ls.some_ready hB.dd hr), fun i hi => ?_⟩
  obtain ⟨hnp, o', ho', hd⟩ := hI.ls.ready.1 hi
  have hsz := (Array.getElem?_eq_some_iff.1 ho').1
  have hdep : ∀ k, Dep ops i k → p k := fun k hk => ready_deps hI.cl ho' (fun d hdm => (hd d hdm).2) hk
  by_cases hz : Z i
  ·exact hI.stepZ hB hZ hAZ hdum hz hi fun a' w' e' H' hI' => ih _ _ a' w' e' H' _ hI' (hr.step hsz hnp) fun r h1 h2 => .inr (hall r h1 h2)
  ·have hii : i = s + R.length := by
    rcases Nat.lt_trichotomy i (s + R.length) with hl | hl | hl
    ·rcases Nat.lt_or_ge i s with hs' | hs'
     ·exact absurd (hI.low i hs' hz) hnp
     ·have := hall (i - s) (by omega) (by rw [show s + (i - s) = i by omega]; exact hz)
      rw [show s + (i - s) = i by omega] at this
      exact absurd this hnp
    ·exact hl
    ·exact absurd (hdep _ (hlate i hl hsz hz)) (hI.high _ (Nat.le_refl _) hnz)
   subst hii
   rw [ho] at ho'; injection ho' with ho'; subst ho'
   have hem := inv_emb hI hall hdum
   rw [hA] at hem
   have henv := hI.env
   rw [hA] at henv
   have hfT := hI.sees hT hdep
   have hout := opStep_out hS hst
   have hout1 : A.nx ≤ A1.nx := hout.nx
   have hEi : Emb e F ⟨A.h, A.nx, A.hid, A.nx⟩ H := ⟨hem.fle, fun k o' hk => hem.at_ k o' hk, fun k k' o1 o2 b c c' h1 h2 => hem.inj k k' o1 o2 b c c' h1 h2⟩
   unfold wpOpIn
   rw [ho]
   dsimp only
   rw [wantA_ok hfT hw]
   simp only [if_true]
   refine (opStep_ok (n := n.n) hS hst ro e F H a w _ Q hEi hfT hI.st_ (hfree e henv) fun u e'' H'' w'' hx hdn hE'' hs'' => ?_)
   have hx : EnvX e e'' A.nx A1.nx := hx
   have hle := hx.le (hfree e henv)
   obtain ⟨f1, f2, f3, f4⟩ := hI.frame hB ho hv u e'' hle hdn
   have hhid : A1.hid = A.hid := hout.hid
   have at1 : ∀ k o', (⟨A1.h, A1.nx, A.hid, lo⟩ : AS).at_ k = some o' → A1.at_ k = some o' := fun k o' hk => by
    unfold AS.at_ at hk ⊢; rw [hhid]; exact hk
   refine next c _ _ _ w'' e'' H'' _ (henv.trans hx hzero hout1) ⟨hs'', hE''.fle, hI.ls.set hisz, fun j hj hn => ?_, fun j hj hn hh => ?_, fun j k hj hdj => ?_, fun k o' _ hk => hE''.at_ k o' (at1 k o' hk), fun k k' o1 o2 b c c' _ _ h1 h2 => hE''.inj k k' o1 o2 b c c' (at1 k o1 h1) (at1 k' o2 h2), fun r hr0 => by omega, fun _ _ => rfl, f1, f2, f3, f4⟩ (hr.step hsz hnp)
   ·by_cases hjj : j = s + R.length
    ·exact .inl hjj
    ·rcases Nat.lt_or_ge j s with hs' | hs'
     ·exact .inr (hI.low j hs' hn)
     ·have := hall (j - s) (by omega) (by rw [show s + (j - s) = j by omega]; exact hn)
      rw [show s + (j - s) = j by omega] at this
      exact .inr this
   ·rcases hh with hh | hh
    ·omega
    ·exact hI.high j (by omega) hn hh
   ·rcases hj with rfl | hj
    ·exact .inr (hdep k hdj)
    ·exact .inr (hI.cl j k hj hdj)
end
end Sx
end

noncomputable section
set_option linter.unusedVariables false
set_option linter.unusedSimpArgs false
namespace Sx
open Go
def MsOk (ops : Array Oper) (ms : List Nat) : Prop := ∀ (j m : Nat), ms[j]? = some m → ∀ k, m.testBit k = true → Dep ops j k
def Uni (ops : Array Oper) : Prop := ∀ (j j' : Nat) (o o' : Oper) (d : Nat), ops[j]? = some o → ops[j']? = some o' → o.dst = some d → o'.dst = some d → j = j'
def DI (ops : Array Oper) (q : Nat → Prop) (D : PT (Nat × AV)) : Prop := ∀ t j v, D.get t = some (j, v) → q j ∧ ∃ o, ops[j]? = some o ∧ o.dst = some t
def Grow (D D' : PT (Nat × AV)) : Prop := ∀ t x, D.get t = some x → D'.get t = some x
section
variable {P : Program} {C : Ctx} {n : FN} {ro : Option Nat} {I : Ids} {self : Tk → AS → Option Rs} {ops : Array Oper} {T0 : PT AV} {AZ : AS}
theorem mask_dep {ms : List Nat} {i k : Nat} {o : Oper} (ho : ops[i]? = some o) (hms : MsOk ops ms) (h : (maskOf ms (dirs o)).testBit k = true) : Dep ops i k := by
 obtain ⟨d, h1, h2⟩ := maskOf_bit h
 obtain ⟨e, e1, e2, e3⟩ := mem_dirs.1 h1
 rcases h2 with h2 | ⟨m, h2, h3⟩
 ·rw [h2, ← e3]; exact .dir ho e1 e2
 ·exact .trans ho e1 e2 (by rw [e3]; exact hms d m h2 k h3)
theorem ms_snoc {ms : List Nat} {i m : Nat} (hl : ms.length = i) (hms : MsOk ops ms) (hm : ∀ k, m.testBit k = true → Dep ops i k) : MsOk ops (ms ++ [m]) := by
 intro j m' h k hk
 by_cases hj : j < ms.length
 ·rw [List.getElem?_append_left hj] at h; exact hms j m' h k hk
 ·have hlt := (List.getElem?_eq_some_iff.1 h).1
  simp at hlt
  have : j = i := by omega
  subst this
  rw [List.getElem?_append_right (by omega), hl, Nat.sub_self] at h
  simp at h
  subst h
  exact hm k hk
theorem putD_ok {D D1 : PT (Nat × AV)} {i : Nat} {d : Option Tmp} {v : AV} (h : putD D i d v = some D1) : (∀ d', d = some d' → D1.get d' = some (i, v)) ∧ ∀ t x, D1.get t = some x → (d = some t ∧ x = (i, v)) ∨ D.get t = some x := by
 cases d with
 | none => simp only [putD, Option.some.injEq] at h; subst h; exact ⟨fun d' hd => (by cases hd), fun t x ht => .inr ht⟩
 | some d =>
  simp only [putD] at h
  have hg := PT.set_get _ _ _ _ _ h
  refine ⟨fun d' hd => ?_, fun t x ht => ?_⟩
  ·injection hd with hd; subst hd; rw [hg, if_pos rfl]
  ·rw [hg] at ht
   split at ht
   ·rename_i htd; subst htd; injection ht with ht; exact .inl ⟨rfl, ht.symm⟩
   ·exact .inr ht
theorem putD_grow {q q' : Nat → Prop} {D D1 : PT (Nat × AV)} {i : Nat} {o : Oper} {v : AV} (hu : Uni ops) (ho : ops[i]? = some o) (hD : DI ops q D) (hqi : ¬ q i) (hq : ∀ j, q j → q' j) (hi : q' i) (h : putD D i o.dst v = some D1) : Grow D D1 ∧ DI ops q' D1 := by
 obtain ⟨h1, h2⟩ := putD_ok h
 refine ⟨fun t x ht => ?_, fun t j v' ht => ?_⟩
 ·cases hod : o.dst with
  | none => rw [hod] at h; simp only [putD, Option.some.injEq] at h; subst h; exact ht
  | some d =>
   rw [hod] at h
   simp only [putD] at h
   rw [PT.set_get _ _ _ _ _ h]
   split
   ·rename_i htd
    subst htd
    obtain ⟨j, v'⟩ := x
    obtain ⟨g1, o', g2, g3⟩ := hD t j v' ht
    have := hu j i o' o t g2 ho g3 hod
    subst this
    exact absurd g1 hqi
   ·exact ht
 ·rcases h2 t _ ht with ⟨g1, g2⟩ | g
  ·injection g2 with g2 g3; subst g2
   exact ⟨hi, o, ho, g1⟩
  ·obtain ⟨g1, g2⟩ := hD t j v' g
   exact ⟨hq j g1, g2⟩
def ZFact (P : Program) (AZ : AS) (ops : Array Oper) (T0 : PT AV) (D : PT (Nat × AV)) (j : Nat) : Prop :=
 ∃ o Tz v, ops[j]? = some o ∧ (∀ d, o.dst = some d → D.get d = some (j, v)) ∧ (∀ t v', Tz.get t = some v' → (∃ j', D.get t = some (j', v') ∧ Dep ops j j') ∨ T0.get t = some v') ∧
  ((wantA ops.toList Tz o.guard = some false ∧ v = .und) ∨ (wantA ops.toList Tz o.guard = some true ∧ pureA P Tz AZ o.op = some v))
theorem ZFact.grow {D D' : PT (Nat × AV)} {j : Nat} (h : ZFact P AZ ops T0 D j) (hD : Grow D D') : ZFact P AZ ops T0 D' j := by
 obtain ⟨o, Tz, v, h1, h2, h4, h5⟩ := h
 refine ⟨o, Tz, v, h1, fun d hd => hD _ _ (h2 d hd), fun t v' ht => ?_, h5⟩
 rcases h4 t v' ht with ⟨j', q1, q2⟩ | q
 ·exact .inl ⟨j', hD _ _ q1, q2⟩
 ·exact .inr q
theorem lateA_ok {ol : List Oper} {Ti : PT AV} {o : Oper} {v : AV} (h : lateA P AZ ol Ti o = some v) : (wantA ol Ti o.guard = some false ∧ v = .und) ∨ (wantA ol Ti o.guard = some true ∧ pureA P Ti AZ o.op = some v) := by
 unfold lateA at h
 split at h
 ·cases h
 ·rename_i hw; injection h with h; exact .inl ⟨hw, h.symm⟩
 ·rename_i hw; exact .inr ⟨hw, by rw [← pureF_eq]; exact h⟩
theorem sees_of {D : PT (Nat × AV)} {m : Nat} {l : List Nat} {Ti : PT AV} {i : Nat} (h : opT T0 D m l .lf = some Ti) (hm : ∀ k, m.testBit k = true → Dep ops i k) : ∀ t v', Ti.get t = some v' → (∃ j', D.get t = some (j', v') ∧ Dep ops i j') ∨ T0.get t = some v' := by
 intro t v' ht
 rcases opT_get h t v' ht with ⟨j, q1, q2⟩ | q | q
 ·exact .inl ⟨j, q1, hm j q2⟩
 ·exact .inr q
 ·rw [PT.get_lf] at q; cases q
theorem mA_ok {n : Nat} : ∀ {rest : List Oper} {i : Nat} {ms ms' : List Nat}, mA ops.toList n rest i ms = some ms' →
 ops.toList.drop i = rest → ms.length = i → MsOk ops ms →
 MsOk ops ms' ∧ (∀ (j : Nat) (o : Oper), i ≤ j → ops[j]? = some o → (∀ d ∈ dirs o, d < j) ∧ ∀ d, o.dst = some d → d < n)
 | [], i, ms, ms', h, hd, hl, hms => by
  simp only [mA, Option.some.injEq] at h
  subst h
  have : ops.size ≤ i := by
   have := congrArg List.length hd
   simp at this; omega
  exact ⟨hms, fun j o h1 h2 => by have := (Array.getElem?_eq_some_iff.1 h2).1; omega⟩
 | o :: rest, i, ms, ms', h, hd, hl, hms => by
  have ho : ops[i]? = some o := by
   have : (ops.toList.drop i)[0]? = some o := by rw [hd]; rfl
   rw [List.getElem?_drop] at this
   simpa using this
  have hd' : ops.toList.drop (i + 1) = rest := by
   rw [← List.tail_drop, hd]; rfl
  simp only [mA] at h
  cases hb : (dirs o).all (fun d => Nat.blt d i) && dok n o with
  | false => rw [hb] at h; cases h
  | true =>
   rw [hb] at h
   simp only [Bool.and_eq_true, List.all_eq_true] at hb
   simp only [cond_true] at h
   obtain ⟨g1, g2⟩ := mA_ok h hd' (by simp [hl]) (ms_snoc hl hms fun k hk => mask_dep ho hms hk)
   refine ⟨g1, fun j o' h1 h2 => ?_⟩
   by_cases hji : j = i
   ·subst hji
    rw [ho] at h2; injection h2 with h2; subst h2
    refine ⟨fun d hdm => blt_t (hb.1 d hdm), fun d hdd => ?_⟩
    have := hb.2
    unfold dok at this
    rw [hdd] at this; exact blt_t this
   ·exact g2 j o' (by omega) h2
theorem drA_out (hS : SelfOk P C I self) {ol : List Oper} {ms : List Nat} : ∀ {rest : List Oper} {i s zm : Nat} {D : PT (Nat × AV)} {A : AS} {R : List Rc} {zf : Nat} {D' : PT (Nat × AV)} {A' : AS}, drA P (opStep P I self) AZ ol ms T0 rest i s zm D A R = some (zf, D', A') → Out A A'
 | [], i, s, zm, D, A, R, zf, D', A', h => by
  simp only [drA, Option.some.injEq, Prod.mk.injEq] at h
  rw [h.2.2]; exact Out.refl _
 | o :: rest, i, s, zm, D, A, R, zf, D', A', h => by
  simp only [drA] at h
  split at h
  ·cases h
  ·rename_i Ti _
   split at h
   ·split at h <;> try (cases h; done)
    exact drA_out hS h
   ·cases hm : Nat.beq ((((nth ms i).getD 0) ||| zm) % 2 ^ s) (2 ^ s - 1) with
    | false => rw [hm] at h; cases h
    | true =>
     rw [hm] at h
     simp only [cond_true] at h
     split at h
     ·split at h
      ·cases h
      ·rename_i v A1 hst
       have ho := opStep_out hS hst
       split at h
       ·cases h
       ·cases hlo : Nat.ble A.nx A1.lo with
        | true =>
         rw [hlo] at h
         simp only [cond_true] at h
         have hlo := ble_t hlo
         refine Out.trans (B := ⟨A1.h, A1.nx, A.hid, A.lo⟩) ⟨ho.nx, rfl, Nat.le_refl _, fun k hk hn => ?_⟩ (drA_out hS h)
         dsimp only at hk
         exact ho.same k (by omega) hn
        | false =>
         rw [hlo] at h
         simp only [cond_false] at h
         cases hmi : Nat.beq ((((nth ms i).getD 0) ||| zm) % 2 ^ i) (2 ^ i - 1) && keepZ AZ Ti o A A1 with
         | false => rw [hmi] at h; cases h
         | true =>
          rw [hmi] at h
          simp only [cond_true] at h
          refine Out.trans (B := ⟨A1.h, A1.nx, A.hid, bif Nat.blt A1.lo A.lo then A1.lo else A.lo⟩) ⟨ho.nx, rfl, ?_, fun k hk hn => ?_⟩ (drA_out hS h)
          ·dsimp only
           cases hq : Nat.blt A1.lo A.lo with
           | true => have := blt_t hq; simp only [cond_true]; omega
           | false => exact Nat.le_refl _
          ·refine ho.same k ?_ hn
           dsimp only at hk
           cases hq : Nat.blt A1.lo A.lo with
           | true => rw [hq] at hk; simpa using hk
           | false => rw [hq] at hk; have := blt_f hq; simp only [cond_false] at hk; omega
     ·cases h
theorem bits2_of {m zm i j : Nat} (h : Nat.beq ((m ||| zm) % 2 ^ i) (2 ^ i - 1) = true) (hj : j < i) (hz : ¬ zm.testBit j = true) : m.testBit j = true := by
 have := bits_of h hj
 rw [Nat.testBit_or, Bool.or_eq_true] at this
 exact this.resolve_right hz
theorem bit_or {zm i j : Nat} : (zm ||| 2 ^ i).testBit j = true ↔ zm.testBit j = true ∨ j = i := by
 rw [Nat.testBit_or, Bool.or_eq_true, Nat.testBit_two_pow, decide_eq_true_eq]
 exact ⟨fun h => h.imp id Eq.symm, fun h => h.imp id Eq.symm⟩
structure Later (P : Program) (AZ : AS) (ops : Array Oper) (T0 : PT AV) (i s zm zf : Nat) (D D' : PT (Nat × AV)) : Prop where
 bits : ∀ j, j < i → zf.testBit j = zm.testBit j
 dep : ∀ i', i ≤ i' → i' < ops.size → ¬ zf.testBit i' = true → ∀ k, k < s → ¬ zf.testBit k = true → Dep ops i' k
 grow : Grow D D'
 di : DI ops (fun j => j < ops.size) D'
 z : ∀ j, i ≤ j → zf.testBit j = true → ZFact P AZ ops T0 D' j
theorem drA_later {step : PT AV → AS → Oper → Option (AV × AS)} {ms : List Nat} (hms : MsOk ops ms) (hu : Uni ops) : ∀ {rest : List Oper} {i s zm : Nat} {D : PT (Nat × AV)} {A : AS} {R : List Rc} {zf : Nat} {D' : PT (Nat × AV)} {A' : AS}, drA P step AZ ops.toList ms T0 rest i s zm D A R = some (zf, D', A') →
 ops.toList.drop i = rest → s ≤ i → (∀ j, zm.testBit j = true → j < i) → DI ops (fun j => j < i) D → Later P AZ ops T0 i s zm zf D D'
 | [], i, s, zm, D, A, R, zf, D', A', h, hd, hs, hz, hD => by
  simp only [drA, Option.some.injEq, Prod.mk.injEq] at h
  obtain ⟨rfl, rfl, rfl⟩ := h
  have : ops.size ≤ i := by
   have := congrArg List.length hd
   simp at this; omega
  refine ⟨fun _ _ => rfl, fun i' h1 h2 => by omega, fun _ _ h => h, fun t j v ht => ?_, fun j h1 h2 => by have := hz j h2; omega⟩
  obtain ⟨_, o, g2, g3⟩ := hD t j v ht
  exact ⟨(Array.getElem?_eq_some_iff.1 g2).1, o, g2, g3⟩
 | o :: rest, i, s, zm, D, A, R, zf, D', A', h, hd, hs, hz, hD => by
  have ho : ops[i]? = some o := by
   have : (ops.toList.drop i)[0]? = some o := by rw [hd]; rfl
   rw [List.getElem?_drop] at this
   simpa using this
  have hd' : ops.toList.drop (i + 1) = rest := by
   rw [← List.tail_drop, hd]; rfl
  simp only [drA] at h
  have hmask : ∀ k, ((nth ms i).getD 0).testBit k = true → Dep ops i k := fun k hk => by
   rw [nth_some] at hk
   cases hm : ms[i]? with
   | none => rw [hm] at hk; simp at hk
   | some m => rw [hm] at hk; exact hms i m hm k hk
  generalize (nth ms i).getD 0 = m at *
  have grow1 : ∀ {v : AV} {D1 : PT (Nat × AV)}, putD D i o.dst v = some D1 → Grow D D1 ∧ DI ops (fun j => j < i + 1) D1 := fun {v D1} hp =>
   putD_grow hu ho hD (fun hq => by omega) (fun j hj => by omega) (by omega) hp
  split at h
  ·cases h
  ·rename_i Ti hTi
   split at h
   ·rename_i v hv
    split at h <;> try (cases h; done)
    rename_i D1 h1
    obtain ⟨p1, p2⟩ := grow1 h1
    have L := drA_later hms hu h hd' (by omega) (fun j hj => by
     rcases bit_or.1 hj with hj | hj
     ·have := hz j hj; omega
     ·omega) p2
    have hzi : zf.testBit i = true := by rw [L.bits i (by omega)]; exact bit_or.2 (.inr rfl)
    refine ⟨fun j hj => ?_, fun i' g1 g2 g3 => ?_, fun t x ht => L.grow _ _ (p1 _ _ ht), L.di, fun j g1 g2 => ?_⟩
    ·rw [L.bits j (by omega), Nat.testBit_or, Nat.testBit_two_pow]
     have : decide (i = j) = false := decide_eq_false (by omega)
     rw [this, Bool.or_false]
    ·by_cases hii : i' = i
     ·subst hii; exact absurd hzi g3
     ·exact L.dep i' (by omega) g2 g3
    ·by_cases hji : j = i
     ·subst hji
      refine ⟨o, Ti, v, ho, fun d hdd => L.grow _ _ ((putD_ok h1).1 d hdd), fun t v' ht => ?_, lateA_ok hv⟩
      rcases sees_of hTi hmask t v' ht with ⟨j', q1, q2⟩ | q
      ·exact .inl ⟨j', L.grow _ _ (p1 _ _ q1), q2⟩
      ·exact .inr q
     ·exact L.z j (by omega) g2
   ·cases hm : Nat.beq ((m ||| zm) % 2 ^ s) (2 ^ s - 1) with
    | false => rw [hm] at h; cases h
    | true =>
     rw [hm] at h
     simp only [cond_true] at h
     have hz' : ∀ j, zm.testBit j = true → j < i + 1 := fun j hj => by have := hz j hj; omega
     have hzi : zm.testBit i = false := by
      cases hq : zm.testBit i with
      | false => rfl
      | true => have := hz i hq; omega
     have fin : ∀ {D1 : PT (Nat × AV)} {s' : Nat} {v : AV}, s ≤ s' → putD D i o.dst v = some D1 → (DI ops (fun j => j < i + 1) D1 → Later P AZ ops T0 (i + 1) s' zm zf D1 D') → Later P AZ ops T0 i s zm zf D D' := fun {D1 s' v} hss hp hkk => by
      obtain ⟨p1, p2⟩ := grow1 hp
      have L := hkk p2
      refine ⟨fun j hj => L.bits j (by omega), fun i' h1 h2 h3 k hk hkz => ?_, fun t x ht => L.grow _ _ (p1 _ _ ht), L.di, fun j g1 g2 => ?_⟩
      ·by_cases hii : i' = i
       ·subst hii
        refine hmask k (bits2_of hm hk ?_)
        rw [← L.bits k (by omega)]; exact hkz
       ·exact L.dep i' (by omega) h2 h3 k (by omega) hkz
      ·by_cases hji : j = i
       ·subst hji
        rw [L.bits j (by omega), hzi] at g2; cases g2
       ·exact L.z j (by omega) g2
     split at h
     ·split at h
      ·cases h
      ·rename_i v A1 _
       split at h
       ·cases h
       ·rename_i D1 h1
        cases hlo : Nat.ble A.nx A1.lo with
        | true =>
         rw [hlo] at h
         exact fin (Nat.le_refl _) h1 fun hD1 => drA_later hms hu h hd' (by omega) hz' hD1
        | false =>
         rw [hlo] at h
         simp only [cond_false] at h
         cases hmi : Nat.beq ((m ||| zm) % 2 ^ i) (2 ^ i - 1) && keepZ AZ Ti o A A1 with
         | false => rw [hmi] at h; cases h
         | true =>
          rw [hmi] at h
          exact fin (by omega) h1 fun hD1 => drA_later hms hu h hd' (Nat.le_refl _) hz' hD1
     ·cases h
theorem seg_snoc {s : Nat} {vs : Vs} {Z : Nat → Prop} {R : List Rc} {st : Nat → AS} {A A1 A2 : AS} {m : Nat} (hG : Seg P I self ops s T0 vs Z R st) (hA : st R.length = A) (e1 : A2.h = A1.h) (e2 : A2.nx = A1.nx) (e3 : A2.hid = A.hid)
 (hc : (Z (s + R.length) ∧ A1 = A) ∨ RcOk P I self ops s T0 vs R R.length ⟨A, A1, m⟩) : Seg P I self ops s T0 vs Z (R ++ [⟨A, A1, m⟩]) (fun r => if r ≤ R.length then st r else A2) := by
 have hh0 := hG.hid R.length (Nat.le_refl _)
 rw [hA] at hh0
 refine ⟨fun r ρ hr => ?_⟩
 by_cases hrl : r < R.length
 ·rw [List.getElem?_append_left hrl] at hr
  obtain ⟨g1, g2, g3, g4, g5⟩ := hG.rec_ r ρ hr
  have htk : (R ++ [(⟨A, A1, m⟩ : Rc)]).take r = R.take r := by rw [List.take_append_of_le_length (by omega)]
  refine ⟨?_, ?_, ?_, ?_, ?_⟩
  ·rcases g1 with g1 | g1
   ·exact .inl g1
   ·obtain ⟨o', T'', v, q1, q2, q3, q6⟩ := g1.op
    exact .inr ⟨⟨o', T'', v, q1, q2, q3, by rw [htk]; exact q6⟩, g1.mask⟩
  ·rw [if_pos (by omega)]; exact g2
  ·rw [if_pos (by omega)]; exact g3
  ·rw [if_pos (by omega)]; exact g4
  ·rw [if_pos (by omega), if_pos (by omega)]; exact g5
 ·have hr' := (List.getElem?_eq_some_iff.1 hr).1
  simp at hr'
  have : r = R.length := by omega
  subst this
  rw [List.getElem?_append_right (by omega), Nat.sub_self] at hr
  simp at hr
  subst hr
  have htk : (R ++ [(⟨A, A1, m⟩ : Rc)]).take R.length = R := by rw [List.take_append_of_le_length (Nat.le_refl _), List.take_length]
  refine ⟨?_, ?_, ?_, ?_, ?_⟩
  ·rcases hc with hc | hc
   ·exact .inl hc
   ·obtain ⟨o', T'', v, q1, q2, q3, q6⟩ := hc.op
    refine .inr ⟨⟨o', T'', v, q1, q2, q3, ?_⟩, hc.mask⟩
    rw [htk]
    rwa [List.take_length] at q6
  ·rw [if_pos (Nat.le_refl _)]; exact hA.symm
  ·rw [if_neg (by omega)]; exact e1
  ·rw [if_neg (by omega)]; exact e2
  ·rw [if_neg (by omega), if_pos (by omega)]; rw [e3, hh0]
/-- what an operation leaves, told by what the evaluator wrote down -/
def vsOf (ops : Array Oper) (D : PT (Nat × AV)) : Vs := fun j => match ops[j]? with
 | some o => (match o.dst with
  | some d => (match D.get d with
   | some (j', v) => if j' = j then some (some d, v) else none
   | none => none)
  | none => none)
 | none => none
theorem vsOf_of {D : PT (Nat × AV)} {j d : Nat} {o : Oper} {v : AV} (ho : ops[j]? = some o) (hd : o.dst = some d) (h : D.get d = some (j, v)) : vsOf ops D j = some (some d, v) := by
 unfold vsOf; simp [ho, hd, h]
theorem vsOf_inv {D : PT (Nat × AV)} {j : Nat} {d : Option Tmp} {v : AV} (h : vsOf ops D j = some (d, v)) : ∃ o d', ops[j]? = some o ∧ o.dst = d ∧ d = some d' ∧ D.get d' = some (j, v) := by
 unfold vsOf at h
 split at h <;> try (cases h; done)
 rename_i o ho
 split at h <;> try (cases h; done)
 rename_i d' hd
 split at h <;> try (cases h; done)
 rename_i j' v' hg
 split at h <;> try (cases h; done)
 rename_i hj
 subst hj
 injection h with h; injection h with h1 h2; subst h1; subst h2
 exact ⟨o, d', ho, hd, rfl, hg⟩
theorem az_up {s : Nat} {vs : Vs} {Z : Nat → Prop} {R : List Rc} {st : Nat → AS} (hS : SelfOk P C I self) (hG : Seg P I self ops s T0 vs Z R st) (hAZ : ∀ k o, AZ.at_ k = some o → (st 0).at_ k = some o) : ∀ k o, AZ.at_ k = some o → k < (st 0).nx ∧ (st R.length).at_ k = some o := fun k o hk => by
 obtain ⟨q1, q2, q3⟩ := AS.at_lt (hAZ k o hk)
 obtain ⟨m1, m2⟩ := hG.mono hS R.length 0 (by omega) (Nat.le_refl _)
 exact ⟨q1, AS.at_of (Nat.lt_of_lt_of_le q1 m1) (by rw [hG.hid R.length (Nat.le_refl _)]; exact q2) (by rw [m2 k q1]; exact q3)⟩
theorem drA_ok {ms : List Nat} {zf : Nat} {Df : PT (Nat × AV)} (hms : MsOk ops ms) (hB : Base ops n.n T0 (vsOf ops Df)) (hZ : ZOk P AZ ops T0 (vsOf ops Df) (fun j => zf.testBit j = true)) (hS : SelfOk P C I self) :
 ∀ {rest : List Oper} {i s zm : Nat} {D : PT (Nat × AV)} {A : AS} {R : List Rc} {A' : AS} {st : Nat → AS}, drA P (opStep P I self) AZ ops.toList ms T0 rest i s zm D A R = some (zf, Df, A') →
 ops.toList.drop i = rest → i ≤ ops.size → s + R.length = i → (∀ j, zm.testBit j = true → j < i) → DI ops (fun j => j < i) D → Seg P I self ops s T0 (vsOf ops Df) (fun j => zf.testBit j = true) R st → (∀ r, r < R.length → zf.testBit (s + r) = true → (st (r + 1)).nx = (st r).nx) → st R.length = A → (∀ k o, AZ.at_ k = some o → (st 0).at_ k = some o) →
 ∀ F (Q : Exit → Act → World → Prop) c L p a w e H rem, Inv C ops n s T0 (vsOf ops Df) (fun j => zf.testBit j = true) 0 (fun _ => st 0) F e L p a w e H → Rem ops.size p rem c → Free e (st 0).nx A'.nx →
  (∀ a' w' e' H', EnvX e e' (st 0).nx A'.nx → a'.tmps.size = n.n → a'.defers = n.ds → (∀ t v, T0.get t = some v → ∃ u, a'.tmps[t]? = some u ∧ Dn e' v u) → (∀ j d v, vsOf ops Df j = some (some d, v) → ∃ u, a'.tmps[d]? = some u ∧ Dn e' v u) → Emb e' F A' H' → St C w' H' → Q .normal a' w') →
  wpAnyIn (FRo ro) 0 P .any ops Q c L a w
 | [], i, s, zm, D, A, R, A', st, h, hd, hile, hsi, hzm, hD, hG, hdum, hA, hAZ, F, Q, c, L, p, a, w, e, H, rem, hI, hr, hfr, hk => by
  have hsz : ops.size ≤ i := by
   have := congrArg List.length hd
   simp at this; omega
  simp only [drA, Option.some.injEq, Prod.mk.injEq] at h
  obtain ⟨_, h1, h2⟩ := h
  subst h2
  have hI2 := inv_grow hS hG hdum (by rw [hA]; exact hfr) hI
  have hAZ' := az_up hS hG hAZ
  refine seg_run hB hZ hS hG hdum hAZ' (fun i' h1 h2 => by omega) (fun c' L' p' a' w' e' H' rem' hI' hr' hall => ?_) c L p a w e H rem hI2 hr
  refine fin_run hB hZ hdum hAZ' (fun L2 p2 a2 w2 e2 H2 hI2 hall2 => ?_) c' L' p' a' w' e' H' rem' hI' hr' fun j hj hn => ?_
  ·have hem := inv_emb hI2 (fun r h1 _ => hall2 _ (by omega)) hdum
   rw [hA] at hem
   have henv := hI2.env
   rw [hA] at henv
   refine hk a2 w2 e2 H2 henv hI2.size hI2.defers hI2.t0 (fun j d v hv => hI2.tr j d v hv ?_) hem hI2.st_
   obtain ⟨o, _, q1, _⟩ := vsOf_inv hv
   exact hall2 j (Array.getElem?_eq_some_iff.1 q1).1
  ·rcases Nat.lt_or_ge j s with hl | hl
   ·exact hI'.low j hl hn
   ·have := hall (j - s) (by omega) (by rw [show s + (j - s) = j by omega]; exact hn)
    rwa [show s + (j - s) = j by omega] at this
 | o :: rest, i, s, zm, D, A, R, A', st, h, hd, hile, hsi, hzm, hD, hG, hdum, hA, hAZ, F, Q, c, L, p, a, w, e, H, rem, hI, hr, hfr, hk => by
  have ho : ops[i]? = some o := by
   have : (ops.toList.drop i)[0]? = some o := by rw [hd]; rfl
   rw [List.getElem?_drop] at this
   simpa using this
  have hisz := (Array.getElem?_eq_some_iff.1 ho).1
  have hd' : ops.toList.drop (i + 1) = rest := by
   rw [← List.tail_drop, hd]; rfl
  simp only [drA] at h
  have h0 : ∀ A2 : AS, (if 0 ≤ R.length then st 0 else A2) = st 0 := fun A2 => by simp
  have hdum' : ∀ (A1 A2 : AS) (m : Nat), (zf.testBit i = true → A2.nx = A.nx) → ∀ r, r < (R ++ [(⟨A, A1, m⟩ : Rc)]).length → zf.testBit (s + r) = true → (if r + 1 ≤ R.length then st (r + 1) else A2).nx = (if r ≤ R.length then st r else A2).nx := fun A1 A2 m hzz r hr hz => by
   simp at hr
   by_cases hrl : r < R.length
   ·rw [if_pos (by omega), if_pos (by omega)]; exact hdum r hrl hz
   ·have : r = R.length := by omega
    subst this
    rw [if_neg (by omega), if_pos (by omega), hA]
    exact hzz (by rw [← hsi]; exact hz)
  have hmask : ∀ k, ((nth ms i).getD 0).testBit k = true → Dep ops i k := fun k hk => by
   rw [nth_some] at hk
   cases hm : ms[i]? with
   | none => rw [hm] at hk; simp at hk
   | some m => rw [hm] at hk; exact hms i m hm k hk
  generalize (nth ms i).getD 0 = m at *
  have hDI1 : ∀ {v : AV} {D1 : PT (Nat × AV)}, putD D i o.dst v = some D1 → Grow D D1 ∧ DI ops (fun j => j < i + 1) D1 := fun {v D1} hp => putD_grow hB.uni ho hD (fun hq => by omega) (fun j hj => by omega) (by omega) hp
  split at h
  ·cases h
  ·rename_i Ti hTi
   have see : Grow D Df → Sees ops T0 (vsOf ops Df) i Ti := fun hg t v ht => by
    rcases sees_of hTi hmask t v ht with ⟨j', q1, q2⟩ | q
    ·obtain ⟨_, o', p1, p2⟩ := hD t j' v q1
     exact .inl ⟨j', vsOf_of p1 p2 (hg _ _ q1), q2⟩
    ·exact .inr q
   have left : ∀ {v : AV} {D1 : PT (Nat × AV)}, putD D i o.dst v = some D1 → Grow D1 Df → ∀ d, o.dst = some d → vsOf ops Df i = some (some d, v) := fun {v D1} hp hg d hdd => vsOf_of ho hdd (hg _ _ ((putD_ok hp).1 d hdd))
   split at h
   ·rename_i v hv
    split at h <;> try (cases h; done)
    rename_i D1 h1
    obtain ⟨p1, p2⟩ := hDI1 h1
    have hzm' : ∀ j, (zm ||| 2 ^ i).testBit j = true → j < i + 1 := fun j hj => by
     rcases bit_or.1 hj with hj | hj
     ·have := hzm j hj; omega
     ·omega
    have Lt := drA_later hms hB.uni h hd' (by omega) hzm' p2
    have hz : zf.testBit i = true := by rw [Lt.bits i (by omega)]; exact bit_or.2 (.inr rfl)
    refine drA_ok hms hB hZ hS (st := fun r => if r ≤ R.length then st r else A) h hd' (by omega) (by simp; omega) hzm' p2 (seg_snoc hG hA rfl rfl rfl (.inl ⟨by rw [hsi]; exact hz, rfl⟩)) (hdum' A A 0 fun _ => rfl) (by rw [if_neg (by simp)]) (by rw [h0]; exact hAZ) F Q c L p a w e H rem (by rw [h0]; exact hI) hr (by rw [h0]; exact hfr) (by rw [h0]; exact hk)
   ·cases hm : Nat.beq ((m ||| zm) % 2 ^ s) (2 ^ s - 1) with
    | false => rw [hm] at h; cases h
    | true =>
     rw [hm] at h
     simp only [cond_true] at h
     have hzm' : ∀ j, zm.testBit j = true → j < i + 1 := fun j hj => by have := hzm j hj; omega
     have hzi : zm.testBit i = false := by
      cases hq : zm.testBit i with
      | false => rfl
      | true => have := hzm i hq; omega
     split at h
     ·rename_i hw
      split at h
      ·cases h
      ·rename_i v A1 hst
       split at h
       ·cases h
       ·rename_i D1 h1
        obtain ⟨p1, p2⟩ := hDI1 h1
        cases hlo : Nat.ble A.nx A1.lo with
        | true =>
         rw [hlo] at h
         simp only [cond_true] at h
         have hlo := ble_t hlo
         have Lt := drA_later hms hB.uni h hd' (by omega) hzm' p2
         have hz : zf.testBit i = false := by rw [Lt.bits i (by omega)]; exact hzi
         have hrc : RcOk P I self ops s T0 (vsOf ops Df) R R.length ⟨A, A1, m⟩ := ⟨⟨o, Ti, v, by rw [hsi]; exact ho, by rw [hsi]; exact left h1 Lt.grow, by rw [hsi]; exact see fun t x ht => Lt.grow _ _ (p1 _ _ ht), .inr ⟨hw, by rw [List.take_length]; exact hst, hlo⟩⟩, by rw [hsi]; exact hmask⟩
         refine drA_ok hms hB hZ hS (st := fun r => if r ≤ R.length then st r else ⟨A1.h, A1.nx, A.hid, A.lo⟩) h hd' (by omega) (by simp; omega) hzm' p2 (seg_snoc hG hA rfl rfl rfl (.inr hrc)) (hdum' A1 _ m fun hzz => by rw [hz] at hzz; cases hzz) (by rw [if_neg (by simp)]) (by rw [h0]; exact hAZ) F Q c L p a w e H rem (by rw [h0]; exact hI) hr (by rw [h0]; exact hfr) (by rw [h0]; exact hk)
        | false =>
         rw [hlo] at h
         simp only [cond_false] at h
         cases hmi0 : Nat.beq ((m ||| zm) % 2 ^ i) (2 ^ i - 1) && keepZ AZ Ti o A A1 with
         | false => rw [hmi0] at h; cases h
         | true =>
          rw [hmi0] at h
          simp only [Bool.and_eq_true] at hmi0
          have hmi := hmi0.1
          have hzl := hmi0.2
          simp only [cond_true] at h
          have hout := opStep_out hS hst
          have hoz := drA_out hS h
          have hoz1 : A1.nx ≤ A'.nx := hoz.nx
          have hout1 : A.nx ≤ A1.nx := hout.nx
          obtain ⟨mm1, mm2⟩ := hG.mono hS R.length 0 (by omega) (Nat.le_refl _)
          rw [hA] at mm1
          have Lt := drA_later hms hB.uni h hd' (Nat.le_refl _) hzm' p2
          have hz : zf.testBit i = false := by rw [Lt.bits i (by omega)]; exact hzi
          have hbits : ∀ k, k < i → ¬ zf.testBit k = true → Dep ops i k := fun k hk hkz => hmask k (bits2_of hmi hk (by rw [← Lt.bits k (by omega)]; exact hkz))
          have hnz : ¬ zf.testBit i = true := by rw [hz]; exact Bool.false_ne_true
          have hI2 := inv_grow hS hG hdum (by rw [hA]; exact hfr.left (by omega)) hI
          have hnil : hidOf m s R = [] := by
           cases hh : hidOf m s R with
           | nil => rfl
           | cons q l =>
            obtain ⟨r, ρ, z1, z2, z3⟩ := mem_hidOf (show q ∈ hidOf m s R by rw [hh]; exact List.mem_cons_self ..)
            have hrl := (List.getElem?_eq_some_iff.1 z1).1
            by_cases hzr : zf.testBit (s + r) = true
            ·obtain ⟨y0, y1, y2, y3, _⟩ := hG.rec_ r ρ z1
             have := hdum r hrl hzr
             have hh2 := hidOf_mem_lt (m := m) (s := s) (R := R) (q := q) (by rw [hh]; exact List.mem_cons_self ..)
             rw [z3] at hh2
             dsimp only at hh2
             rw [y1, ← y3] at hh2
             omega
            ·have := bits2_of hmi (show s + r < i by omega) (by rw [← Lt.bits _ (by omega)]; exact hzr)
             rw [z2] at this; cases this
          rw [hnil, List.append_nil] at hst hout
          have hAZ' := az_up hS hG hAZ
          refine seg_run hB hZ hS hG hdum hAZ' (fun i' h1 h2 h3 r hr hrz => ?_) (bar_run (lo := bif Nat.blt A1.lo A.lo then A1.lo else A.lo) hB hZ hS hAZ' hdum (by rw [hsi]; exact ho) (by rw [hsi]; exact hnz) (fun i' h1 h2 h3 => ?_) (by rw [hsi]; exact left h1 Lt.grow) (by rw [hsi]; exact see fun t x ht => Lt.grow _ _ (p1 _ _ ht)) hw hst hA mm1 (fun e' he' => (hfr.right he' mm1).left hoz1) fun c2 L2 p' a2 w2 e2 H2 rem2 he2 hI3 hr3 => ?_) c L p a w e H rem hI2 hr
          ·by_cases hii : i' = i
           ·subst hii; exact hbits _ (by omega) hrz
           ·exact Lt.dep i' (by omega) h2 h3 _ (by omega) hrz
          ·rw [hsi] at h1 ⊢
           exact Lt.dep i' (by omega) h2 h3 i (by omega) hnz
          ·rw [hsi] at hI3
           refine drA_ok hms hB hZ hS (st := fun _ => ⟨A1.h, A1.nx, A.hid, bif Nat.blt A1.lo A.lo then A1.lo else A.lo⟩) h hd' (by omega) (by simp) hzm' p2 ⟨fun r ρ hr => by simp at hr⟩ (fun r hr => by simp at hr) rfl (fun k o' hk => by
            have q := AS.at_lt (hAZ' k o' hk).2
            rw [hA] at q
            obtain ⟨q1, q2, q3⟩ := q
            have hkz := (AS.at_lt hk).1
            exact AS.at_of (Nat.lt_of_lt_of_le q1 hout1) q2 (by rw [← q3]; exact keepZ_ok hS hst hzl hkz (AS.at_lt hk).2.1 q1)) F Q c2 L2 p' a2 w2 e2 H2 rem2 hI3 hr3 (show Free e2 A1.nx A'.nx from hfr.right he2 (Nat.le_trans mm1 hout1)) fun a3 w3 e3 H3 hx3 => ?_
           exact hk a3 w3 e3 H3 (he2.trans hx3 (by omega) hoz1)
     ·cases h
theorem cutM_spec : ∀ {l : List Oper} {acc m : Nat}, cutM l acc = some m →
 (∀ o ∈ l, ∀ d, o.dst = some d → m.testBit d = true ∧ acc.testBit d = false) ∧ (∀ j, acc.testBit j = true → m.testBit j = true) ∧ (∀ (j j' : Nat) (o o' : Oper) (d : Nat), l[j]? = some o → l[j']? = some o' → o.dst = some d → o'.dst = some d → j = j')
 | [], acc, m, h => by
  simp only [cutM, Option.some.injEq] at h
  subst h
  exact ⟨fun o h => (by cases h), fun _ h => h, fun j j' o o' d h => by simp at h⟩
 | o :: l, acc, m, h => by
  simp only [cutM] at h
  split at h
  ·rename_i hod
   obtain ⟨h1, h2, h3⟩ := cutM_spec h
   refine ⟨fun o' ho' d hd => ?_, h2, fun j j' o1 o2 d q1 q2 q3 q4 => ?_⟩
   ·rcases List.mem_cons.1 ho' with rfl | ho'
    ·rw [hod] at hd; cases hd
    ·exact h1 o' ho' d hd
   ·cases j with
    | zero => simp at q1; subst q1; rw [hod] at q3; cases q3
    | succ j =>
     cases j' with
     | zero => simp at q2; subst q2; rw [hod] at q4; cases q4
     | succ j' => rw [h3 j j' o1 o2 d (by simpa using q1) (by simpa using q2) q3 q4]
  ·rename_i d0 hod
   cases hb : acc.testBit d0 with
   | true => rw [hb] at h; cases h
   | false =>
    rw [hb] at h
    simp only [cond_false] at h
    obtain ⟨h1, h2, h3⟩ := cutM_spec h
    have acc' : ∀ o' ∈ l, ∀ d, o'.dst = some d → d ≠ d0 ∧ acc.testBit d = false := fun o' ho' d hd => by
     have := (h1 o' ho' d hd).2
     rw [Nat.testBit_or, Bool.or_eq_false_iff, Nat.testBit_two_pow] at this
     refine ⟨fun e => ?_, this.1⟩
     subst e
     simp at this
    refine ⟨fun o' ho' d hd => ?_, fun j hj => h2 j (by rw [Nat.testBit_or, hj, Bool.true_or]), fun j j' o1 o2 d q1 q2 q3 q4 => ?_⟩
    ·rcases List.mem_cons.1 ho' with rfl | ho'
     ·rw [hod] at hd; injection hd with hd; subst hd
      exact ⟨h2 d0 (by rw [Nat.testBit_or, Nat.testBit_two_pow]; simp), hb⟩
     ·exact ⟨(h1 o' ho' d hd).1, (acc' o' ho' d hd).2⟩
    ·cases j with
     | zero =>
      simp at q1; subst q1
      rw [hod] at q3; injection q3 with q3; subst q3
      cases j' with
      | zero => rfl
      | succ j' =>
       have := (acc' o2 (List.mem_of_getElem? (show l[j']? = some o2 by simpa using q2)) d0 q4).1
       exact absurd rfl this
     | succ j =>
      cases j' with
      | zero =>
       simp at q2; subst q2
       rw [hod] at q4; injection q4 with q4; subst q4
       have := (acc' o1 (List.mem_of_getElem? (show l[j]? = some o1 by simpa using q1)) d0 q3).1
       exact absurd rfl this
      | succ j' => rw [h3 j j' o1 o2 d (by simpa using q1) (by simpa using q2) q3 q4]
theorem cutT_spec {l : List Oper} {acc : Nat} {T T' : PT AV} (h : cutT l acc T = some T') :
 (∀ t v, T'.get t = some v → T.get t = some v) ∧ (∀ o ∈ l, ∀ d, o.dst = some d → T'.get d = none ∧ acc.testBit d = false) ∧ (∀ (j j' : Nat) (o o' : Oper) (d : Nat), l[j]? = some o → l[j']? = some o' → o.dst = some d → o'.dst = some d → j = j') := by
 unfold cutT at h
 split at h <;> try (cases h; done)
 rename_i m hm
 injection h with h; subst h
 obtain ⟨h1, h2, h3⟩ := cutM_spec hm
 refine ⟨fun t v ht => (PT.cut_get ht).1, fun o ho d hd => ⟨?_, (h1 o ho d hd).2⟩, h3⟩
 cases hg : (T.cut m).get d with
 | none => rfl
 | some v =>
  have := (PT.cut_get hg).2
  rw [(h1 o ho d hd).1] at this; cases this
theorem drawnZ_out {n : Nat} (hS : SelfOk P C I self) {ol : List Oper} {T0 T' : PT AV} {A A' : AS} {ms : List Nat} (h : drawnZ P (opStep P I self) AZ n ol T0 A ms = some (T', A')) : Out A A' := by
 unfold drawnZ at h
 split at h <;> try (cases h; done)
 rename_i h1
 split at h <;> try (cases h; done)
 injection h with h; injection h with _ h; subst h
 exact drA_out hS h1
theorem orE_some {α : Type} {a : Option α} {b : Unit → Option α} {x : α} (h : orE a b = some x) : a = some x ∨ b () = some x := by
 unfold orE at h
 split at h
 ·exact .inl h
 ·exact .inr h
theorem drawnA_out {n : Nat} (hS : SelfOk P C I self) {ol : List Oper} {T T' : PT AV} {A A' : AS} (h : drawnA P (opStep P I self) n ol T A = some (T', A')) : Out A A' := by
 unfold drawnA at h
 split at h <;> try (cases h; done)
 split at h <;> try (cases h; done)
 rename_i T0 _ _ ms _
 cases hu : useZ ol ms with
 | false => rw [hu] at h; simp only [cond_false] at h; exact drawnZ_out hS h
 | true =>
  rw [hu] at h
  simp only [cond_true] at h
  rcases orE_some h with h | h
  ·exact drawnZ_out hS h
  ·rcases orE_some h with h | h
   ·exact drawnZ_out hS h
   ·rcases orE_some h with h | h
    ·exact drawnZ_out hS h
    ·exact drawnZ_out hS h
theorem drawnZ_ok {m : Nat} (hS : SelfOk P C I self) {T T0 T' : PT AV} {A A' : AS} {ms : List Nat} (hmA : mA ops.toList m ops.toList 0 [] = some ms) (hT0 : cutT ops.toList 0 T = some T0) (hAZ : ∀ k o, AZ.at_ k = some o → A.at_ k = some o) (h : drawnZ P (opStep P I self) AZ m ops.toList T0 A ms = some (T', A')) {e : Env} {F H : Heap} {a : Act} {w : World} {Q : Exit → Act → World → Prop}
 (hE : Emb e F A H) (hf : FrT e T m a) (hs : St C w H) (hfr : Free e A.nx A'.nx) (hk : ∀ a' w' e' H', EnvX e e' A.nx A'.nx → FrT e' T' m a' → Emb e' F A' H' → St C w' H' → a'.defers = a.defers → Q .normal a' w') :
 wpAnyIn (FRo ro) 0 P .any ops Q ops.size (Array.replicate ops.size false) a w := by
 unfold drawnZ at h
 split at h <;> try (cases h; done)
 rename_i zf D' A2 hdr
 split at h <;> try (cases h; done)
 rename_i T2 hall
 injection h with h; injection h with h1 h2; subst h1; subst h2
 obtain ⟨c1, c2, c3⟩ := cutT_spec hT0
 have hu : Uni ops := fun j j' o o' d h1 h2 => c3 j j' o o' d (by simpa using h1) (by simpa using h2)
 obtain ⟨z1, z2⟩ := mA_ok hmA (by simp) rfl (fun j m hj => by simp at hj)
 have hDI0 : DI ops (fun j => j < 0) (.lf : PT (Nat × AV)) := fun t j v ht => by rw [PT.get_lf] at ht; cases ht
 have hz0 : ∀ j, (0 : Nat).testBit j = true → j < 0 := fun j hj => by simp at hj
 have Lt := drA_later z1 hu hdr (by simp) (Nat.le_refl _) hz0 hDI0
 have hB : Base ops m T0 (vsOf ops D') := ⟨fun j d v hv => by
  obtain ⟨o, d', q1, q2, q3, _⟩ := vsOf_inv hv
  exact ⟨o, q1, q2⟩, hu, fun j o d hj hd => (c2 o (List.mem_of_getElem? (show ops.toList[j]? = some o by simpa using hj)) d hd).1, fun j o d hj hd => (z2 j o (Nat.zero_le _) hj).2 d hd, fun j o hj => (z2 j o (Nat.zero_le _) hj).1⟩
 have hZ : ZOk P AZ ops T0 (vsOf ops D') (fun j => zf.testBit j = true) := ⟨fun j hj => by
  obtain ⟨o, Tz, v, q1, q2, q4, q5⟩ := Lt.z j (Nat.zero_le _) hj
  refine ⟨o, Tz, v, q1, fun d hd => vsOf_of q1 hd (q2 d hd), fun t v' ht => ?_, q5⟩
  rcases q4 t v' ht with ⟨j', r1, r2⟩ | r
  ·obtain ⟨_, o', s1, s2⟩ := Lt.di t j' v' r1
   exact .inl ⟨j', vsOf_of s1 s2 r1, r2⟩
  ·exact .inr r⟩
 refine drA_ok (n := ⟨m, a.defers⟩) z1 hB hZ hS (st := fun _ => A) hdr (by simp) (Nat.zero_le _) rfl hz0 hDI0 ⟨fun r ρ hr => by simp at hr⟩ (fun r hr => by simp at hr) rfl hAZ F Q ops.size (Array.replicate ops.size false) (fun _ => False) a w e H (List.range ops.size)
  ⟨hs, hE.fle, ⟨by simp, fun j hj => by simp [Array.getD_eq_getD_getElem?, hj]⟩, fun j hj => by omega, fun j _ _ h => h, fun j k hj => hj.elim, fun k o _ hk => hE.at_ k o hk, fun k k' o o' b c c' _ _ h1 h2 => hE.inj k k' o o' b c c' h1 h2, fun r hr => by omega, fun _ _ => rfl, hf.size, rfl, fun t v ht => hf.get t v (c1 t v ht), fun j d v _ hp => hp.elim⟩
  ⟨by simp, List.nodup_range, fun j => by simp⟩ hfr fun a' w' e' H' hx g1 g2 g3 g4 hE' hs' => ?_
 refine hk a' w' e' H' hx ⟨g1, fun t v ht => ?_⟩ hE' hs' g2
 rcases allD_get hall t v ht with ⟨j, q⟩ | q
 ·obtain ⟨_, o, p1, p2⟩ := Lt.di t j v q
  exact g4 j t v (vsOf_of p1 p2 q)
 ·exact g3 t v q
theorem drawnA_ok {m : Nat} (hS : SelfOk P C I self) {T T' : PT AV} {A A' : AS} (h : drawnA P (opStep P I self) m ops.toList T A = some (T', A')) {e : Env} {F H : Heap} {a : Act} {w : World} {Q : Exit → Act → World → Prop}
 (hE : Emb e F A H) (hf : FrT e T m a) (hs : St C w H) (hfr : Free e A.nx A'.nx) (hk : ∀ a' w' e' H', EnvX e e' A.nx A'.nx → FrT e' T' m a' → Emb e' F A' H' → St C w' H' → a'.defers = a.defers → Q .normal a' w') :
 wpAnyIn (FRo ro) 0 P .any ops Q ops.size (Array.replicate ops.size false) a w := by
 unfold drawnA at h
 split at h <;> try (cases h; done)
 rename_i T0 hT0
 split at h <;> try (cases h; done)
 rename_i ms hms
 have hno : ∀ k o, noAS.at_ k = some o → A.at_ k = some o := fun k o hk => by have := (AS.at_lt hk).1; simp [noAS] at this
 cases hu : useZ ops.toList ms with
 | true =>
  rw [hu] at h
  simp only [cond_true] at h
  rcases orE_some h with h | h
  ·exact drawnZ_ok hS hms hT0 (fun _ _ h => lowAS_at h) h hE hf hs hfr hk
  ·rcases orE_some h with h | h
   ·exact drawnZ_ok hS hms hT0 (fun _ _ h => lowAS_at h) h hE hf hs hfr hk
   ·rcases orE_some h with h | h
    ·exact drawnZ_ok hS hms hT0 (fun _ _ h => lowAS_at h) h hE hf hs hfr hk
    ·exact drawnZ_ok hS hms hT0 hno h hE hf hs hfr hk
 | false =>
  rw [hu] at h
  simp only [cond_false] at h
  exact drawnZ_ok hS hms hT0 hno h hE hf hs hfr hk
end
end Sx
end

noncomputable section
set_option linter.unusedVariables false
set_option linter.unusedSimpArgs false
namespace Sx
open Go
def initT : List AV → Nat → PT AV → Option (PT AV)
 | [], _, T => some T
 | v :: l, k, T => match T.set 40 k (some v) with
  | some T' => initT l (k + 1) T'
  | none => none
theorem initT_get : ∀ {l : List AV} {k : Nat} {T T' : PT AV}, initT l k T = some T' → ∀ t v, T'.get t = some v → (k ≤ t ∧ l[t - k]? = some v) ∨ T.get t = some v
 | [], k, T, T', h, t, v, ht => by simp only [initT, Option.some.injEq] at h; subst h; exact .inr ht
 | x :: l, k, T, T', h, t, v, ht => by
  simp only [initT] at h
  split at h <;> try (cases h; done)
  rename_i T1 h1
  rcases initT_get h t v ht with ⟨g1, g2⟩ | g
  ·refine .inl ⟨by omega, ?_⟩
   rw [show t - k = (t - (k + 1)) + 1 by omega]; simpa using g2
  ·rw [PT.set_get _ _ _ _ _ h1] at g
   split at g
   ·rename_i htk
    subst htk
    exact .inl ⟨Nat.le_refl _, by simpa using g⟩
   ·exact .inr g
def ldA (P : Program) (A : AS) (t : TypeId) (p : Nat × Nat) : Option AV :=
 bif aggT P t then (match szT P t with | some z => (match A.cells p z with | some l => some (.agg l) | none => none) | none => none) else bif aggB P t then none else A.cell p
def rvA (P : Program) (T : PT AV) (A : AS) : ResultVar → Option AV
 | .tmp t => T.get t
 | .cell a t => match T.get a with
  | some (.ptr (some p)) => ldA P A t p
  | _ => none
def rvsA (P : Program) (T : PT AV) (A : AS) : List ResultVar → Option (List AV)
 | [] => some []
 | r :: l => match rvA P T A r, rvsA P T A l with
  | some x, some y => some (x :: y)
  | _, _ => none
def resA (P : Program) (T : PT AV) (A : AS) : List ResultVar → Option AV
 | [] => some (.tup [])
 | [r] => rvA P T A r
 | [r, s] => match rvA P T A r, rvA P T A s with
  | some x, some y => some (.tup [x, y])
  | _, _ => none
 | r :: s :: l => match rvsA P T A (r :: s :: l) with
  | some x => some (.tup x)
  | none => none
/-- which slots are looked at outside the piece of code that writes them (any answer is sound) -/
def rdM : List Operand → Nat → Nat
 | [], m => m
 | .tmp t :: l, m => rdM l (Nat.lor m (2 ^ t))
 | _ :: l, m => rdM l m
def exposed (ops : List Oper) : List Oper → Nat → Nat → Nat
 | [], df, m => m
 | o :: l, df, m =>
  let r := rdM (o.op.operands.toList) 0
  let r := match o.guard with
   | some (j, _) => (match nth ops j with | some oj => (match oj.dst with | some d => Nat.lor r (2 ^ d) | none => r) | none => r)
   | none => r
  let m' := Nat.lor m (Nat.xor r (Nat.land r df))
  match o.dst with
  | some d => exposed ops l (Nat.lor df (2 ^ d)) m'
  | none => exposed ops l df m'
def keepC : Code → Nat → Nat
 | .region _ ops draw, m => exposed ops.toList ops.toList 0 m
 | .seq a b, m => keepC b (keepC a m)
 | .cond x a b, m => keepC b (keepC a (rdM [x] m))
 | .block _ b, m => keepC b m
 | .loop b, m => keepC b m
 | .scope b, m => keepC b m
 | .rangeFunc g ps aq bd, m => keepC bd (keepC aq (rdM (g :: ps.toList.map .tmp) m))
 | _, m => m
def keepR : List ResultVar → Nat → Nat
 | [], m => m
 | .tmp t :: l, m => keepR l (Nat.lor m (2 ^ t))
 | .cell a _ :: l, m => keepR l (Nat.lor m (2 ^ a))
def evRes (P : Program) (fn : Func) : Option Rs → Option Rs
 | some (.x ex T' A') => (match ex with
  | .ex _ => none
  | .nrm => (match resA P T' A' fn.results.toList with | some v => some (.v v A') | none => none)
  | .ret => (match resA P T' A' fn.results.toList with | some v => some (.v v A') | none => none))
 | _ => none
def liveF (fn : Func) : Nat := match fn.body with | some c => keepC c (keepR fn.results.toList 0) | none => 0
def evFn (P : Program) (self : Tk → AS → Option Rs) (fn : Func) (args : List AV) (A : AS) : Option Rs :=
 match fn.body, initT args 0 (.start (liveF fn)) with
 | some c, some T => bif Nat.ble args.length fn.ntmps then evRes P fn (self (.code false c fn.ntmps T) A) else none
 | _, _ => none
def evCall (P : Program) (prim : FuncId → List AV → AS → Option (AV × AS)) (self : Tk → AS → Option Rs) (f : FuncId) (args : List AV) (A : AS) : Option Rs :=
 match prim f args A with
 | some (v, A') => some (.v v A')
 | none => (match nth P.funcs.toList f with
  | some fn => evFn P self fn args A
  | none => none)
def evReg (P : Program) (I : Ids) (self : Tk → AS → Option Rs) (ops : Array Oper) (draw : Bool) (n : Nat) (T : PT AV) (A : AS) : Option Rs :=
 match (bif draw then drawnA P (opStepF P I self) n ops.toList T A else opsL (opStepF P I self) n ops.toList ops.toList T A) with
 | some (T', A') => some (.x .nrm T'.flush A')
 | none => none
def evThen (self : Tk → AS → Option Rs) (rd : Bool) (b : Code) (n : Nat) : Option Rs → Option Rs
 | some (.x ex T' A') => (match ex with
  | .nrm => self (.code rd b n T') A'
  | ex => some (.x ex T' A'))
 | _ => none
def evIf (self : Tk → AS → Option Rs) (rd : Bool) (a b : Code) (n : Nat) (T : PT AV) (A : AS) : Option AV → Option Rs
 | some (.bool t) => self (.code rd (bif t then a else b) n T) A
 | _ => none
def evBlk (id : Nat) : Option Rs → Option Rs
 | some (.x ex T' A') => (match ex with
  | .ex i => bif Nat.beq i id then some (.x .nrm T' A') else some (.x (.ex i) T' A')
  | ex => some (.x ex T' A'))
 | _ => none
def evAgain (self : Tk → AS → Option Rs) (rd : Bool) (c : Code) (n : Nat) : Option Rs → Option Rs
 | some (.x ex T' A') => (match ex with
  | .nrm => self (.loop rd c n T') A'
  | ex => some (.x ex T' A'))
 | _ => none
/-- a range over a function -/
def evRng2 (k n : Nat) (T : PT AV) : Option Rs → Option Rs
 | some (.v _ A2) => (match A2.at_ k with
  | some (.lup st pend _ _ _ _ _) => (match st with
   | 0 => evRng3 k n T A2 pend
   | 1 => evRng3 k n T A2 pend
   | _ => none)
  | _ => none)
 | _ => none
where evRng3 (k n : Nat) (T : PT AV) (A2 : AS) (pend : Option AEx) : Option Rs := match A2.put k none with
 | some A3 => (match pend with
  | none => some (.x .nrm T A3)
  | some .nrm => none
  | some ex => some (.x ex T A3))
 | none => none
def evRng (self : Tk → AS → Option Rs) (n : Nat) (T : PT AV) (A : AS) (ps : Array Nat) (aq bd : Code) : Option AV → Option Rs
 | some (.fn (.func gf) [] cs) => (match A.new (.lup 0 none n T ps.toList aq bd) with
  | some A1 => evRng2 A.nx n T (self (.call gf (.yld A.nx :: cs)) A1)
  | none => none)
 | _ => none
def evCode (P : Program) (I : Ids) (self : Tk → AS → Option Rs) (rd : Bool) (n : Nat) (T : PT AV) (A : AS) : Code → Option Rs
 | .skip => some (.x .nrm T A)
 | .label _ => some (.x .nrm T A)
 | .region _ ops draw => evReg P I self ops draw n T A
 | .seq a b => evThen self rd b n (self (.code rd a n T) A)
 | .cond x a b => evIf self rd a b n T A (opA T x)
 | .block id b => evBlk id (self (.code rd b n T) A)
 | .loop b => self (.loop rd b n T) A
 | .exit id => some (.x (.ex id) T A)
 | .scope b => self (.code rd b n T) A
 | .ret => some (.x .ret T A)
 | .rangeFunc g ps aq bd => bif rd then none else evRng self n T A ps aq bd (opA T g)
 | _ => none
def evF (P : Program) (I : Ids) (prim : FuncId → List AV → AS → Option (AV × AS)) (self : Tk → AS → Option Rs) : Tk → AS → Option Rs
 | .call f args, A => evCall P prim self f args A
 | .code rd c n T, A => evCode P I self rd n T A c
 | .loop rd c n T, A => evAgain self rd c n (self (.code rd c n T) A)
structure PrimOk (P : Program) (C : Ctx) (prim : FuncId → List AV → AS → Option (AV × AS)) : Prop where
 ok : ∀ f args A v A', prim f args A = some (v, A') → Out A A' ∧ CallS P C f args A v A' ∧ CallOk P f
section
variable {P : Program} {C : Ctx} {I : Ids} {prim : FuncId → List AV → AS → Option (AV × AS)} {self : Tk → AS → Option Rs}
theorem rvA_ok {e : Env} {F H : Heap} {A : AS} {T : PT AV} {n : Nat} {a : Act} {r : ResultVar} {v : AV} (hE : Emb e F A H) (hf : FrT e T n a) (h : rvA P T A r = some v) : ∃ u, RV P C (full a) H r u ∧ Dn e v u := by
 cases r with
 | tmp t =>
  obtain ⟨u, h1, h2⟩ := hf.get t v h
  exact ⟨u, lk_full h1, h2⟩
 | cell x t =>
  simp only [rvA] at h
  split at h <;> try (cases h; done)
  rename_i p hp
  obtain ⟨k, o⟩ := p
  obtain ⟨_, h1, h2⟩ := hf.get x _ hp
  cases h2 with
  | ptr hq =>
  obtain ⟨b, c, g1, g2⟩ := hq
  subst g2
  unfold ldA at h
  cases ht : aggT P t with
  | true =>
   rw [ht] at h
   simp only [cond_true] at h
   split at h <;> try (cases h; done)
   rename_i z hz
   split at h <;> try (cases h; done)
   rename_i l hl
   injection h with h; subst h
   obtain ⟨us, q1, q2, q3⟩ := hE.cells hl g1
   exact ⟨_, RV.cellT (p := (b, o)) (lk_full h1) ht (by rw [q3]; exact szT_ok hz) q1, .agg q2⟩
  | false =>
   rw [ht] at h
   simp only [cond_false] at h
   cases hb : aggB P t with
   | true => rw [hb] at h; cases h
   | false =>
    rw [hb] at h
    simp only [cond_false] at h
    obtain ⟨u, q1, q2⟩ := hE.cell h g1
    exact ⟨u, RV.cell (p := (b, o)) (lk_full h1) hb q1, q2⟩
inductive RVs (P : Program) (C : Ctx) (l : List (Nat × Value)) (H : Heap) : List ResultVar → List Value → Prop
 | nil : RVs P C l H [] []
 | cons {r : ResultVar} {v : Value} {rs : List ResultVar} {vs : List Value} (h : RV P C l H r v) (h2 : RVs P C l H rs vs) : RVs P C l H (r :: rs) (v :: vs)
theorem rvsA_ok {e : Env} {F H : Heap} {A : AS} {T : PT AV} {n : Nat} {a : Act} (hE : Emb e F A H) (hf : FrT e T n a) : ∀ {rs : List ResultVar} {vs : List AV}, rvsA P T A rs = some vs → ∃ us, RVs P C (full a) H rs us ∧ Dns e vs us
 | [], vs, h => by simp only [rvsA, Option.some.injEq] at h; subst h; exact ⟨[], .nil, .nil⟩
 | r :: rs, vs, h => by
  simp only [rvsA] at h
  split at h <;> try (cases h; done)
  rename_i x y hx hy
  injection h with h; subst h
  obtain ⟨u, h1, h2⟩ := rvA_ok (C := C) hE hf hx
  obtain ⟨us, h3, h4⟩ := rvsA_ok hE hf hy
  exact ⟨u :: us, .cons h1 h3, .cons h2 h4⟩
theorem RVs.run {l : List (Nat × Value)} {H : Heap} {w : World} {f : ResultVar → Sem Value} (hf : ∀ r v, RV P C l H r v → (f r).run P w = .ok v w) : ∀ {rs : List ResultVar} {vs : List Value}, RVs P C l H rs vs → (rs.mapM f).run P w = .ok vs w
 | _, _, .nil => by simp
 | _, _, .cons h1 h2 => by
  have ih := RVs.run hf h2
  rw [List.mapM_cons]
  simp [hf _ _ h1, ih]
theorem RVs.len {l : List (Nat × Value)} {H : Heap} : ∀ {rs : List ResultVar} {vs : List Value}, RVs P C l H rs vs → vs.length = rs.length
 | _, _, .nil => rfl
 | _, _, .cons h1 h2 => by simp [h2.len]
theorem post_resN {l : List (Nat × Value)} {H : Heap} {n : Nat} {fn : Func} {Φ : Value → Heap → Prop} {r s : ResultVar} {rs : List ResultVar} {vs : List Value} {a : Act} {w : World} (hr : fn.results = (r :: s :: rs).toArray) (h1 : RVs P C l H (r :: s :: rs) vs) (hf : Fr ⟨n, []⟩ l a) (hw : St C w H) (h : Φ (.tuple vs.toArray) H) : SpecPost P C fn Φ .ret a w := by
 refine bodyPostM_ret (v := .tuple vs.toArray) ?_ hf.defers ⟨_, H, rfl, hw, h⟩
 have hl := h1.len
 unfold results
 rw [hr, List.mapM_toArray]
 simp only [Sem.run_bind, Sem.run_map]
 rw [RVs.run (fun r v h => by
  rcases h.run hf hw with ⟨t, rfl, e⟩ | ⟨x, t, p, rfl, e, e2⟩
  ·simp [e]
  ·simp [e, pv, asAddr, e2]) h1]
 have h2 : ¬ vs.length = 1 := by simp only [hl, List.length_cons]; omega
 simp [h2]
theorem resA_ok {e : Env} {F H : Heap} {A : AS} {T : PT AV} {n : Nat} {a : Act} {w : World} {fn : Func} {v : AV} {Φ : Value → Heap → Prop} (hE : Emb e F A H) (hf : FrT e T n a) (hs : St C w H) (had : a.defers = []) (h : resA P T A fn.results.toList = some v) (hk : ∀ u, Dn e v u → Φ u H) : SpecPost P C fn Φ .ret a w := by
 have hfr : Fr ⟨n, []⟩ (full a) a := by have := hf.fr; rwa [had] at this
 have hres : ∀ l, fn.results.toList = l → fn.results = l.toArray := fun l hl => by rw [← hl]
 unfold resA at h
 split at h
 ·rename_i hr
  injection h with h; subst h
  exact post_tmp0 (hres _ hr) hfr hs (hk _ (.tup .nil))
 ·rename_i r hr
  obtain ⟨u, h1, h2⟩ := rvA_ok (C := C) hE hf h
  exact post_res1 (hres _ hr) h1 hfr hs (hk _ h2)
 ·rename_i r s hr
  split at h <;> try (cases h; done)
  rename_i x y hx hy
  injection h with h; subst h
  obtain ⟨u, h1, h2⟩ := rvA_ok (C := C) hE hf hx
  obtain ⟨u', h3, h4⟩ := rvA_ok (C := C) hE hf hy
  exact post_res2 (hres _ hr) h1 h3 hfr hs (hk _ (.tup (.cons h2 (.cons h4 .nil))))
 ·rename_i r s l hr
  split at h <;> try (cases h; done)
  rename_i x hx
  injection h with h; subst h
  obtain ⟨us, h1, h2⟩ := rvsA_ok (C := C) hE hf hx
  exact post_resN (hres _ hr) h1 hfr hs (hk _ (.tup h2))
theorem wpIn_scope_straight {Fe : Fence} {k : Nat} {c : Code} {Q : Exit → Act → World → Prop} {a : Act} {w : World} (h : c.wpIn Fe k P (Exit.noGoto Q) a w) : (Code.scope c).wpIn Fe k P Q a w := by
 intro b kk cs hro hb hr
 have h0 : (lone (b.atR a (.code (.scope c) :: kk)) cs w).fenced P Fe := fenced_calm hb hr rfl
 have s1 : step P (lone (b.atR a (.code (.scope c) :: kk)) cs w) = .next (lone (b.atR a (.code c :: .inScope c :: kk)) cs w) := step_lone_go (by simp [stepG, stepG.exec, Frame.atR])
 have s2 : ∀ a₁ w₁, step P (lone (b.atR a₁ (.inScope c :: kk)) cs w₁) = .next (lone (b.atR a₁ kk) cs w₁) := fun a₁ w₁ => step_lone_go (by simp [stepG, stepG.exec, Frame.atR])
 obtain ⟨e, a₁, w₁, hq, harr⟩ := h b (.inScope c :: kk) cs hro hb hr
 cases e with
 | normal => exact ⟨.normal, a₁, w₁, hq, .head h0 s1 (StepsIn.trans harr (.one (fenced_calm hb hr rfl) (s2 _ _)))⟩
 | exit id =>
  have hx : exitTo id (.inScope c :: kk) = exitTo id kk := by simp [exitTo]
  exact ⟨.exit id, a₁, w₁, hq, fun k' hk => .head h0 s1 (harr.1 k' (by rw [hx]; exact hk)), fun hr' hk => let ⟨k₁, h1, h2⟩ := harr.2 hr' (by rw [hx]; exact hk); ⟨k₁, h1, .head h0 s1 h2⟩⟩
 | goto l => exact hq.elim
 | ret => exact ⟨_, a₁, w₁, hq, .of_steps (.one h0 s1) harr⟩
 | panic ch => exact ⟨_, a₁, w₁, hq, .of_steps (.one h0 s1) harr⟩
 | outgrown => exact ⟨_, a₁, w₁, hq, .of_steps (.one h0 s1) harr⟩
/-- at a function's end: what the ranges over functions have left -/
theorem leavesM {fn : Func} {tmps : Array Value} {R : Ending → World → Prop} : ∀ (L : List Nat) (w : World) (H : Heap), St C w H → L.Nodup → (∀ D ∈ L, H D = some (true, .obj (.deferred (some [])))) →
 (∀ w' H', St C w' H' → (∀ b, b ∉ L → H' b = H b) → LeavesInM Fence.wide 0 P fn tmps R [] .returning w') → LeavesInM Fence.wide 0 P fn tmps R (L.map mark) .returning w
 | [], w, H, hs, _, _, hk => hk w H hs fun _ _ => rfl
 | D :: L, w, H, hs, hn, hD, hk => by
  have hn' := List.nodup_cons.1 hn
  have h1 := hD D (List.mem_cons_self ..)
  have h2 := hs.obj_at h1
  refine ⟨by simp, .inl ⟨D, w.putObj D (.deferred none), rfl, run_takeDeferred (P := P) h2, ?_⟩⟩
  have hlt : D < w.heap.size := (Array.getElem?_eq_some_iff.1 h2).1
  have hs' : St C (w.putObj D (.deferred none)) (H.put D (.obj (.deferred none))) :=
   hs.set h1 ⟨rfl, rfl, World.putObj_heap_same hlt, fun x hx => World.putObj_heap_other hx⟩ ⟨rfl, fun _ _ _ h => by cases h⟩
  refine leavesM L _ _ hs' hn'.2 (fun D' hD' => ?_) fun w' H' hs2 hb => hk w' H' hs2 fun b hb' => ?_
  ·have hne : D' ≠ D := fun e => hn'.1 (by rw [← e]; exact hD')
   rw [Heap.put_ne _ _ _ hne]; exact hD D' (List.mem_cons_of_mem _ hD')
  ·have hne : b ≠ D := fun e => hb' (by rw [e]; exact List.mem_cons_self ..)
   rw [hb b fun h => hb' (List.mem_cons_of_mem _ h), Heap.put_ne _ _ _ hne]
theorem Emb.hide {e : Env} {F H : Heap} {A : AS} {D : Nat} {g : GO} (hE : Emb e F A H) (hD : H D = none) : Emb e (F.put D g) A (H.put D g) := by
 refine ⟨fun b x hb => ?_, fun k o hk => ?_, hE.inj⟩
 ·by_cases hbd : b = D
  ·subst hbd; rw [Heap.put_same] at hb ⊢; exact hb
  ·rw [Heap.put_ne _ _ _ hbd] at hb ⊢; exact hE.fle _ _ hb
 ·obtain ⟨b, c, g', h1, h2, h3, h4⟩ := hE.at_ k o hk
  have hbd : b ≠ D := fun e => by subst e; rw [hD] at h3; cases h3
  exact ⟨b, c, g', h1, h2, by rw [Heap.put_ne _ _ _ hbd]; exact h3, by rw [Heap.put_ne _ _ _ hbd]; exact h4⟩
theorem Emb.putOff {e : Env} {F H : Heap} {A : AS} {D : Nat} {g : GO} (hE : Emb e F A H) (hF : F D = none) (hno : ∀ k o c, A.at_ k = some o → e k = some (D, c) → False) : Emb e F A (H.put D g) := by
 refine ⟨fun b x hb => ?_, fun k o hk => ?_, hE.inj⟩
 ·have hbd : b ≠ D := fun e => by subst e; rw [hF] at hb; cases hb
  rw [Heap.put_ne _ _ _ hbd]; exact hE.fle _ _ hb
 ·obtain ⟨b, c, g', h1, h2, h3, h4⟩ := hE.at_ k o hk
  have hbd : b ≠ D := fun e => by subst e; exact hno k o c hk h1
  exact ⟨b, c, g', h1, h2, by rw [Heap.put_ne _ _ _ hbd]; exact h3, h4⟩
theorem evRng_ok (hS : SelfOk P C I self) {n : Nat} {T : PT AV} {A : AS} {g : Operand} {ps : Array Nat} {aq bd : Code} {r : Rs} (h : evRng self n T A ps aq bd (opA T g) = some r) : TkS P C (.code false (.rangeFunc g ps aq bd) n T) A r := by
 unfold evRng at h
 split at h <;> try (cases h; done)
 rename_i gf cs hg
 split at h <;> try (cases h; done)
 rename_i A1 h1
 unfold evRng2 at h
 split at h <;> try (cases h; done)
 rename_i v A2 h2
 obtain ⟨o2, c2⟩ := hS.ok _ _ _ h2
 have hok := hS.call _ _ _ _ h2
 have o1 := (AS.new_out h1).1
 have n1 := (AS.new_out h1).2.1
 split at h <;> try (cases h; done)
 rename_i st pend n' T' ps' aq' bd' hat
 have main : ∀ A3 ex, A2.put A.nx none = some A3 → st ≠ 2 → stO st ≠ .busy → (ex = .nrm ∧ pend = none ∨ pend = some ex ∧ ex ≠ .nrm) → TkS P C (.code false (.rangeFunc g ps aq bd) n T) A (.x ex T A3) := by
  intro A3 ex h3 hst2 hst hpe
  have o3 := (AS.put_out h3).1
  have n3 := (AS.put_out h3).2.1
  refine ⟨o1.trans (o2.trans o3), fun ro hro e F H a w Q hE hf hs hfr hk => ?_⟩
  have hro := hro rfl
  subst hro
  obtain ⟨_, g1, g2⟩ := opA_ok hf hg
  cases g2 with
  | fn k1 k2 =>
  rename_i xa xb
  cases k1
  -- the two blocks
  have hD0 : H w.heap.size = none := hs.fresh
  have hs1 : St C (w.alloc (.deferred (some []))) (H.put w.heap.size (.obj (.deferred (some [])))) := hs.push ⟨rfl, fun _ _ _ h => by cases h⟩
  have hE1 := hE.hide (g := .obj (.deferred (some []))) hD0
  have hsz : (w.alloc (.deferred (some []))).heap.size = w.heap.size + 1 := by simp
  have hFD : F w.heap.size = none := hE.fle.none hD0
  refine wpIn_rangeFunc fun fn _ => ?_
  let rec1 : Loop := { state := .ready, pending := none, fn := fn, tmps := a.tmps, params := ps, assign := aq, body := bd, defers := w.heap.size }
  have hfr1 : Free e A.nx A1.nx := hfr.left (Nat.le_trans o2.nx o3.nx)
  obtain ⟨q1, q2, q3⟩ := new_obj (C := C) (ob := .loop rec1) hE1 hs1 h1 hfr1 (fun b => ⟨fn, a.tmps, w.heap.size, rfl, hf.size, fun t v ht => by
   obtain ⟨u, r1, r2⟩ := hf.get t v ht
   exact ⟨u, r1, r2.le (Env.upd_le (hfr1 A.nx (Nat.le_refl _) (by omega)))⟩⟩) (fun _ _ _ h => by cases h)
  have hle1 := q1.le hfr1
  have hcall := c2 (e.upd A.nx ((w.alloc (.deferred (some []))).heap.size, 0)) (F.put w.heap.size (.obj (.deferred (some [])))) _ (.func (.yield (w.heap.size + 1)) #[] #[] :: xb) (.cons (.yld (by rw [hsz]; exact Env.upd_same ..)) (k2.le hle1)) q2 (hfr.right q1 o1.nx |>.left o3.nx)
  refine ⟨_, _, (w.alloc (.deferred (some []))).alloc (.loop rec1), ⟨.fn (.func gf) xb.toArray, #[.func (.yield (w.heap.size + 1)) #[] #[]]⟩, (w.alloc (.deferred (some []))).alloc (.loop rec1), gf, (Value.func (.yield (w.heap.size + 1)) #[] #[] :: xb).toArray, (w.alloc (.deferred (some []))).alloc (.loop rec1), run_enterLoop_outer (P := P) fn a.tmps ps aq bd, ?_, fun _ _ => trivial, ?_, fun hh => (by cases hh), callsIn_FRo (ro := none) ((hcall _ q3).mono fun en w2 he => ?_)⟩
  ·have e1 := hf.fr.ev g1
   simp only [resolve, e1]
   simp [Deferred.ofValue, Act.eval]
  ·simp [invoke]
   exact run_callFunc hok _ _
  ·obtain ⟨u, H2, rfl, hs2, e2, hx2, hd2, hE2⟩ := he
   have hb0 : e2 A.nx = some (w.heap.size + 1, 0) := by
    rw [hx2 A.nx (.inl (by omega)), hsz]; exact Env.upd_same ..
   obtain ⟨r, r1, r2, r3, r4, _⟩ := loop_at hE2 hs2 hat hb0
   have hend := run_endLoop (P := P) r2 (by rw [r3]; exact hst)
   have hlt : w.heap.size + 1 < w2.heap.size := (Array.getElem?_eq_some_iff.1 r2).1
   obtain ⟨hE3, hlive⟩ := hE2.del h3
   have hFl : (F.put w.heap.size (.obj (.deferred (some [])))) (w.heap.size + 1) = none := by
    obtain ⟨b', c', g', p1, p2, p3, p4⟩ := hE2.at_ A.nx _ hat
    rw [hb0] at p1; injection p1 with p1; injection p1 with p1 _; subst p1; exact p4
   have hE4 := hE3.putOff (g := .obj (.loop { r with state := .exhausted })) hFl fun k o c hk he => by
    obtain ⟨p1, p2⟩ := hlive k o hk
    exact p1 (hE2.inj k A.nx o _ _ _ _ p2 hat he hb0)
   have hs4 : St C (w2.putObj (w.heap.size + 1) (.loop { r with state := .exhausted })) (H2.put (w.heap.size + 1) (.obj (.loop { r with state := .exhausted }))) :=
    hs2.set r1 ⟨rfl, rfl, World.putObj_heap_same hlt, fun x hx => World.putObj_heap_other hx⟩ ⟨rfl, fun _ _ _ h => by cases h⟩
   refine ⟨_, _, hend, ?_⟩
   have hmk : Mk F a.defers (F.put w.heap.size (.obj (.deferred (some [])))) (mark w.heap.size :: a.defers) :=
    ⟨Heap.le.put _ _ (Heap.le.refl F) hFD, [w.heap.size], rfl, by simp, fun D hD => by
     have : D = w.heap.size := by simpa using hD
     subst this; exact ⟨hFD, Heap.put_same ..⟩⟩
   have hxx : EnvX e e2 A.nx A3.nx := by rw [n3]; exact q1.trans hx2 o1.nx o2.nx
   have hf4 : FrT e2 T n { tmps := a.tmps, defers := mark w.heap.size :: a.defers } := ⟨hf.size, fun t v ht => by
    obtain ⟨u', p1, p2⟩ := hf.get t v ht
    exact ⟨u', p1, p2.le (hxx.le hfr)⟩⟩
   have fin := hk { tmps := a.tmps, defers := mark w.heap.size :: a.defers } _ e2 _ _ hmk hxx hf4 hE4 hs4
   split
   ·rename_i hnone
    rw [r4] at hnone
    rcases hpe with ⟨rfl, rfl⟩ | ⟨rfl, hne⟩
    ·exact fin
    ·cases ex with
     | nrm => exact absurd rfl hne
     | ex i => cases hnone
     | ret => cases hnone
   ·rename_i c' hsome
    rw [r4] at hsome
    rcases hpe with ⟨rfl, rfl⟩ | ⟨rfl, hne⟩
    ·cases hsome
    ·cases ex with
     | nrm => exact absurd rfl hne
     | ex i => injection hsome with hsome; subst hsome; exact wpIn_exit fin
     | ret => injection hsome with hsome; subst hsome; exact wpIn_ret fin
 split at h <;> try (cases h; done)
 all_goals
  unfold evRng2.evRng3 at h
  split at h <;> try (cases h; done)
  rename_i A3 h3
  split at h <;> try (cases h; done)
  ·injection h with h; subst h
   exact main A3 .nrm h3 (by decide) (by simp [stO]) (.inl ⟨rfl, rfl⟩)
  ·rename_i ex hne
   injection h with h; subst h
   exact main A3 ex h3 (by decide) (by simp [stO]) (.inr ⟨rfl, fun e => hne (by rw [e])⟩)
theorem evF_ok (hS : SelfOk P C I self) (hP : PrimOk P C prim) (hN : ∀ (f : FuncId) (fn : Func), P.funcs[f]? = some fn → (fn.name == "runtime.NumGoroutine") = false) (hm : P.follows .mixedOrders = true) :
 SelfOk P C I (evF P I prim self) := by
 refine ⟨fun tk A r h => ?_, fun f args A r h => ?_, hS.idx, hS.cnt⟩
 ·cases tk with
  | call f args =>
   unfold evF evCall evFn evRes at h
   dsimp only at h
   split at h
   ·rename_i v A' hp
    injection h with h; subst h
    obtain ⟨h1, h2, _⟩ := hP.ok _ _ _ _ _ hp
    exact ⟨h1, h2⟩
   ·split at h <;> try (cases h; done)
    rename_i fn hfn
    rw [nth_some] at hfn
    have hfn : P.funcs[f]? = some fn := by simpa using hfn
    split at h <;> try (cases h; done)
    rename_i c T hc hT
    cases hb : Nat.ble args.length fn.ntmps with
    | false => rw [hb] at h; cases h
    | true =>
     rw [hb] at h
     simp only [cond_true] at h
     split at h <;> try (cases h; done)
     rename_i ex T' A' hr
     obtain ⟨ho, hcode⟩ := hS.ok _ _ _ hr
     have main : ∀ v, resA P T' A' fn.results.toList = some v → (ex = .nrm ∨ ex = .ret) → TkS P C (.call f args) A (.v v A') := by
      intro v hv hex
      refine ⟨ho, fun e F H us hd hE hfr => ?_⟩
      refine Spec.enter (n := fn.ntmps) hfn hc rfl (by rw [hd.len]; exact hb) fun a w hf hs => ?_
      have hfT : FrT e T fn.ntmps a := ⟨hf.size, fun t v' ht => by
       rcases initT_get hT t v' ht with ⟨_, g2⟩ | g
       ·rw [Nat.sub_zero] at g2
        rw [← nth_some] at g2
        obtain ⟨u, q1, q2⟩ := hd.nth g2
        refine ⟨u, hf.get t u ?_, q2⟩
        have := lk_full_go us 0 t u q1
        simpa [argFrame] using this
       ·rw [PT.get_start] at g; cases g⟩
      refine wpIn_wide.1 (hcode none (fun _ => rfl) e F H a w _ hE hfT hs hfr fun a' w' e' H' F' hmk hx hf' hE' hs' => ?_)
      obtain ⟨hle, L, hL, hnd, hLD⟩ := hmk
      have had : a.defers = [] := hf.defers
      rw [had, List.append_nil] at hL
      have key : LeavesInM Fence.wide 0 P fn a'.tmps (Post C fun u H' => ∃ e', EnvX e e' A.nx A'.nx ∧ Dn e' v u ∧ Emb e' F A' H') a'.defers .returning w' := by
       rw [hL]
       refine leavesM L w' H' hs' hnd (fun D hD => hE'.fle _ _ (hLD D hD).2) fun w2 H2 hs2 hoff => ?_
       have hE2 : Emb e' F A' H2 := ⟨fun b x hb => by
        have : b ∉ L := fun hbl => by rw [(hLD b hbl).1] at hb; cases hb
        rw [hoff b this]; exact hE'.fle _ _ (hle _ _ hb), fun k o hk => by
        obtain ⟨b, c, g, g1, g2, g3, g4⟩ := hE'.at_ k o hk
        have : b ∉ L := fun hbl => by rw [(hLD b hbl).2] at g4; cases g4
        exact ⟨b, c, g, g1, g2, by rw [hoff b this]; exact g3, hle.none g4⟩, hE'.inj⟩
       exact resA_ok (a := { tmps := a'.tmps, defers := [] }) (w := w2) (fn := fn) (Φ := fun u H' => ∃ e', EnvX e e' A.nx A'.nx ∧ Dn e' v u ∧ Emb e' F A' H') hE2 ⟨hf'.size, hf'.get⟩ hs2 rfl hv fun u hu => ⟨e', hx, hu, hE2⟩
      rcases hex with rfl | rfl
      ·exact key
      ·exact key
     split at h <;> try (cases h; done)
     ·split at h <;> try (cases h; done)
      rename_i v hv
      injection h with h; subst h
      exact main v hv (.inl rfl)
     ·split at h <;> try (cases h; done)
      rename_i v hv
      injection h with h; subst h
      exact main v hv (.inr rfl)
  | code rd c n T =>
   unfold evF evCode evReg evThen evIf evBlk at h
   simp only [opStepF_eq] at h
   split at h <;> try (cases h; done)
   ·injection h with h; subst h
    exact ⟨Out.refl _, fun ro hro e F H a w Q hE hf hs hfr hk => wpIn_skip (hk a w e H F (Mk.refl _ _) (fun _ _ => rfl) hf hE hs)⟩
   ·injection h with h; subst h
    exact ⟨Out.refl _, fun ro hro e F H a w Q hE hf hs hfr hk => wpIn_label (hk a w e H F (Mk.refl _ _) (fun _ _ => rfl) hf hE hs)⟩
   ·rename_i id ops draw
    split at h <;> try (cases h; done)
    rename_i T' A' hr
    injection h with h; subst h
    cases draw with
    | true =>
     simp only [cond_true] at hr
     exact ⟨drawnA_out hS hr, fun ro hro e F H a w Q hE hf hs hfr hk => wpIn_region_any hm (drawnA_ok hS hr hE hf hs.drew hfr fun a' w' e' H' hx hf' hE' hs' hdf => hk a' w' e' H' F (Mk.of_eq hdf) hx ⟨hf'.size, fun t v ht => hf'.get t v (PT.flush_get ht)⟩ hE' hs')⟩
    | false =>
     simp only [cond_false] at hr
     refine ⟨opsL_out hS hr, fun ro hro e F H a w Q hE hf hs hfr hk => ?_⟩
     have := wpIn_region_lit (F := FRo ro) (n := 0) (P := P) (id := id) (Q := Q) (l := ops.toList) (opsL_ok (ops := ops) hS hr ro e F H a w Q hE hf hs hfr fun a' w' e' H' hx hf' hE' hs' hdf => hk a' w' e' H' F (Mk.of_eq hdf) hx ⟨hf'.size, fun t v ht => hf'.get t v (PT.flush_get ht)⟩ hE' hs')
     simpa using this
   ·rename_i x y
    split at h <;> try (cases h; done)
    rename_i ex T' A' hr
    obtain ⟨ho, hcode⟩ := hS.ok _ _ _ hr
    split at h
    ·have h2 := hS.ok _ _ _ h
     cases r with
     | v v A2 => exact h2.elim
     | x ex2 T2 A2 =>
      obtain ⟨ho2, hcode2⟩ := h2
      refine ⟨ho.trans ho2, fun ro hro e F H a w Q hE hf hs hfr hk => wpIn_seq ?_⟩
      refine hcode ro hro e F H a w _ hE hf hs (hfr.left ho2.nx) fun a' w' e' H' F' hmk hx hf' hE' hs' => ?_
      exact hcode2 ro hro e' F' H' a' w' Q hE' hf' hs' (hfr.right hx ho.nx) fun a2 w2 e2 H2 F2 hmk2 hx2 => hk a2 w2 e2 H2 F2 (hmk.trans hmk2) (hx.trans hx2 ho.nx ho2.nx)
    ·rename_i hne
     injection h with h; subst h
     refine ⟨ho, fun ro hro e F H a w Q hE hf hs hfr hk => wpIn_seq (hcode ro hro e F H a w _ hE hf hs hfr fun a' w' e' H' F' hmk hx hf' hE' hs' => ?_)⟩
     have := hk a' w' e' H' F' hmk hx hf' hE' hs'
     cases ex with
     | nrm => exact absurd rfl hne
     | ex i => exact this
     | ret => exact this
   ·rename_i x c1 c2
    split at h <;> try (cases h; done)
    rename_i t hx
    have h2 := hS.ok _ _ _ h
    cases r with
    | v v A2 => exact h2.elim
    | x ex2 T2 A2 =>
     obtain ⟨ho, hcode⟩ := h2
     refine ⟨ho, fun ro hro e F H a w Q hE hf hs hfr hk => ?_⟩
     obtain ⟨_, g1, g2⟩ := opA_ok hf hx
     cases g2
     refine wpIn_cond (t := t) (hf.fr.ev g1) ?_
     have := hcode ro hro e F H a w Q hE hf hs hfr hk
     cases t
     ·simpa using this
     ·simpa using this
   ·rename_i id b
    split at h <;> try (cases h; done)
    rename_i ex T' A' hr
    obtain ⟨ho, hcode⟩ := hS.ok _ _ _ hr
    split at h
    ·rename_i i
     cases hi : Nat.beq i id with
     | true =>
      rw [hi] at h
      have hi := Nat.eq_of_beq_eq_true hi
      subst hi
      simp only [cond_true, Option.some.injEq] at h
      subst h
      refine ⟨ho, fun ro hro e F H a w Q hE hf hs hfr hk => wpIn_block (hcode ro hro e F H a w _ hE hf hs hfr fun a' w' e' H' F' hmk hx hf' hE' hs' => ?_)⟩
      have := hk a' w' e' H' F' hmk hx hf' hE' hs'
      simp only [AEx.ex', Exit.inBlock, if_true]
      exact this
     | false =>
      rw [hi] at h
      have hi := Nat.ne_of_beq_eq_false hi
      simp only [cond_false, Option.some.injEq] at h
      subst h
      refine ⟨ho, fun ro hro e F H a w Q hE hf hs hfr hk => wpIn_block (hcode ro hro e F H a w _ hE hf hs hfr fun a' w' e' H' F' hmk hx hf' hE' hs' => ?_)⟩
      have := hk a' w' e' H' F' hmk hx hf' hE' hs'
      simp only [AEx.ex', Exit.inBlock, if_neg hi]
      exact this
    ·rename_i hne
     injection h with h; subst h
     refine ⟨ho, fun ro hro e F H a w Q hE hf hs hfr hk => wpIn_block (hcode ro hro e F H a w _ hE hf hs hfr fun a' w' e' H' F' hmk hx hf' hE' hs' => ?_)⟩
     have := hk a' w' e' H' F' hmk hx hf' hE' hs'
     cases ex with
     | nrm => exact this
     | ex i => exact absurd rfl (hne i)
     | ret => exact this
   ·rename_i b
    have h2 := hS.ok _ _ _ h
    cases r with
    | v v A2 => exact h2.elim
    | x ex2 T2 A2 =>
     obtain ⟨ho, m, hl⟩ := h2
     exact ⟨ho, fun ro hro e F H a w Q hE hf hs hfr hk => wpIn_loop_rounds m (hl ro hro e F H a w Q hE hf hs hfr hk)⟩
   ·injection h with h; subst h
    exact ⟨Out.refl _, fun ro hro e F H a w Q hE hf hs hfr hk => wpIn_exit (hk a w e H F (Mk.refl _ _) (fun _ _ => rfl) hf hE hs)⟩
   ·rename_i b
    have h2 := hS.ok _ _ _ h
    cases r with
    | v v A2 => exact h2.elim
    | x ex2 T2 A2 =>
     obtain ⟨ho, hcode⟩ := h2
     refine ⟨ho, fun ro hro e F H a w Q hE hf hs hfr hk => wpIn_scope_straight (hcode ro hro e F H a w _ hE hf hs hfr fun a' w' e' H' F' hmk hx hf' hE' hs' => ?_)⟩
     have := hk a' w' e' H' F' hmk hx hf' hE' hs'
     cases ex2 <;> exact this
   ·injection h with h; subst h
    exact ⟨Out.refl _, fun ro hro e F H a w Q hE hf hs hfr hk => wpIn_ret (hk a w e H F (Mk.refl _ _) (fun _ _ => rfl) hf hE hs)⟩
   ·cases rd with
    | true => cases h
    | false => exact evRng_ok hS h
  | loop rd c n T =>
   unfold evF evAgain at h
   dsimp only at h
   split at h <;> try (cases h; done)
   rename_i ex T' A' hr
   obtain ⟨ho, hcode⟩ := hS.ok _ _ _ hr
   split at h
   ·have h2 := hS.ok _ _ _ h
    cases r with
    | v v A2 => exact h2.elim
    | x ex2 T2 A2 =>
     obtain ⟨ho2, m, hl⟩ := h2
     refine ⟨ho.trans ho2, m + 1, fun ro hro e F H a w Q hE hf hs hfr hk => ?_⟩
     refine hcode ro hro e F H a w _ hE hf hs (hfr.left ho2.nx) fun a' w' e' H' F' hmk hx hf' hE' hs' => ?_
     exact hl ro hro e' F' H' a' w' Q hE' hf' hs' (hfr.right hx ho.nx) fun a2 w2 e2 H2 F2 hmk2 hx2 => hk a2 w2 e2 H2 F2 (hmk.trans hmk2) (hx.trans hx2 ho.nx ho2.nx)
   ·rename_i hne
    injection h with h; subst h
    refine ⟨ho, 1, fun ro hro e F H a w Q hE hf hs hfr hk => hcode ro hro e F H a w _ hE hf hs hfr fun a' w' e' H' F' hmk hx hf' hE' hs' => ?_⟩
    have := hk a' w' e' H' F' hmk hx hf' hE' hs'
    cases ex with
    | nrm => exact absurd rfl hne
    | ex i => exact this
    | ret => exact this
 ·unfold evF evCall evFn evRes at h
  dsimp only at h
  split at h
  ·rename_i v A' hp
   exact (hP.ok _ _ _ _ _ hp).2.2
  ·split at h <;> try (cases h; done)
   rename_i fn hfn
   rw [nth_some] at hfn
   have hfn : P.funcs[f]? = some fn := by simpa using hfn
   split at h <;> try (cases h; done)
   rename_i c T hc hT
   exact ⟨fn, hfn, by rw [hc]; rfl, hN f fn hfn⟩
def ev (P : Program) (I : Ids) (prim : FuncId → List AV → AS → Option (AV × AS)) : Nat → Tk → AS → Option Rs
 | 0 => fun _ _ => none
 | k + 1 => evF P I prim (ev P I prim k)
theorem ev_ok (hi : ∀ f, I.idx = some f → ExtOk P f Extern.BytealgIndexByte.indexByte) (hc : ∀ f, I.cnt = some f → ExtOk P f Extern.BytealgCount.count) (hP : PrimOk P C prim) (hN : ∀ (f : FuncId) (fn : Func), P.funcs[f]? = some fn → (fn.name == "runtime.NumGoroutine") = false) (hm : P.follows .mixedOrders = true) : ∀ k, SelfOk P C I (ev P I prim k)
 | 0 => ⟨fun tk A r h => (by simp [ev] at h), fun f args A r h => (by simp [ev] at h), hi, hc⟩
 | k + 1 => evF_ok (ev_ok hi hc hP hN hm k) hP hN hm
def isTrue : Option Rs → Bool
 | some (.v (.bool true) _) => true
 | _ => false
def evTop (P : Program) (I : Ids) (prim : FuncId → List AV → AS → Option (AV × AS)) (k : Nat) (f : FuncId) : Bool := isTrue (ev P I prim k (.call f []) ⟨.lf, 0, [], 0⟩)
theorem ev_closed (hi : ∀ f, I.idx = some f → ExtOk P f Extern.BytealgIndexByte.indexByte) (hc : ∀ f, I.cnt = some f → ExtOk P f Extern.BytealgCount.count) (hP : PrimOk P C prim) (hN : ∀ (f : FuncId) (fn : Func), P.funcs[f]? = some fn → (fn.name == "runtime.NumGoroutine") = false) (hm : P.follows .mixedOrders = true) {k : Nat} {f : FuncId} (h : evTop P I prim k f = true) (H : Heap) :
 Spec P C f [] H (fun u H2 => u = .bool true ∧ H.le H2) := by
 unfold evTop isTrue at h
 split at h <;> try (cases h; done)
 rename_i A' hr
 obtain ⟨ho, hcl⟩ := (ev_ok hi hc hP hN hm k).ok _ _ _ hr
 refine (hcl (fun _ => none) H H [] .nil ⟨Heap.le.refl H, fun k o hk => ?_, fun k k' o o' b c c' hk => ?_⟩ (fun _ _ _ => rfl)).mono fun u H2 ⟨e', _, hd, hE⟩ => ?_
 ·have := (AS.at_lt hk).1; dsimp only at this; omega
 ·have := (AS.at_lt hk).1; dsimp only at this; omega
 ·cases hd; exact ⟨rfl, hE.fle⟩
end
end Sx
end

noncomputable section
set_option linter.unusedVariables false
set_option linter.unusedSimpArgs false
namespace Sx
open Go
structure BIds where
 tb : TypeId
 te : TypeId
 wb : FuncId
 ws : FuncId
 st : FuncId
structure BldOk (P : Program) (C : Ctx) (I : BIds) : Prop where
 wb : ∀ (b : Nat) (bs : Str) (c : UInt8) (H : Heap) (Φ : Value → Heap → Prop), IsB I.tb I.te H b bs → bs.length + 1 ≤ 140737488355328 → Φ .nilIface (H.put b (.bld I.tb I.te (bs ++ [c]))) → Spec P C I.wb [pv (some (b, 0)), .int .u8 (c.toNat : Int)] H Φ
 ws : ∀ (b : Nat) (bs s : Str) (H : Heap) (Φ : Value → Heap → Prop), IsB I.tb I.te H b bs → bs.length + s.length ≤ 140737488355328 → Φ (.tuple #[.int .i64 (s.length : Int), .nilIface]) (H.put b (.bld I.tb I.te (bs ++ s))) → Spec P C I.ws [pv (some (b, 0)), sv s] H Φ
 st : ∀ (b : Nat) (bs : Str) (H : Heap) (Φ : Value → Heap → Prop), IsB I.tb I.te H b bs → bs.length ≤ 140737488355328 → Φ (sv bs) (H.put b (.bld I.tb I.te bs)) → Spec P C I.st [pv (some (b, 0))] H Φ
 okb : CallOk P I.wb
 oks : CallOk P I.ws
 okt : CallOk P I.st
end Sx
end

noncomputable section
set_option linter.unusedVariables false
set_option linter.unusedSimpArgs false
namespace Sx
open Go
def eqP : Option (Nat × Nat) → Option (Nat × Nat) → Bool
 | none, none => true
 | some p, some q => Nat.beq p.1 q.1 && Nat.beq p.2 q.2
 | _, _ => false
theorem eqP_ok {p q : Option (Nat × Nat)} (h : eqP p q = true) : p = q := by
 cases p <;> cases q <;> simp only [eqP, Bool.and_eq_true] at h <;> try (cases h; done)
 ·rfl
 ·rw [Prod.ext (Nat.eq_of_beq_eq_true h.1) (Nat.eq_of_beq_eq_true h.2)]
def eqCp : Cp → Cp → Bool
 | .n a, .n b => Nat.beq a b
 | .s a b, .s c d => Nat.beq a c && Nat.beq b d
 | _, _ => false
theorem eqCp_ok {p q : Cp} (h : eqCp p q = true) : p = q := by
 cases p <;> cases q <;> simp only [eqCp, Bool.and_eq_true] at h <;> try (cases h; done)
 ·rw [Nat.eq_of_beq_eq_true h]
 ·rw [Nat.eq_of_beq_eq_true h.1, Nat.eq_of_beq_eq_true h.2]
def eqN : Option Nat → Option Nat → Bool
 | none, none => true
 | some p, some q => Nat.beq p q
 | _, _ => false
theorem eqN_ok {p q : Option Nat} (h : eqN p q = true) : p = q := by
 cases p <;> cases q <;> simp only [eqN] at h <;> try (cases h; done)
 ·rfl
 ·rw [Nat.eq_of_beq_eq_true h]
def eqV : Nat → AV → AV → Bool
 | 0, _, _ => false
 | n + 1, v, w => match v, w with
  | .bool a, .bool b => eqB a b
  | .int k a, .int k' b => beqK k k' && eqI a b
  | .str a, .str b => eqL eqU a b
  | .ptr p, .ptr q => eqP p q
  | .sl p l c, .sl q m d => eqP p q && (Nat.beq l m && eqCp c d)
  | .emp, .emp => true
  | .map p, .map q => eqN p q
  | .fn (.func f) a b, .fn (.func g) c d => Nat.beq f g && (eqL (eqV n) a c && eqL (eqV n) b d)
  | .nilF, .nilF => true
  | .nilI, .nilI => true
  | .agg a, .agg b => eqL (eqV n) a b
  | .tup a, .tup b => eqL (eqV n) a b
  | _, _ => false
theorem eqV_ok : ∀ (n : Nat) (v w : AV), eqV n v w = true → v = w
 | 0, v, w, h => by simp [eqV] at h
 | n + 1, v, w, h => by
  have ih := eqV_ok n
  unfold eqV at h
  split at h <;> try (cases h; done)
  ·rw [eqB_ok h]
  ·simp only [Bool.and_eq_true] at h
   rw [of_decide_eq_true h.1, eqI_ok h.2]
  ·rw [eqL_ok eqU_ok h]
  ·rw [eqP_ok h]
  ·simp only [Bool.and_eq_true] at h
   rw [eqP_ok h.1, Nat.eq_of_beq_eq_true h.2.1, eqCp_ok h.2.2]
  ·rfl
  ·rw [eqN_ok h]
  ·simp only [Bool.and_eq_true] at h
   rw [Nat.eq_of_beq_eq_true h.1, eqL_ok ih h.2.1, eqL_ok ih h.2.2]
  ·rfl
  ·rfl
  ·rw [eqL_ok ih h]
  ·rw [eqL_ok ih h]
def eqME (x y : ME) : Bool := match x, y with
 | (a, b, c), (a', b', c') => eqV 9 a a' && (eqV 9 b b' && Nat.beq c c')
theorem eqME_ok (x y : ME) (h : eqME x y = true) : x = y := by
 obtain ⟨a, b, c⟩ := x
 obtain ⟨a', b', c'⟩ := y
 simp only [eqME, Bool.and_eq_true] at h
 rw [eqV_ok 9 _ _ h.1, eqV_ok 9 _ _ h.2.1, Nat.eq_of_beq_eq_true h.2.2]
def eqO : AO → AO → Bool
 | .row a, .row b => eqL (eqV 9) a b
 | .opn z n a, .opn z' n' b => Nat.beq z z' && (Nat.beq n n' && eqL (eqV 9) a b)
 | .bld t e a, .bld t' e' b => Nat.beq t t' && (Nat.beq e e' && eqL eqU a b)
 | .map a c, .map b d => Nat.beq c d && eqL eqME a b
 | _, _ => false
theorem eqO_ok {a b : AO} (h : eqO a b = true) : a = b := by
 unfold eqO at h
 split at h <;> try (cases h; done)
 ·rw [eqL_ok (eqV_ok 9) h]
 ·simp only [Bool.and_eq_true] at h
  rw [Nat.eq_of_beq_eq_true h.1, Nat.eq_of_beq_eq_true h.2.1, eqL_ok (eqV_ok 9) h.2.2]
 ·simp only [Bool.and_eq_true] at h
  rw [Nat.eq_of_beq_eq_true h.1, Nat.eq_of_beq_eq_true h.2.1, eqL_ok eqU_ok h.2.2]
 ·simp only [Bool.and_eq_true] at h
  rw [Nat.eq_of_beq_eq_true h.1, eqL_ok eqME_ok h.2]
/-- no name from nx on is told -/
def chkT {α : Type} (nx : Nat) : TN α → Nat → Nat → Bool
 | .lf, _, _ => true
 | .nd l r v, off, mul => (match v with | some _ => Nat.blt off nx | none => true) && (chkT nx l (off + mul) (2 * mul) && chkT nx r (off + 2 * mul) (2 * mul))
def keyP : List Bool → Nat
 | [] => 0
 | b :: p => 2 * keyP p + (bif b then 1 else 2)
theorem bitsF_key : ∀ {f k : Nat} {p : List Bool}, bitsF f k = some p → keyP p = k
 | 0, k, p, h => by simp [bitsF] at h
 | f + 1, 0, p, h => by simp only [bitsF, Option.some.injEq] at h; subst h; rfl
 | f + 1, k + 1, p, h => by
  simp only [bitsF] at h
  split at h <;> try (cases h; done)
  rename_i l hl
  injection h with h; subst h
  have ih := bitsF_key hl
  simp only [keyP, ih]
  cases hb : Nat.beq (k % 2) 0 with
  | true => have := Nat.eq_of_beq_eq_true hb; simp only [cond_true]; omega
  | false => have := Nat.ne_of_beq_eq_false hb; simp only [cond_false]; omega
theorem chkT_ok {α : Type} {nx : Nat} : ∀ {p : List Bool} {t : TN α} {off mul : Nat} {x : α}, chkT nx t off mul = true → TN.getPc p t = some x → off + mul * keyP p < nx
 | [], .lf, off, mul, x, _, h => by simp [TN.getPc] at h
 | [], .nd l r v, off, mul, x, hc, h => by
  simp only [TN.getPc] at h
  subst h
  simp only [chkT, Bool.and_eq_true] at hc
  have := blt_t hc.1
  simpa [keyP] using this
 | b :: p, .lf, off, mul, x, _, h => by simp [TN.getPc] at h
 | b :: p, .nd l r v, off, mul, x, hc, h => by
  simp only [TN.getPc] at h
  simp only [chkT, Bool.and_eq_true] at hc
  cases b with
  | true =>
   have := chkT_ok hc.2.1 h
   simp only [keyP, cond_true]
   rw [Nat.mul_add, Nat.mul_one]
   have e : 2 * mul * keyP p = mul * (2 * keyP p) := by rw [Nat.mul_comm 2 mul, Nat.mul_assoc]
   omega
  | false =>
   have := chkT_ok hc.2.2 h
   simp only [keyP, cond_false]
   rw [Nat.mul_add]
   have e : 2 * mul * keyP p = mul * (2 * keyP p) := by rw [Nat.mul_comm 2 mul, Nat.mul_assoc]
   omega
theorem tn_under {α : Type} {nx k : Nat} {t : TN α} {x : α} (hc : chkT nx t 0 1 = true) (h : t.get k = some x) : k < nx := by
 unfold TN.get at h
 split at h <;> try (cases h; done)
 rename_i p hp
 rw [TN.getPe] at h
 have := chkT_ok hc h
 rw [bitsF_key hp] at this
 omega
def putL {α : Type} : List (Nat × Option α) → TN α → Option (TN α)
 | [], t => some t
 | x :: l, t => match t.set 40 x.1 x.2 with
  | some t' => putL l t'
  | none => none
theorem putL_get {α : Type} {k : Nat} {o : α} : ∀ {l : List (Nat × Option α)} {t t' : TN α}, putL l t = some t' → t'.get k = some o → (k, some o) ∈ l ∨ (t.get k = some o ∧ ∀ x ∈ l, x.1 ≠ k)
 | [], t, t', h, hg => by simp only [putL, Option.some.injEq] at h; subst h; exact .inr ⟨hg, fun x hx => by cases hx⟩
 | x :: l, t, t', h, hg => by
  simp only [putL] at h
  split at h <;> try (cases h; done)
  rename_i t1 h1
  rcases putL_get h hg with q | ⟨q1, q2⟩
  ·exact .inl (List.mem_cons_of_mem _ q)
  ·rw [TN.set_get _ _ _ _ _ h1] at q1
   split at q1
   ·rename_i hk
    obtain ⟨j, v⟩ := x
    dsimp only at hk q1
    subst hk; subst q1
    exact .inl (List.mem_cons_self ..)
   ·rename_i hk
    refine .inr ⟨q1, fun y hy => ?_⟩
    rcases List.mem_cons.1 hy with rfl | hy
    ·exact fun e => hk e.symm
    ·exact q2 y hy
end Sx
end

noncomputable section
set_option linter.unusedVariables false
set_option linter.unusedSimpArgs false
namespace Sx
open Go
/-- a call that was evaluated by itself: what it looks at, and what it leaves -/
structure Memo where
 f : FuncId
 args : List AV
 pre : List (Nat × AO)
 nx : Nat
 v : AV
 post : List (Nat × AO)
 nx' : Nat
 lo : Nat
def someL : List (Nat × AO) → List (Nat × Option AO)
 | [] => []
 | x :: l => (x.1, some x.2) :: someL l
def dropL (lo : Nat) : List (Nat × AO) → List (Nat × Option AO)
 | [] => []
 | x :: l => bif Nat.ble lo x.1 then (x.1, none) :: dropL lo l else dropL lo l
theorem mem_someL {k : Nat} {o : AO} : ∀ {l : List (Nat × AO)}, (k, some o) ∈ someL l → (k, o) ∈ l
 | [], h => by cases h
 | x :: l, h => by
  simp only [someL, List.mem_cons] at h
  rcases h with h | h
  ·injection h with h1 h2; injection h2 with h2
   subst h1; subst h2; exact List.mem_cons_self ..
  ·exact List.mem_cons_of_mem _ (mem_someL h)
theorem key_someL {x : Nat × Option AO} : ∀ {l : List (Nat × AO)}, x ∈ someL l → ∃ o, (x.1, o) ∈ l
 | [], h => by cases h
 | y :: l, h => by
  simp only [someL, List.mem_cons] at h
  rcases h with h | h
  ·subst h; exact ⟨y.2, List.mem_cons_self ..⟩
  ·obtain ⟨o, ho⟩ := key_someL h
   exact ⟨o, List.mem_cons_of_mem _ ho⟩
theorem mem_dropL {lo : Nat} {x : Nat × Option AO} : ∀ {l : List (Nat × AO)}, x ∈ dropL lo l → x.2 = none ∧ lo ≤ x.1
 | [], h => by cases h
 | y :: l, h => by
  simp only [dropL] at h
  cases hb : Nat.ble lo y.1 with
  | true =>
   rw [hb] at h
   simp only [cond_true, List.mem_cons] at h
   rcases h with h | h
   ·subst h; exact ⟨rfl, ble_t hb⟩
   ·exact mem_dropL h
  | false => rw [hb] at h; exact mem_dropL h
theorem dropL_of {lo k : Nat} {o : AO} : ∀ {l : List (Nat × AO)}, (k, o) ∈ l → lo ≤ k → (k, none) ∈ dropL lo l
 | [], h, _ => by cases h
 | y :: l, h, hk => by
  simp only [dropL]
  rcases List.mem_cons.1 h with h | h
  ·subst h
   have : Nat.ble lo k = true := Nat.ble_eq_true_of_le hk
   dsimp only
   rw [this]; exact List.mem_cons_self ..
  ·have ih := dropL_of h hk
   cases Nat.ble lo y.1 with
   | true => exact List.mem_cons_of_mem _ ih
   | false => exact ih
theorem putL_ne {α : Type} {k : Nat} : ∀ {l : List (Nat × Option α)} {t t' : TN α}, putL l t = some t' → (∀ x ∈ l, x.1 ≠ k) → t'.get k = t.get k
 | [], t, t', h, _ => by simp only [putL, Option.some.injEq] at h; subst h; rfl
 | x :: l, t, t', h, hn => by
  simp only [putL] at h
  split at h <;> try (cases h; done)
  rename_i t1 h1
  rw [putL_ne h fun y hy => hn y (List.mem_cons_of_mem _ hy), TN.set_get _ _ _ _ _ h1, if_neg fun e => hn x (List.mem_cons_self ..) e.symm]
def hasL (A : AS) : List (Nat × AO) → Bool
 | [] => true
 | x :: l => (match A.at_ x.1 with | some o => eqO o x.2 | none => false) && hasL A l
theorem hasL_ok {A : AS} {k : Nat} {o : AO} : ∀ {l : List (Nat × AO)}, hasL A l = true → (k, o) ∈ l → A.at_ k = some o
 | [], _, h => by cases h
 | x :: l, hl, h => by
  simp only [hasL, Bool.and_eq_true] at hl
  rcases List.mem_cons.1 h with h | h
  ·subst h
   have h1 := hl.1
   dsimp only at h1
   split at h1
   ·rename_i o' ho; rw [ho, eqO_ok h1]
   ·cases h1
  ·exact hasL_ok hl.2 h
def fromL (lo : Nat) : List (Nat × AO) → Bool
 | [] => true
 | x :: l => Nat.ble lo x.1 && fromL lo l
theorem fromL_ok {lo : Nat} {x : Nat × AO} : ∀ {l : List (Nat × AO)}, fromL lo l = true → x ∈ l → lo ≤ x.1
 | [], _, h => by cases h
 | y :: l, hl, h => by
  simp only [fromL, Bool.and_eq_true] at hl
  rcases List.mem_cons.1 h with h | h
  ·subst h; exact ble_t hl.1
  ·exact fromL_ok hl.2 h
def preAS (m : Memo) : Option AS := match putL (someL m.pre) .lf with
 | some h => some ⟨h, m.nx, [], m.nx⟩
 | none => none
def MemoS (P : Program) (C : Ctx) (m : Memo) : Prop := ∃ A0 A1, preAS m = some A0 ∧ Out A0 A1 ∧ CallS P C m.f m.args A0 m.v A1 ∧ CallOk P m.f ∧ A1.nx = m.nx' ∧ m.lo ≤ A1.lo ∧ hasL A1 m.post = true
def memoA (m : Memo) (f : FuncId) (args : List AV) (A : AS) : Option (AV × AS) :=
 bif Nat.beq f m.f && (Nat.beq A.nx m.nx && (eqL (eqV 9) args m.args && (hasL A m.pre && (fromL m.lo m.post && (Nat.ble m.lo m.nx && chkT A.nx A.h 0 1))))) then
  (match putL (dropL m.lo m.pre ++ someL m.post) A.h with
  | some h => some (m.v, ⟨h, m.nx', A.hid, bif Nat.blt m.lo A.lo then m.lo else A.lo⟩)
  | none => none)
 else none
theorem minlo {a b : Nat} : (bif Nat.blt a b then a else b) ≤ b ∧ (bif Nat.blt a b then a else b) ≤ a := by
 cases h : Nat.blt a b with
 | true => have := blt_t h; simp only [cond_true]; omega
 | false => have := blt_f h; simp only [cond_false]; omega
open Classical in
theorem memoA_ok {P : Program} {C : Ctx} {m : Memo} (hm : MemoS P C m) {f : FuncId} {args : List AV} {A A' : AS} {v : AV} (h : memoA m f args A = some (v, A')) : Out A A' ∧ CallS P C f args A v A' ∧ CallOk P f := by
 obtain ⟨A0, A1, hp, ho, hc, hok, hn1, hlo1, hpost⟩ := hm
 unfold memoA at h
 cases hb : Nat.beq f m.f && (Nat.beq A.nx m.nx && (eqL (eqV 9) args m.args && (hasL A m.pre && (fromL m.lo m.post && (Nat.ble m.lo m.nx && chkT A.nx A.h 0 1))))) with
 | false => rw [hb] at h; cases h
 | true =>
 rw [hb] at h
 simp only [Bool.and_eq_true] at hb
 obtain ⟨b1, b2, b3, b4, b5, b6, b7⟩ := hb
 have b1 := Nat.eq_of_beq_eq_true b1
 have b2 := Nat.eq_of_beq_eq_true b2
 have b3 := eqL_ok (eqV_ok 9) b3
 have b6 := ble_t b6
 subst b1; subst b3
 simp only [cond_true] at h
 split at h <;> try (cases h; done)
 rename_i h' hput
 injection h with h; injection h with h1 h2; subst h1; subst h2
 unfold preAS at hp
 split at hp <;> try (cases hp; done)
 rename_i h0 hput0
 injection hp with hp; subst hp
 have hnx : m.nx ≤ m.nx' := by have := ho.nx; rw [hn1] at this; exact this
 -- what the call by itself saw is there
 have pre : ∀ k o, (⟨h0, m.nx, [], m.nx⟩ : AS).at_ k = some o → (k, o) ∈ m.pre := fun k o hk => by
  obtain ⟨_, _, h3⟩ := AS.at_lt hk
  rcases putL_get hput0 h3 with q | ⟨q, _⟩
  ·exact mem_someL q
  ·rw [TN.get_lf] at q; cases q
 have see : ∀ k o, (⟨h0, m.nx, [], m.nx⟩ : AS).at_ k = some o → A.at_ k = some o := fun k o hk => hasL_ok b4 (pre k o hk)
 refine ⟨⟨by dsimp only; omega, rfl, minlo.1, fun k hk hkn => ?_⟩, fun e F H us hd hE hfr => ?_, hok⟩
 ·have hkl : k < m.lo := Nat.lt_of_lt_of_le hk minlo.2
  refine putL_ne hput fun x hx e => ?_
  rcases List.mem_append.1 hx with hx | hx
  ·have := (mem_dropL hx).2; omega
  ·obtain ⟨o, ho⟩ := key_someL hx
   have := fromL_ok b5 ho
   dsimp only at this; omega
 ·let F' : Heap := fun b => if ∃ k o c, (⟨h0, m.nx, [], m.nx⟩ : AS).at_ k = some o ∧ e k = some (b, c) then none else H b
  have F'no : ∀ b, (∃ k o c, (⟨h0, m.nx, [], m.nx⟩ : AS).at_ k = some o ∧ e k = some (b, c)) → F' b = none := fun b hb => by simp only [F']; rw [if_pos hb]
  have F'yes : ∀ b, ¬ (∃ k o c, (⟨h0, m.nx, [], m.nx⟩ : AS).at_ k = some o ∧ e k = some (b, c)) → F' b = H b := fun b hb => by simp only [F']; rw [if_neg hb]
  have hE0 : Emb e F' ⟨h0, m.nx, [], m.nx⟩ H := by
   refine ⟨fun b x hb => ?_, fun k o hk => ?_, fun k k' o o' b c c' h1 h2 => hE.inj k k' o o' b c c' (see k o h1) (see k' o' h2)⟩
   ·by_cases hq : ∃ k o c, (⟨h0, m.nx, [], m.nx⟩ : AS).at_ k = some o ∧ e k = some (b, c)
    ·rw [F'no b hq] at hb; cases hb
    ·rw [F'yes b hq] at hb; exact hb
   ·obtain ⟨b, c, g, g1, g2, g3, g4⟩ := hE.at_ k o (see k o hk)
    exact ⟨b, c, g, g1, g2, g3, F'no b ⟨k, o, c, hk, g1⟩⟩
  have F'F : ∀ b x, F b = some x → F' b = some x := fun b x hb => by
   rw [F'yes b fun ⟨k, o, c, q1, q2⟩ => by
    obtain ⟨b', c', g, g1, _, _, g4⟩ := hE.at_ k o (see k o q1)
    rw [q2] at g1; injection g1 with g1; injection g1 with g1 _; subst g1
    rw [hb] at g4; cases g4]
   exact hE.fle b x hb
  have hfr' : Free e m.nx A1.nx := by rw [hn1, ← b2]; exact hfr
  refine (hc e F' H us hd hE0 hfr').mono fun u H' ⟨e', hx, hv, hE'⟩ => ⟨e', ?_, hv, ?_⟩
  ·rw [hn1] at hx; dsimp only; rw [b2]; exact hx
  ·have hx : EnvX e e' m.nx A1.nx := hx
   have hle := hx.le hfr'
   -- a name behind: one of the call's, or one that it did not see
   have split : ∀ k o, (⟨h', m.nx', A.hid, bif Nat.blt m.lo A.lo then m.lo else A.lo⟩ : AS).at_ k = some o → A1.at_ k = some o ∨ (A.at_ k = some o ∧ (⟨h0, m.nx, [], m.nx⟩ : AS).at_ k = none ∧ e' k = e k) := fun k o hk => by
    obtain ⟨k1, k2, k3⟩ := AS.at_lt hk
    dsimp only at k1 k2 k3
    rcases putL_get hput k3 with q | ⟨q1, q2⟩
    ·rcases List.mem_append.1 q with q | q
     ·have := (mem_dropL q).1; cases this
     ·exact .inl (hasL_ok hpost (mem_someL q))
    ·have hkn := tn_under b7 q1
     have hA : A.at_ k = some o := AS.at_of hkn k2 q1
     cases hk0 : (⟨h0, m.nx, [], m.nx⟩ : AS).at_ k with
     | none => exact .inr ⟨hA, rfl, hx k (.inl (by omega))⟩
     | some o' =>
      have hq := see k o' hk0
      rw [hA] at hq; injection hq with hq; subst hq
      left
      have hkl : k < m.lo := by
       rcases Nat.lt_or_ge k m.lo with hl | hl
       ·exact hl
       ·exact absurd rfl (q2 (k, none) (List.mem_append_left _ (dropL_of (pre k o hk0) hl)))
      obtain ⟨z1, z2, z3⟩ := AS.at_lt hk0
      refine AS.at_of (by rw [hn1]; exact k1) (by rw [ho.hid]; rfl) ?_
      rw [ho.same k (by omega) z1]; exact z3
   have away : ∀ k o b c, A.at_ k = some o → (⟨h0, m.nx, [], m.nx⟩ : AS).at_ k = none → e k = some (b, c) → F' b = H b := fun k o b c hk hn hb => F'yes b fun ⟨k', o2, c', q1, q2⟩ => by
    have := hE.inj k k' o o2 b c c' hk (see k' o2 q1) hb q2
    subst this
    rw [hn] at q1; cases q1
   refine ⟨fun b x hb => hE'.fle b x (F'F b x hb), fun k o hk => ?_, fun k k' o1 o2 b c c' h3 h4 h5 h6 => ?_⟩
   ·rcases split k o hk with q | ⟨q1, q2, q3⟩
    ·obtain ⟨b, c, g, g1, g2, g3, g4⟩ := hE'.at_ k o q
     refine ⟨b, c, g, g1, g2, g3, ?_⟩
     cases hF : F b with
     | none => rfl
     | some x => rw [F'F b x hF] at g4; cases g4
    ·obtain ⟨b, c, g, g1, g2, g3, g4⟩ := hE.at_ k o q1
     refine ⟨b, c, g, by rw [q3]; exact g1, g2.le hle, ?_, g4⟩
     exact hE'.fle _ _ (by rw [away k o b c q1 q2 g1]; exact g3)
   ·rcases split k o1 h3 with q | ⟨q1, q2, q3⟩ <;> rcases split k' o2 h4 with q' | ⟨q1', q2', q3'⟩
    ·exact hE'.inj k k' o1 o2 b c c' q q' h5 h6
    ·rw [q3'] at h6
     obtain ⟨b1, c1, g, g1, _, _, g4⟩ := hE'.at_ k o1 q
     rw [h5] at g1; injection g1 with g1; injection g1 with g1 _; subst g1
     obtain ⟨b2, c2, g', g1', _, g3', _⟩ := hE.at_ k' o2 q1'
     rw [h6] at g1'; injection g1' with g1'; injection g1' with g1' _; subst g1'
     rw [away k' o2 b c' q1' q2' h6, g3'] at g4; cases g4
    ·rw [q3] at h5
     obtain ⟨b1, c1, g, g1, _, _, g4⟩ := hE'.at_ k' o2 q'
     rw [h6] at g1; injection g1 with g1; injection g1 with g1 _; subst g1
     obtain ⟨b2, c2, g', g1', _, g3', _⟩ := hE.at_ k o1 q1
     rw [h5] at g1'; injection g1' with g1'; injection g1' with g1' _; subst g1'
     rw [away k o1 b c q1 q2 h5, g3'] at g4; cases g4
    ·rw [q3] at h5; rw [q3'] at h6
     exact hE.inj k k' o1 o2 b c c' q1 q1' h5 h6
/-- a table of calls -/
def memosA : List Memo → FuncId → List AV → AS → Option (AV × AS)
 | [], _, _, _ => none
 | m :: l, f, args, A => bif Nat.beq f m.f && Nat.beq A.nx m.nx then memoA m f args A else memosA l f args A
theorem memos_ok {P : Program} {C : Ctx} : ∀ {l : List Memo}, (∀ m ∈ l, MemoS P C m) → PrimOk P C (memosA l)
 | [], _ => ⟨fun f args A v A' h => by cases h⟩
 | m :: l, hm => ⟨fun f args A v A' h => by
  simp only [memosA] at h
  cases hb : Nat.beq f m.f && Nat.beq A.nx m.nx with
  | true => rw [hb] at h; exact memoA_ok (hm m (List.mem_cons_self ..)) h
  | false => rw [hb] at h; exact (memos_ok fun m' h' => hm m' (List.mem_cons_of_mem _ h')).ok f args A v A' h⟩
end Sx
end

