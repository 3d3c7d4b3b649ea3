/-
  A region that asks in which order: what only looks is taken first, what acts comes when nothing else may.
-/
import Derived.Test.YtlpjpjbgfffffaaDoorSxAll
import Derived.OrdersHeld
set_option linter.unusedVariables false
namespace Sx
open Go

/-- a region that asks in which order: Hs: what its looks lean on, kept by all that acts -/
def dr (H : Heap) (K : Heap → Prop) : Prop := ∃ Hs, Heap.le Hs H ∧ K Hs

def GA (P : Program) (C : Ctx) (ops : Array Oper) (Q : Exit → Act → World → Prop) (n : Nat) (fuel : Nat) (listed : Array Bool) (l : List (Nat × Value)) (H Hs : Heap) : Prop :=
  ∀ a w, Fr n l a → St C w H → St C w Hs → wpAnyH P .any ops Q (fun w => St C w Hs) fuel listed a w

section
variable {P : Program} {C : Ctx} {Q : Exit → Act → World → Prop} {n : Nat} {l : List (Nat × Value)} {H Hs : Heap} {ops : Array Oper} {fuel : Nat} {listed : Array Bool} {d : Nat} {op : Op} {ty : TypeId} {pos : String} {after : Array Edge} {g : Option (Nat × Bool)}

theorem GC.any {id : Nat} {ops : List Oper} (hm : P.follows .mixedOrders = true) (hle : Hs.le H) (k : GA P C ops.toArray Q n ops.toArray.size (Array.replicate ops.toArray.size false) l H Hs) : GC P C Q n (.region id ops.toArray true) l H :=
  fun a w hf hs => wp_region_held hm (k a _ hf hs.drew (hs.drew.weaken hle))

theorem GA.take (i : Nat) {v : Value} (hi : ops[i]? = some ⟨some d, op, ty, pos, after, g⟩) (hs : Region.noSelect ops = true) (hf : Region.free .any ops listed i = true) (hr : (Region.ready .any ops listed).contains i = true)
    (hQ : ∀ c a w, Q (.panic c) a w → False) (hw : Wt ops l g) (hd : Nat.blt d n = true) (hv : OV P C n l Hs ⟨some d, op, ty, pos, after, g⟩ v)
    (k : GA P C ops Q n fuel (listed.setIfInBounds i true) ((d, v) :: l) H Hs) : GA P C ops Q n (fuel + 1) listed l H Hs := by
  intro a w hfr hst hss
  exact wpAnyH_take hi hs hf hr (fun c a w h => (hQ c _ w h).elim) (.inl ⟨hw.wanted (o := ⟨some d, op, ty, pos, after, g⟩) rfl hfr, fun w' hw' => hv a w' hfr hw'⟩) hss (k _ w (hfr.put hd) hst hss)

theorem GA.skip (i : Nat) (hi : ops[i]? = some ⟨some d, op, ty, pos, after, g⟩) (hs : Region.noSelect ops = true) (hf : Region.free .any ops listed i = true) (hr : (Region.ready .any ops listed).contains i = true)
    (hQ : ∀ c a w, Q (.panic c) a w → False) (hw : Wn ops l g) (hd : Nat.blt d n = true)
    (k : GA P C ops Q n fuel (listed.setIfInBounds i true) ((d, undef) :: l) H Hs) : GA P C ops Q n (fuel + 1) listed l H Hs := by
  intro a w hfr hst hss
  exact wpAnyH_take hi hs hf hr (fun c a w h => (hQ c _ w h).elim) (.inr ⟨hw.wanted (o := ⟨some d, op, ty, pos, after, g⟩) rfl hfr, rfl⟩) hss (k _ w (hfr.put hd) hst hss)

theorem GA.eff (i : Nat) {o : Oper} (hi : ops[i]? = some o) (hr : Region.ready .any ops listed = [i])
    (k : GL P C ops (Exit.then (fun a w => St C w Hs ∧ wpAnyH P .any ops Q (fun w => St C w Hs) fuel (listed.setIfInBounds i true) a w) Q) n [o] l H) : GA P C ops Q n (fuel + 1) listed l H Hs := by
  intro a w hfr hst hss
  refine wpAnyH_all hr (by simp) fun j hj => ?_
  have hji : j = i := by simpa using hj
  subst hji
  have h := k a w hfr hst
  unfold wpOp
  simp only [hi]
  simp only [wpList] at h
  split
  · rename_i hw
    rw [if_pos hw] at h
    rcases h with h | ⟨h1, a0, w0, h2⟩
    · refine .inl ?_
      unfold Oper.wp at h ⊢
      generalize (execOp a.eval o).run P w = r at *
      cases r with
      | ok nx w' =>
        cases nx <;> simp only [Oper.upon] at h ⊢ <;>
          first
            | exact h
            | exact Calls.mono h (fun e w'' he => by
                cases e with
                | returned v => exact he
                | panicked c => exact he
                | outgrown => obtain ⟨a0, w0, h3⟩ := he; exact ⟨a0, w0, h3⟩)
      | halt hh w' => cases hh <;> simp only [Oper.upon] at h ⊢ <;> exact h
    · exact .inr ⟨h1, a0, w0, h2⟩
  · rename_i hw
    rw [if_neg hw] at h
    exact h

theorem GA.back {fuel' : Nat} {listed' : Array Bool} (hle : Hs.le H) (k : GA P C ops Q n fuel' listed' l H Hs) :
    GL P C ops (Exit.then (fun a w => St C w Hs ∧ wpAnyH P .any ops Q (fun w => St C w Hs) fuel' listed' a w) Q) n [] l H :=
  fun a w hf hs => ⟨hs.weaken hle, k a w hf hs (hs.weaken hle)⟩

theorem GA.done (hr : Region.ready .any ops listed = []) (k : GL P C ops Q n [] l H) : GA P C ops Q n fuel listed l H Hs :=
  fun a w hf hs _ => wpAnyH_done hr (k a w hf hs) fuel

theorem GA.sub (l' : List (Nat × Value)) (hs : Sub l l') (k : GA P C ops Q n fuel listed l' H Hs) : GA P C ops Q n fuel listed l H Hs := fun a w hf hw => k a w (hf.sub hs) hw

/-! the same, with a tail that is forced: what its first operation does need not keep what the looks lean on -/
def wpHd (P : Program) (ops : Array Oper) (Q : Exit → Act → World → Prop) (S : World → Prop) (t : Nat) : Nat → Array Bool → Act → World → Prop
  | 0, listed, a, w => Region.seqB .any ops (ops.size - t) t listed = true ∧ wpList P ops Q (ops.toList.drop t) a w
  | f + 1, listed, a, w => Region.ready .any ops listed ≠ [] ∧ ∀ i ∈ Region.ready .any ops listed, i < t ∧ wpOp P ops Q i (fun a' w' => S w' ∧ wpHd P ops Q S t f (listed.setIfInBounds i true) a' w') a w

theorem wpAny_of_hd {S : World → Prop} {t : Nat} : ∀ (f : Nat) (listed : Array Bool) (a : Act) (w : World), wpHd P ops Q S t f listed a w → wpAny P .any ops Q (f + (ops.size - t)) listed a w
  | 0, listed, a, w, h => by
    rw [Nat.zero_add]
    have h2 := wpAny_of_seq (P := P) (ops := ops) (md := .any) (Q' := Q) (ops.toList.drop t) t listed a w (fun j => by simp) (by simpa using h.1) h.2
    simpa using h2
  | f + 1, listed, a, w, h => by
    rw [show f + 1 + (ops.size - t) = (f + (ops.size - t)) + 1 by omega]
    exact ⟨fun h0 => absurd h0 h.1, fun i hi => wpOp_mono (fun a' w' h' => wpAny_of_hd f _ a' w' h'.2) (h.2 i hi).2⟩

theorem wpHd_take {S : World → Prop} {t i : Nat} {oi : Oper} {v : Value} (hi : ops[i]? = some oi) (hsel : ∀ (j : Nat) (o : Oper) cs b, ops[j]? = some o → o.op ≠ .select cs b)
    (hs : Region.sinkB .any ops t = true) (hc : Region.chainB .any ops t = true) (ht : t < ops.size) (hit : i < t)
    (hQ : ∀ c a w, Q (.panic c) (a.put oi.dst v) w → Q (.panic c) a w) : ∀ (f : Nat) (listed : Array Bool) (a : Act) (w : World), HeadInv .any ops t listed →
      (∀ j oj, ops[j]? = some oj → j ≠ i → listed.getD j true = false → (∀ e ∈ oj.after, Region.binds .any e = true → e.on ≠ i) → oi.apart ops oj = true) →
      i ∈ Region.ready .any ops listed → YieldsIf P ops S oi v a → S w →
      wpHd P ops Q S t f (listed.setIfInBounds i true) (a.put oi.dst v) w → wpHd P ops Q S t (f + 1) listed a w := by
  intro f
  induction f with
  | zero =>
    intro listed a w inv _ hr hy hS h
    have hun := (mem_ready.1 hr).1
    refine ⟨fun h0 => (by rw [h0] at hr; cases hr), fun j hj => ?_⟩
    have hjt : j < t := by
      rcases Nat.lt_or_ge j t with h1 | h1
      · exact h1
      · exact absurd hj (tail_waits hs hc ht inv _ i rfl hit hun j h1)
    refine ⟨hjt, ?_⟩
    by_cases hji : j = i
    · subst hji; exact hy.wpOp hi hS ⟨hS, h⟩
    · have := seqB_ready h.1 j (ready_mono hj hji)
      omega
  | succ f ih =>
    intro listed a w inv hfree hr hy hS h
    have hun := (mem_ready.1 hr).1
    refine ⟨fun h0 => (by rw [h0] at hr; cases hr), fun j hj => ?_⟩
    have hjt : j < t := by
      rcases Nat.lt_or_ge j t with h1 | h1
      · exact h1
      · exact absurd hj (tail_waits hs hc ht inv _ i rfl hit hun j h1)
    refine ⟨hjt, ?_⟩
    by_cases hji : j = i
    · subst hji; exact hy.wpOp hi hS ⟨hS, h⟩
    · have h1 := (h.2 j (ready_mono hj hji)).2
      obtain ⟨hjun, oj, hoj, hall⟩ := mem_ready.1 hj
      have hnot : ∀ e ∈ oj.after, Region.binds .any e = true → e.on ≠ i := fun e he hb heq => by
        have h2 := hall e he hb
        rw [heq, getD_both hun] at h2
        cases h2
      have h2 := wpOp_putIf hoj (hfree j oj hoj hji hjun hnot) (fun cs b => hsel i oi cs b hi) (fun cs b => hsel j oj cs b hoj) hQ hy h1
      have hfree' : ∀ k ok, ops[k]? = some ok → k ≠ i → (listed.setIfInBounds j true).getD k true = false → (∀ e ∈ ok.after, Region.binds .any e = true → e.on ≠ i) → oi.apart ops ok = true := fun k ok hk hki hun' hno => by
        refine hfree k ok hk hki ?_ hno
        by_cases hjk : j = k
        · subst hjk; exact hjun
        · rw [getD_set_ne true hjk] at hun'; exact hun'
      refine wpOp_mono (fun a' w' h3 => ⟨h3.2.1, ih (listed.setIfInBounds j true) a' w' (inv.set hj hjt) hfree' (ready_mono hr (Ne.symm hji)) h3.1 h3.2.1 ?_⟩) h2
      rw [Array.setIfInBounds_comm _ _ hji]
      exact h3.2.2

def GT (P : Program) (C : Ctx) (ops : Array Oper) (Q : Exit → Act → World → Prop) (n t : Nat) (fuel : Nat) (listed : Array Bool) (l : List (Nat × Value)) (H Hs : Heap) : Prop :=
  ∀ a w, Fr n l a → St C w H → St C w Hs → HeadInv .any ops t listed → wpHd P ops Q (fun w => St C w Hs) t fuel listed a w

def tailOk (ops : Array Oper) (t : Nat) : Bool := Region.noSelect ops && decide (t < ops.size) && Region.sinkB .any ops t && Region.chainB .any ops t

theorem GC.tail {id : Nat} {ops : List Oper} (t : Nat) (hm : P.follows .mixedOrders = true) (hle : Hs.le H) (hB : tailOk ops.toArray t = true) (k : GT P C ops.toArray Q n t t (Array.replicate ops.toArray.size false) l H Hs) :
    GC P C Q n (.region id ops.toArray true) l H := by
  intro a w hf hs
  simp only [tailOk, Bool.and_eq_true, decide_eq_true_eq] at hB
  obtain ⟨⟨⟨h1, h2⟩, h3⟩, h4⟩ := hB
  have inv0 : HeadInv .any ops.toArray t (Array.replicate ops.toArray.size false) :=
    ⟨by simp, fun j oj _ hl => (by rw [getD_replicate_false] at hl; cases hl), fun t _ ht => getD_in (by simpa using ht) (getD_replicate_false _ _)⟩
  have := wpAny_of_hd _ _ _ _ (k a _ hf hs.drew (hs.drew.weaken hle) inv0)
  rw [show t + (ops.toArray.size - t) = ops.toArray.size by omega] at this
  exact wp_region_any hm this

theorem GT.take {t : Nat} (i : Nat) {v : Value} (hi : ops[i]? = some ⟨some d, op, ty, pos, after, g⟩) (hB : tailOk ops t = true) (hf : Region.free .any ops listed i = true) (hr : (Region.ready .any ops listed).contains i = true) (hit : Nat.blt i t = true)
    (hQ : ∀ c a w, Q (.panic c) a w → False) (hw : Wt ops l g) (hd : Nat.blt d n = true) (hv : OV P C n l Hs ⟨some d, op, ty, pos, after, g⟩ v)
    (k : GT P C ops Q n t fuel (listed.setIfInBounds i true) ((d, v) :: l) H Hs) : GT P C ops Q n t (fuel + 1) listed l H Hs := by
  intro a w hfr hst hss inv
  simp only [tailOk, Bool.and_eq_true, decide_eq_true_eq] at hB
  obtain ⟨⟨⟨h1, h2⟩, h3⟩, h4⟩ := hB
  have hr' : i ∈ Region.ready .any ops listed := by simpa using hr
  have hit' : i < t := by simpa using hit
  exact wpHd_take hi (Region.noSelect_spec h1) h3 h4 h2 hit' (fun c a w h => (hQ c _ w h).elim) fuel listed a w inv (Region.free_spec hi hf) hr'
    (.inl ⟨hw.wanted (o := ⟨some d, op, ty, pos, after, g⟩) rfl hfr, fun w' hw' => hv a w' hfr hw'⟩) hss (k _ w (hfr.put hd) hst hss (inv.set hr' hit'))

theorem GT.skip {t : Nat} (i : Nat) (hi : ops[i]? = some ⟨some d, op, ty, pos, after, g⟩) (hB : tailOk ops t = true) (hf : Region.free .any ops listed i = true) (hr : (Region.ready .any ops listed).contains i = true) (hit : Nat.blt i t = true)
    (hQ : ∀ c a w, Q (.panic c) a w → False) (hw : Wn ops l g) (hd : Nat.blt d n = true)
    (k : GT P C ops Q n t fuel (listed.setIfInBounds i true) ((d, undef) :: l) H Hs) : GT P C ops Q n t (fuel + 1) listed l H Hs := by
  intro a w hfr hst hss inv
  simp only [tailOk, Bool.and_eq_true, decide_eq_true_eq] at hB
  obtain ⟨⟨⟨h1, h2⟩, h3⟩, h4⟩ := hB
  have hr' : i ∈ Region.ready .any ops listed := by simpa using hr
  have hit' : i < t := by simpa using hit
  exact wpHd_take hi (Region.noSelect_spec h1) h3 h4 h2 hit' (fun c a w h => (hQ c _ w h).elim) fuel listed a w inv (Region.free_spec hi hf) hr'
    (.inr ⟨hw.wanted (o := ⟨some d, op, ty, pos, after, g⟩) rfl hfr, rfl⟩) hss (k _ w (hfr.put hd) hst hss (inv.set hr' hit'))

theorem wpOp_of_one {K : Act → World → Prop} {i : Nat} {o : Oper} {a : Act} {w : World} (hi : ops[i]? = some o) (h : wpList P ops (Exit.then K Q) [o] a w) : wpOp P ops Q i K a w := by
  unfold wpOp
  simp only [hi]
  simp only [wpList] at h
  split
  · rename_i hw
    rw [if_pos hw] at h
    rcases h with h | ⟨h1, a0, w0, h2⟩
    · refine .inl ?_
      unfold Oper.wp at h ⊢
      generalize (execOp a.eval o).run P w = r at *
      cases r with
      | ok nx w' =>
        cases nx <;> simp only [Oper.upon] at h ⊢ <;>
          first
            | exact h
            | exact Calls.mono h (fun e w'' he => by
                cases e with
                | returned v => exact he
                | panicked c => exact he
                | outgrown => obtain ⟨a0, w0, h3⟩ := he; exact ⟨a0, w0, h3⟩)
      | halt hh w' => cases hh <;> simp only [Oper.upon] at h ⊢ <;> exact h
    · exact .inr ⟨h1, a0, w0, h2⟩
  · rename_i hw
    rw [if_neg hw] at h
    exact h

theorem GT.eff {t : Nat} (i : Nat) {o : Oper} (hi : ops[i]? = some o) (hr : Region.ready .any ops listed = [i]) (hit : Nat.blt i t = true)
    (k : GL P C ops (Exit.then (fun a w => St C w Hs ∧ (HeadInv .any ops t (listed.setIfInBounds i true) → wpHd P ops Q (fun w => St C w Hs) t fuel (listed.setIfInBounds i true) a w)) Q) n [o] l H) : GT P C ops Q n t (fuel + 1) listed l H Hs := by
  intro a w hfr hst hss inv
  have hit' : i < t := by simpa using hit
  refine ⟨by rw [hr]; simp, fun j hj => ?_⟩
  have hji : j = i := by rw [hr] at hj; simpa using hj
  subst hji
  exact ⟨hit', wpOp_mono (fun a' w' h => ⟨h.1, h.2 (inv.set hj hit')⟩) (wpOp_of_one hi (k a w hfr hst))⟩

theorem GT.back {t fuel' : Nat} {listed' : Array Bool} (hle : Hs.le H) (k : GT P C ops Q n t fuel' listed' l H Hs) :
    GL P C ops (Exit.then (fun a w => St C w Hs ∧ (HeadInv .any ops t listed' → wpHd P ops Q (fun w => St C w Hs) t fuel' listed' a w)) Q) n [] l H :=
  fun a w hf hs => ⟨hs.weaken hle, fun inv => k a w hf hs (hs.weaken hle) inv⟩

theorem GT.done {t : Nat} (hq : Region.seqB .any ops (ops.size - t) t listed = true) (k : GL P C ops Q n (ops.toList.drop t) l H) : GT P C ops Q n t 0 listed l H Hs :=
  fun a w hf hs _ _ => ⟨hq, k a w hf hs⟩
end
end Sx
