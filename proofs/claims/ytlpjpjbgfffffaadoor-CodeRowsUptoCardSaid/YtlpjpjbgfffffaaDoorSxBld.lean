/-
  A strings.Builder over the ghost heap: its buffer is shown where its own methods run, and hidden behind them.
-/
import Derived.Test.YtlpjpjbgfffffaaDoorSxMore
set_option linter.unusedVariables false
namespace Sx
open Go

def Heap.del (H : Heap) (g : Nat) : Heap := fun x => if x = g then none else H x
theorem Heap.del_same (H : Heap) (g : Nat) : H.del g g = none := by simp [Heap.del]
theorem Heap.del_ne (H : Heap) {g x : Nat} (h : x ≠ g) : H.del g x = H x := by simp [Heap.del, h]
theorem Heap.del_le (H : Heap) (g : Nat) : (H.del g).le H := fun x e h => by
  by_cases hx : x = g
  · subst hx; rw [Heap.del_same] at h; cases h
  · rwa [Heap.del_ne _ hx] at h

/-- a builder's buffer: bs, in a row of its own -/
def Buf (H : Heap) (b : Nat) (e : TypeId) (s : Sl) (bs : Str) : Prop :=
  (s = Sl.nil ∧ bs = []) ∨ ∃ g k row, g ≠ b ∧ s = ⟨some (g, 0), bs.length, row.length, none⟩ ∧ H g = some (true, .trow e k row) ∧ k ≤ bs.length ∧ row.length ≠ 0 ∧ bs.length ≤ row.length ∧ ∀ (j : Nat) (c : UInt8), bs[j]? = some c → row[j]? = some (Value.int .u8 (c.toNat : Int))

/-- a builder that is open, over H0 -/
structure OpenB (H0 H : Heap) (b : Nat) (T e : TypeId) (bs : Str) (p : Option (Nat × Nat)) (s : Sl) : Prop where
  self : p = none ∨ p = some (b, 0)
  row : H b = some (true, .trow T 0 [pv p, slv s])
  buf : Buf H b e s bs
  gnot : ∀ q, s.p = some q → H0 q.1 = none
  but : ∀ x v, x ≠ b → H0 x = some v → H x = some v

theorem St.openB {C : Ctx} {w : World} {H : Heap} (h : St C w H) {b : Nat} {T e : TypeId} {bs : Str} {m : Bool} (hb : H b = some (m, .bld T e bs)) :
    ∃ p s H', St C w H' ∧ OpenB H H' b T e bs p s := by
  obtain ⟨B, hB⟩ := h.bld
  obtain ⟨hm, h2⟩ := hB.at_ b m T e bs hb
  subst hm
  have hwb := h.wri b _ hb
  cases hBb : B b with
  | none =>
    rw [hBb] at h2
    obtain ⟨p, fr, h3, h4, h5, h6⟩ := h2
    subst h6
    obtain ⟨p', hp', hpp⟩ : ∃ p' : Option (Nat × Nat), (p' = none ∨ p' = some (b, 0)) ∧ .pointer p = pv p' := by
      rcases h4 with rfl | rfl
      · exact ⟨none, .inl rfl, rfl⟩
      · exact ⟨some (b, 0), .inr rfl, rfl⟩
    refine ⟨p', Sl.nil, H.put b (.trow T 0 [pv p', slv Sl.nil]), ?_, hp', Heap.put_same .., .inl ⟨rfl, rfl⟩, fun q hq => (by cases hq), fun x v hx hv => by rw [Heap.put_ne _ _ _ hx]; exact hv⟩
    refine ⟨fun x m g hx => ?_, fun x g hx => ?_, h.old, h.out, h.os, B, fun x m T' e' bs' hx => ?_, fun x x' g m T e bs m' T' e' bs' hx hx' => ?_⟩
    · by_cases hxb : x = b
      · subst hxb; rw [Heap.put_same] at hx; injection hx with hx; injection hx with e1 e2; subst e1; subst e2
        exact ⟨_, h3, by rw [← hpp]; rfl, rfl, fun _ => h5⟩
      · rw [Heap.put_ne _ _ _ hxb] at hx; exact h.blk x m g hx
    · by_cases hxb : x = b
      · subst hxb; exact hwb
      · rw [Heap.put_ne _ _ _ hxb] at hx; exact h.wri x g hx
    · by_cases hxb : x = b
      · subst hxb; rw [Heap.put_same] at hx; cases hx
      · rw [Heap.put_ne _ _ _ hxb] at hx
        obtain ⟨q1, q2⟩ := hB.at_ x m T' e' bs' hx
        obtain ⟨_, q3⟩ := q2.at_
        refine ⟨q1, q2.stays rfl fun g hg => ⟨rfl, ?_⟩⟩
        obtain ⟨r1, _⟩ := q3 g hg
        rw [Heap.put_ne _ _ _ (fun e => by subst e; rw [hb] at r1; cases r1)]; exact r1
    · have e1 : x ≠ b := fun e => by subst e; rw [Heap.put_same] at hx; cases hx
      have e2 : x' ≠ b := fun e => by subst e; rw [Heap.put_same] at hx'; cases hx'
      rw [Heap.put_ne _ _ _ e1] at hx; rw [Heap.put_ne _ _ _ e2] at hx'
      exact hB.inj _ _ _ _ _ _ _ _ _ _ _ hx hx'
  | some g =>
    rw [hBb] at h2
    obtain ⟨p, fr, cap, row, fr', h3, h4, h5, h6, h7, h8, h9, h10, h11, h12, h13⟩ := h2
    subst h10
    have hgb : g ≠ b := fun e => by subst e; rw [hb] at h6; cases h6
    obtain ⟨p', hp', hpp⟩ : ∃ p' : Option (Nat × Nat), (p' = none ∨ p' = some (b, 0)) ∧ .pointer p = pv p' := by
      rcases h4 with rfl | rfl
      · exact ⟨none, .inl rfl, rfl⟩
      · exact ⟨some (b, 0), .inr rfl, rfl⟩
    refine ⟨p', ⟨some (g, 0), bs.length, row.size, none⟩, (H.put b (.trow T 0 [pv p', slv ⟨some (g, 0), bs.length, row.size, none⟩])).put g (.trow e bs.length row.toList), ?_, hp', ?_, .inr ⟨g, bs.length, row.toList, hgb, by simp, Heap.put_same .., Nat.le_refl _, by simpa using h11, by simpa using h12, by simpa using h9⟩, fun q hq => ?_, fun x v hx hv => ?_⟩
    · refine ⟨fun x m g' hx => ?_, fun x g' hx => ?_, h.old, h.out, h.os, B, fun x m T' e' bs' hx => ?_, fun x x' g' m T e bs m' T' e' bs' hx hx' => ?_⟩
      · by_cases hxg : x = g
        · subst hxg; rw [Heap.put_same] at hx; injection hx with hx; injection hx with e1 e2; subst e1; subst e2
          exact ⟨_, h8, by simp, rfl, fun _ => h13⟩
        · rw [Heap.put_ne _ _ _ hxg] at hx
          by_cases hxb : x = b
          · subst hxb; rw [Heap.put_same] at hx; injection hx with hx; injection hx with e1 e2; subst e1; subst e2
            exact ⟨_, h3, by rw [← hpp]; rfl, rfl, fun _ => h5⟩
          · rw [Heap.put_ne _ _ _ hxb] at hx; exact h.blk x m g' hx
      · by_cases hxg : x = g
        · subst hxg; exact h7
        · rw [Heap.put_ne _ _ _ hxg] at hx
          by_cases hxb : x = b
          · subst hxb; exact hwb
          · rw [Heap.put_ne _ _ _ hxb] at hx; exact h.wri x g' hx
      · have e0 : x ≠ g := fun e => by subst e; rw [Heap.put_same] at hx; cases hx
        rw [Heap.put_ne _ _ _ e0] at hx
        have e1 : x ≠ b := fun e => by subst e; rw [Heap.put_same] at hx; cases hx
        rw [Heap.put_ne _ _ _ e1] at hx
        obtain ⟨q1, q2⟩ := hB.at_ x m T' e' bs' hx
        obtain ⟨_, q3⟩ := q2.at_
        refine ⟨q1, q2.stays rfl fun g' hg => ⟨rfl, ?_⟩⟩
        obtain ⟨r1, _⟩ := q3 g' hg
        have e2 : g' ≠ g := fun e' => by subst e'; exact e1 (hB.inj x b g' _ _ _ _ _ _ _ _ hx hb hg hBb)
        rw [Heap.put_ne _ _ _ e2, Heap.put_ne _ _ _ (fun e => by subst e; rw [hb] at r1; cases r1)]; exact r1
      · have f : ∀ {x : Nat} {m : Bool} {T2 e2 : TypeId} {bs2 : Str} {G1 G2 : GO}, G1.isBld = false → G2.isBld = false → ((H.put b G1).put g G2) x = some (m, .bld T2 e2 bs2) → H x = some (m, .bld T2 e2 bs2) := fun {x m T2 e2 bs2 G1 G2} k1 k2 hx => by
          have e0 : x ≠ g := fun e => by subst e; rw [Heap.put_same] at hx; injection hx with hx; injection hx with _ hx; rw [hx] at k2; cases k2
          rw [Heap.put_ne _ _ _ e0] at hx
          have e1 : x ≠ b := fun e => by subst e; rw [Heap.put_same] at hx; injection hx with hx; injection hx with _ hx; rw [hx] at k1; cases k1
          rwa [Heap.put_ne _ _ _ e1] at hx
        exact hB.inj _ _ _ _ _ _ _ _ _ _ _ (f rfl rfl hx) (f rfl rfl hx')
    · rw [Heap.put_ne _ _ _ (Ne.symm hgb), Heap.put_same]
    · injection hq with hq; subst hq; exact h6
    · rw [Heap.put_ne _ _ _ (fun e => by subst e; rw [h6] at hv; cases hv), Heap.put_ne _ _ _ hx]; exact hv

/-- the buffer's block out of sight -/
def Heap.hide (H : Heap) (s : Sl) : Heap := fun x => match s.p with | some q => if x = q.1 then none else H x | none => H x
theorem Heap.hide_le (H : Heap) (s : Sl) : (H.hide s).le H := fun x e h => by
  unfold Heap.hide at h
  split at h
  · split at h
    · cases h
    · exact h
  · exact h

theorem St.hideB {C : Ctx} {w : World} {H : Heap} (h : St C w H) {b : Nat} {T e : TypeId} {bs : Str} {p : Option (Nat × Nat)} {s : Sl} (hb : H b = some (true, .trow T 0 [pv p, slv s])) (hp : p = none ∨ p = some (b, 0)) (hbuf : Buf H b e s bs) :
    St C w ((H.hide s).put b (.bld T e bs)) := by
  have hw := h.weaken (Heap.hide_le H s)
  obtain ⟨o, ho, hrel⟩ := h.blk _ _ _ hb
  cases o <;> simp only [GO.rel] at hrel
  rename_i c' t' fr
  obtain ⟨hc, ht, hfr⟩ := hrel
  subst ht
  subst hc
  have hfr := hfr trivial
  have hpp : pv p = .pointer none ∨ pv p = .pointer (some ⟨b, 0, none⟩) := by
    rcases hp with rfl | rfl
    · exact .inl rfl
    · exact .inr rfl
  have hwb := h.wri b _ hb
  obtain ⟨B, hB⟩ := h.bld
  have hxs : ∀ x m T2 e2 bs2, H.hide s x = some (m, .bld T2 e2 bs2) → H x = some (m, .bld T2 e2 bs2) := fun x m T2 e2 bs2 hx => (Heap.hide_le H s) _ _ hx
  have key : ∀ og, BufAt C w ((H.hide s).put b (.bld t' e bs)) b t' e bs og → (∀ g, og = some g → ∃ g', H g = some g') → St C w ((H.hide s).put b (.bld t' e bs)) := fun og hog hgH => by
    refine ⟨fun x m g hx => ?_, fun x g hx => ?_, hw.old, hw.out, hw.os, fun x => if x = b then og else B x, fun x m T2 e2 bs2 hx => ?_, fun x x' g m T2 e2 bs2 m' T3 e3 bs3 hx hx' hg hg' => ?_⟩
    · by_cases hxb : x = b
      · subst hxb; rw [Heap.put_same] at hx; injection hx with hx; injection hx with e1 e2; subst e1; subst e2
        exact ⟨_, ho, trivial⟩
      · rw [Heap.put_ne _ _ _ hxb] at hx; exact hw.blk x m g hx
    · by_cases hxb : x = b
      · subst hxb; exact hwb
      · rw [Heap.put_ne _ _ _ hxb] at hx; exact hw.wri x g hx
    · by_cases hxb : x = b
      · subst hxb
        rw [Heap.put_same] at hx; injection hx with hx; injection hx with e1 e2; injection e2 with e3 e4 e5; subst e1; subst e3; subst e4; subst e5
        simp only [if_true]
        exact ⟨trivial, hog⟩
      · rw [Heap.put_ne _ _ _ hxb] at hx
        obtain ⟨q1, q2⟩ := hB.at_ x m T2 e2 bs2 (hxs _ _ _ _ _ hx)
        obtain ⟨_, q3⟩ := q2.at_
        simp only [if_neg hxb]
        refine ⟨q1, q2.stays rfl fun g' hg => ⟨rfl, ?_⟩⟩
        obtain ⟨r1, _⟩ := q3 g' hg
        rw [Heap.put_ne _ _ _ (fun e' => by subst e'; rw [hb] at r1; cases r1)]
        exact (Heap.hide_le H s).none r1
    · by_cases hxb : x = b
      · subst hxb
        by_cases hxb' : x' = x
        · exact hxb'.symm
        · rw [Heap.put_ne _ _ _ hxb'] at hx'
          simp only [if_true] at hg
          simp only [if_neg hxb'] at hg'
          obtain ⟨_, q2⟩ := hB.at_ x' m' T3 e3 bs3 (hxs _ _ _ _ _ hx')
          obtain ⟨r1, _⟩ := q2.at_.2 g hg'
          obtain ⟨g', hg2⟩ := hgH g hg
          rw [hg2] at r1; cases r1
      · rw [Heap.put_ne _ _ _ hxb] at hx
        simp only [if_neg hxb] at hg
        by_cases hxb' : x' = b
        · subst hxb'
          simp only [if_true] at hg'
          obtain ⟨_, q2⟩ := hB.at_ x m T2 e2 bs2 (hxs _ _ _ _ _ hx)
          obtain ⟨r1, _⟩ := q2.at_.2 g hg
          obtain ⟨g', hg2⟩ := hgH g hg'
          rw [hg2] at r1; cases r1
        · rw [Heap.put_ne _ _ _ hxb'] at hx'
          simp only [if_neg hxb'] at hg'
          exact hB.inj _ _ _ _ _ _ _ _ _ _ _ (hxs _ _ _ _ _ hx) (hxs _ _ _ _ _ hx') hg hg'
  rcases hbuf with ⟨rfl, rfl⟩ | ⟨g, k, row, hgb, rfl, hg, hk, hr0, hrl, hcs⟩
  · refine key none ?_ (fun g hg => by cases hg)
    rcases hp with rfl | rfl
    · exact ⟨none, fr, ho, .inl rfl, hfr, rfl⟩
    · exact ⟨some ⟨b, 0, none⟩, fr, ho, .inr rfl, hfr, rfl⟩
  · refine key (some g) ?_ (fun g' hg' => by injection hg' with hg'; subst hg'; exact ⟨_, hg⟩)
    obtain ⟨o2, ho2, hrel2⟩ := h.blk _ _ _ hg
    cases o2 <;> simp only [GO.rel] at hrel2
    rename_i c2 t2 fr2
    obtain ⟨hc2, ht2, hfr2⟩ := hrel2
    subst ht2
    subst hc2
    have hfr2 := hfr2 trivial
    have hhid : ((H.hide ⟨some (g, 0), bs.length, row.length, none⟩).put b (.bld t' t2 bs)) g = none := by
      rw [Heap.put_ne _ _ _ hgb]; simp [Heap.hide]
    have hwg := h.wri g _ hg
    rcases hp with rfl | rfl
    · exact ⟨none, fr, row.length, row.toArray, fr2, ho, .inl rfl, hfr, hhid, hwg, ho2, by simpa using hcs, by simp, hr0, hrl, by omega⟩
    · exact ⟨some ⟨b, 0, none⟩, fr, row.length, row.toArray, fr2, ho, .inr rfl, hfr, hhid, hwg, ho2, by simpa using hcs, by simp, hr0, hrl, by omega⟩

/-- a new builder -/
theorem St.pushB {C : Ctx} {w : World} {H : Heap} (h : St C w H) (T e : TypeId) : St C { w with heap := w.heap.push (.cells #[.pointer none, .slice none 0 0] T) } (H.put w.heap.size (.bld T e [])) := by
  have h1 := h.push (o := .cells #[.pointer none, .slice none 0 0] T) (g := .trow T 0 [pv none, slv Sl.nil]) (m := true) ⟨rfl, rfl, fun _ => .inl rfl⟩
  have h2 := h1.hideB (e := e) (bs := []) (s := Sl.nil) (p := none) (Heap.put_same ..) (.inl rfl) (.inl ⟨rfl, rfl⟩)
  have e2 : ((H.put w.heap.size (.trow T 0 [pv none, slv Sl.nil])).hide Sl.nil).put w.heap.size (.bld T e []) = H.put w.heap.size (.bld T e []) := by
    funext x
    by_cases hx : x = w.heap.size
    · subst hx; rw [Heap.put_same, Heap.put_same]
    · rw [Heap.put_ne _ _ _ hx, Heap.put_ne _ _ _ hx]; simp only [Heap.hide, Sl.nil]; rw [Heap.put_ne _ _ _ hx]
  rw [e2] at h2
  exact h2

theorem Spec.openB {P : Program} {C : Ctx} {f : FuncId} {args : List Value} {H : Heap} {Φ : Value → Heap → Prop} {b : Nat} {T e : TypeId} {bs : Str} {m : Bool} (hb : H b = some (m, .bld T e bs))
    (h : ∀ p s H', OpenB H H' b T e bs p s → Spec P C f args H' Φ) : Spec P C f args H Φ := fun w hw => by
  obtain ⟨p, s, H', h1, h2⟩ := hw.openB hb
  exact h p s H' h2 w h1

/-- behind the call: hidden again -/
theorem Gh.hideB {C : Ctx} {H0 H : Heap} {b : Nat} {T e : TypeId} {bs : Str} {p : Option (Nat × Nat)} {s : Sl} (ho : OpenB H0 H b T e bs p s) : Gh C H (H0.put b (.bld T e bs)) := fun w hw => by
  have h := hw.hideB ho.row ho.self ho.buf
  refine h.weaken fun x v hx => ?_
  by_cases hxb : x = b
  · subst hxb; rw [Heap.put_same] at hx ⊢; exact hx
  · rw [Heap.put_ne _ _ _ hxb] at hx ⊢
    unfold Heap.hide
    cases hs : s.p with
    | none => exact ho.but x v hxb hx
    | some q =>
      simp only
      have := ho.gnot q hs
      have hne : x ≠ q.1 := fun e' => by rw [e', this] at hx; cases hx
      rw [if_neg hne]; exact ho.but x v hxb hx

/-- what stands behind an append to the buffer -/
theorem OpenB.apd {H0 H : Heap} {b : Nat} {T e : TypeId} {bs : Str} {p : Option (Nat × Nat)} {s : Sl} (ho : OpenB H0 H b T e bs p s) (hH0 : ∃ v, H0 b = some v) {ys : Str} {K : Sl → Heap → Prop} (hl : bs.length + ys.length ≤ 140737488355328)
    (k : ∀ r H', OpenB H0 (H'.put b (.trow T 0 [pv p, slv r])) b T e (bs ++ ys) p r → H' b = some (true, .trow T 0 [pv p, slv s]) → K r H') : apdG e [.int .u8 0] 1 s (bytesV ys) ys.length K H := by
  obtain ⟨hself, hrow, hbuf, hgnot, hbut⟩ := ho
  have hlen : s.len = bs.length := by rcases hbuf with ⟨rfl, rfl⟩ | ⟨g, kk, row, _, rfl, _⟩ <;> rfl
  have hsx : s.x = none := by rcases hbuf with ⟨rfl, rfl⟩ | ⟨g, kk, row, _, rfl, _⟩ <;> rfl
  refine ⟨bytesV bs, ?_, by simp [bytesV, hlen], by simp [bytesV], by omega, by omega, fun hfit => ?_, fun hgrow b2 cap hb2 hcap => ?_⟩
  · rcases hbuf with ⟨rfl, rfl⟩ | ⟨g, kk, row, hgb, rfl, hg, hk, hr0, hrl, hcs⟩
    · exact .inl rfl
    · refine .inr ⟨rfl, (g, 0), rfl, rds_of fun j v hj => ?_⟩
      rw [bytesV_get] at hj
      obtain ⟨c, hc, rfl⟩ := Option.map_eq_some_iff.1 hj
      simp [rd, hg, GO.cells?, hcs j c hc]
  · rcases hbuf with ⟨rfl, rfl⟩ | ⟨g, kk, row, hgb, rfl, hg, hk, hr0, hrl, hcs⟩
    · left
      have h0 : ys = [] := by
        have : ys.length = 0 := by have e1 : Sl.nil.len = 0 := rfl; have e2 : Sl.nil.cap = 0 := rfl; omega
        exact List.length_eq_zero_iff.1 this
      subst h0
      refine ⟨rfl, ?_⟩
      refine k _ H ⟨hself, Heap.put_same .., .inl ⟨rfl, rfl⟩, fun q hq => (by cases hq), fun x v hx hv => ?_⟩ hrow
      rw [Heap.put_ne _ _ _ hx]; exact hbut x v hx hv
    · right
      simp only at hfit
      refine ⟨(g, 0), e, kk, row, rfl, rfl, hg, by simp; omega, by simp [bytesV]; omega, ?_⟩
      have hb' : b ≠ g := Ne.symm hgb
      refine k _ _ ⟨hself, Heap.put_same .., .inr ⟨g, kk, splice row (0 + bs.length * 1) (bytesV ys), hgb, ?_, ?_, by simp; omega, ?_, ?_, fun j c hj => ?_⟩, fun q hq => ?_, fun x v hx hv => ?_⟩ ?_
      · rw [splice_length (by simp [bytesV]; omega)]; simp
      · rw [Heap.put_ne _ _ _ hgb]; simp [Heap.put_same]
      · rw [splice_length (by simp [bytesV]; omega)]; exact hr0
      · rw [splice_length (by simp [bytesV]; omega)]; simp; omega
      · simp only [splice, Nat.mul_one, Nat.zero_add]
        by_cases hjb : j < bs.length
        · rw [List.getElem?_append_left hjb] at hj
          rw [List.getElem?_append_left (by simp; omega), List.getElem?_append_left (by simp; omega), List.getElem?_take, if_pos hjb]
          exact hcs j c hj
        · rw [List.getElem?_append_right (by omega)] at hj
          have hj2 : j - bs.length < ys.length := (List.getElem?_eq_some_iff.1 hj).1
          rw [List.getElem?_append_left (by simp [bytesV]; omega), List.getElem?_append_right (by simp; omega)]
          have : j - (row.take bs.length).length = j - bs.length := by simp; omega
          rw [this, bytesV_get, hj]; rfl
      · injection hq with hq; subst hq; exact hgnot (g, 0) rfl
      · have hxg : x ≠ g := fun e' => by subst e'; have := hgnot (x, 0) rfl; rw [this] at hv; cases hv
        rw [Heap.put_ne _ _ _ hx, Heap.put_ne _ _ _ hxg]; exact hbut x v hx hv
      · rw [Heap.put_ne _ _ _ hb']; exact hrow
  · have hb2b : b ≠ b2 := fun e' => by subst e'; rw [hrow] at hb2; cases hb2
    refine k _ _ ⟨hself, Heap.put_same .., .inr ⟨b2, 0, bytesV bs ++ bytesV ys ++ zeros [.int .u8 0] (cap - (s.len + ys.length)), Ne.symm hb2b, ?_, ?_, Nat.zero_le _, ?_, ?_, fun j c hj => ?_⟩, fun q hq => ?_, fun x v hx hv => ?_⟩ ?_
    · simp only [List.length_append, zeros_length, bytesV_length, hlen, List.length_singleton, Nat.mul_one]
      rw [show bs.length + ys.length + (cap - (bs.length + ys.length)) = cap by omega]
    · rw [Heap.put_ne _ _ _ (Ne.symm hb2b), Heap.put_same]
    · simp only [List.length_append, zeros_length, bytesV_length, hlen, List.length_singleton, Nat.mul_one]; omega
    · simp only [List.length_append, zeros_length, bytesV_length, hlen, List.length_singleton, Nat.mul_one]; omega
    · have hjl := (List.getElem?_eq_some_iff.1 hj).1
      rw [List.getElem?_append_left (by simp [bytesV] at hjl ⊢; omega), ← bytesV_append, bytesV_get, hj]; rfl
    · injection hq with hq; subst hq
      dsimp only
      cases hx : H0 b2 with
      | none => rfl
      | some v => have := hbut b2 v (Ne.symm hb2b) hx; rw [hb2] at this; cases this
    · have hxb2 : x ≠ b2 := fun e' => by subst e'; have := hbut x v hx hv; rw [hb2] at this; cases this
      rw [Heap.put_ne _ _ _ hx, Heap.put_ne _ _ _ hxb2]
      exact hbut x v hx hv
    · rw [Heap.put_ne _ _ _ hb2b]; exact hrow

def nwB (T e : TypeId) (K : Nat → Heap → Prop) (H : Heap) : Prop := ∀ b, H b = none → K b (H.put b (.trow T 0 [pv none, slv Sl.nil]))

section
variable {P : Program} {C : Ctx} {Q Q' : Exit → Act → World → Prop} {n : Nat} {l : List (Nat × Value)} {H : Heap} {ops : Array Oper} {rest : List Oper} {d : Nat} {ty : TypeId} {pos : String} {after : Array Edge} {g : Option (Nat × Bool)}

theorem GL.allocB {T e : TypeId} {z : Value} {K : Nat → Heap → Prop} (h : nwB T e K H) (hw : Wt ops l g) (hd : Nat.blt d n = true) (hz : (P.info? T).bind (·.zero) = some z) (hc : z.cells = #[.pointer none, .slice none 0 0])
    (k : ∀ b H', K b H' → GL P C ops Q n rest ((d, pv (some (b, 0))) :: l) H') : GL P C ops Q n (⟨some d, .alloc T, ty, pos, after, g⟩ :: rest) l H := by
  cases hinf : P.info? T with
  | none => rw [hinf] at hz; cases hz
  | some inf =>
    rw [hinf] at hz
    simp only [Option.bind_some] at hz
    refine GL.run (v := z) hw hd fun a w hf hs => ⟨pv (some (w.heap.size, 0)), _, _, ?_, hs.push (o := .cells #[.pointer none, .slice none 0 0] T) (g := .trow T 0 [pv none, slv Sl.nil]) (m := true) ⟨rfl, rfl, fun _ => .inl rfl⟩, k _ _ (h _ hs.fresh)⟩
    simp only [execOp, Instr.alloc]
    simp [zeroValue, typeInfo, hinf, hz, newVar, Go.newRow, hc, pv, adv]
end

/-- a builder: one that was never written, or a hidden one -/
def IsB (T e : TypeId) (H : Heap) (b : Nat) (bs : Str) : Prop := H b = some (true, .bld T e bs) ∨ (bs = [] ∧ H b = some (true, .trow T 0 [pv none, slv Sl.nil]))
theorem IsB.put {T e : TypeId} {H : Heap} {b : Nat} {bs : Str} : IsB T e (H.put b (.bld T e bs)) b bs := .inl (Heap.put_same ..)
theorem IsB.new {T e : TypeId} {H : Heap} {b : Nat} : IsB T e (H.put b (.trow T 0 [pv none, slv Sl.nil])) b [] := .inr ⟨rfl, Heap.put_same ..⟩
theorem IsB.le {T e : TypeId} {H H2 : Heap} {b : Nat} {bs : Str} (h : IsB T e H b bs) (hle : H.le H2) : IsB T e H2 b bs := by
  rcases h with h | ⟨h0, h⟩
  · exact .inl (hle _ _ h)
  · exact .inr ⟨h0, hle _ _ h⟩
theorem IsB.but {T e : TypeId} {H H2 : Heap} {b k : Nat} {bs : Str} (h : IsB T e H b bs) (hb : Heap.but k H H2) (hk : b ≠ k) : IsB T e H2 b bs := by
  rcases h with h | ⟨h0, h⟩
  · exact .inl (hb _ _ hk h)
  · exact .inr ⟨h0, hb _ _ hk h⟩
theorem IsB.some {T e : TypeId} {H : Heap} {b : Nat} {bs : Str} (h : IsB T e H b bs) : ∃ g, H b = some (true, g) := by
  rcases h with h | ⟨h0, h⟩ <;> exact ⟨_, h⟩

theorem IsB.open_ {P : Program} {C : Ctx} {f : FuncId} {args : List Value} {H : Heap} {Φ : Value → Heap → Prop} {b : Nat} {T e : TypeId} {bs : Str} (hb : IsB T e H b bs)
    (h : ∀ p s H', OpenB H H' b T e bs p s → Spec P C f args H' Φ) : Spec P C f args H Φ := by
  rcases hb with hb | ⟨rfl, hb⟩
  · exact Spec.openB hb h
  · exact h none Sl.nil H ⟨.inl rfl, hb, .inl ⟨rfl, rfl⟩, fun q hq => (by cases hq), fun x v hx hv => hv⟩

theorem OpenB.setP {H0 H : Heap} {b : Nat} {T e : TypeId} {bs : Str} {p p2 : Option (Nat × Nat)} {s : Sl} (h : OpenB H0 H b T e bs p s) (hp : p2 = none ∨ p2 = Option.some (b, 0)) : OpenB H0 (H.put b (.trow T 0 [pv p2, slv s])) b T e bs p2 s := by
  obtain ⟨h1, h2, h3, h4, h5⟩ := h
  refine ⟨hp, Heap.put_same .., ?_, h4, fun x v hx hv => by rw [Heap.put_ne _ _ _ hx]; exact h5 x v hx hv⟩
  rcases h3 with h3 | ⟨g, k, row, hg, e1, e2, e3⟩
  · exact .inl h3
  · exact .inr ⟨g, k, row, hg, e1, by rw [Heap.put_ne _ _ _ hg]; exact e2, e3⟩
theorem OpenB.ne {H0 H : Heap} {b : Nat} {T e : TypeId} {bs : Str} {p : Option (Nat × Nat)} {s : Sl} (h : OpenB H0 H b T e bs p s) : ∀ q, s.p = Option.some q → q.1 ≠ b := fun q hq => by
  rcases h.buf with ⟨rfl, _⟩ | ⟨g, k, row, hg, rfl, _⟩
  · cases hq
  · injection hq with hq; subst hq; exact hg
theorem OpenB.slen {H0 H : Heap} {b : Nat} {T e : TypeId} {bs : Str} {p : Option (Nat × Nat)} {s : Sl} (h : OpenB H0 H b T e bs p s) : s.len = bs.length ∧ s.x = none ∧ (s.p = none ∨ s.cap ≠ 0) := by
  rcases h.buf with ⟨rfl, rfl⟩ | ⟨g, k, row, hg, rfl, _, _, h0, _⟩
  · exact ⟨rfl, rfl, .inl rfl⟩
  · exact ⟨rfl, rfl, .inr h0⟩
end Sx
