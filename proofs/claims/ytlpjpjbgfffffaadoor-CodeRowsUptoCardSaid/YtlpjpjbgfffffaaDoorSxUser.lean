/-
  User-level lemmas over the ghost heap: what is read, what is owned, ghost steps at calls.
-/
import Derived.Test.YtlpjpjbgfffffaaDoorSxLaw
import Derived.IntWalk
set_option linter.unusedVariables false
namespace Sx
open Go

/-! ### numbers -/
theorem w_i64 {x : Int} (h0 : -9223372036854775808 ≤ x) (h1 : x ≤ 9223372036854775807) : w .i64 x = x := IntWalk.i64_in x ⟨h0, h1⟩
theorem w_u8 {x : Int} (h0 : 0 ≤ x) (h1 : x ≤ 255) : w .u8 x = x := IntWalk.u8_in x ⟨h0, h1⟩
theorem w_u32 {x : Int} (h0 : 0 ≤ x) (h1 : x ≤ 4294967295) : w .u32 x = x := IntWalk.u32_in x ⟨h0, h1⟩
theorem w_u64 {x : Int} (h0 : 0 ≤ x) (h1 : x ≤ 18446744073709551615) : w .u64 x = x := IntWalk.u64_in x ⟨h0, h1⟩
theorem w_u8_mod (x : Int) : w .u8 x = x % 256 := IntKind.wrap_u8 x
theorem w_u32_mod (x : Int) : w .u32 x = x % 4294967296 := IntKind.wrap_u32' x
theorem w_u64_mod (x : Int) : w .u64 x = x % 18446744073709551616 := IntKind.wrap_u64 x

theorem u8_lt (c : UInt8) : c.toNat < 256 := c.toBitVec.isLt

/-! ### ghost steps -/
def Gh (C : Ctx) (A B : Heap) : Prop := ∀ w, St C w A → St C w B
theorem Gh.refl {C : Ctx} (A : Heap) : Gh C A A := fun _ h => h
theorem Gh.trans {C : Ctx} {A B D : Heap} (h : Gh C A B) (h' : Gh C B D) : Gh C A D := fun w hw => h' w (h w hw)
theorem Gh.le {C : Ctx} {A B : Heap} (h : B.le A) : Gh C A B := fun _ hw => hw.weaken h
theorem Gh.seal_ {C : Ctx} {A : Heap} {b : Nat} {m : Bool} {g : GO} (h : A b = some (m, g)) (hg : g.isBld = false := by rfl) : Gh C A (A.put b g false) := fun _ hw => hw.seal_ h hg

theorem Spec.gh {P : Program} {C : Ctx} {f : FuncId} {args : List Value} {H : Heap} {Φ : Value → Heap → Prop} (h : Spec P C f args H (fun v H2 => ∃ H0, Gh C H2 H0 ∧ Φ v H0)) : Spec P C f args H Φ :=
  fun w hw => (h w hw).mono fun e w' ⟨v, H', h1, h2, H0, h3, h4⟩ => ⟨v, H0, h1, h3 _ h2, h4⟩

/-! ### heaps -/
theorem Heap.le_put {H : Heap} {b : Nat} {g : GO} {m : Bool} (hb : H b = none) : H.le (H.put b g m) := (Heap.le.refl H).put g m hb
theorem Heap.put_put (H : Heap) (b : Nat) (g g' : GO) (m m' : Bool) : (H.put b g m).put b g' m' = H.put b g' m' := by
  funext x; by_cases hx : x = b
  · subst hx; rw [Heap.put_same, Heap.put_same]
  · rw [Heap.put_ne _ _ _ hx, Heap.put_ne _ _ _ hx, Heap.put_ne _ _ _ hx]
theorem Heap.put_id {H : Heap} {b : Nat} {g : GO} {m : Bool} (hb : H b = some (m, g)) : H.put b g m = H := by
  funext x; by_cases hx : x = b
  · subst hx; rw [Heap.put_same, hb]
  · rw [Heap.put_ne _ _ _ hx]
theorem Heap.put_comm (H : Heap) {b b' : Nat} (g g' : GO) (m m' : Bool) (h : b ≠ b') : (H.put b g m).put b' g' m' = (H.put b' g' m').put b g m := by
  funext x; by_cases hx : x = b
  · subst hx; rw [Heap.put_ne _ _ _ h, Heap.put_same, Heap.put_same]
  · by_cases hx' : x = b'
    · subst hx'; rw [Heap.put_same, Heap.put_ne _ _ _ hx, Heap.put_same]
    · rw [Heap.put_ne _ _ _ hx', Heap.put_ne _ _ _ hx, Heap.put_ne _ _ _ hx, Heap.put_ne _ _ _ hx']
/-- but for block b, what is known stays -/
def Heap.but (b : Nat) (H H' : Heap) : Prop := ∀ x e, x ≠ b → H x = some e → H' x = some e
theorem Heap.but.refl (b : Nat) (H : Heap) : Heap.but b H H := fun _ _ _ h => h
theorem Heap.but.trans {b : Nat} {A B D : Heap} (h : Heap.but b A B) (h' : Heap.but b B D) : Heap.but b A D := fun x e hx hh => h' x e hx (h x e hx hh)
theorem Heap.but.put (b : Nat) (H : Heap) (g : GO) (m : Bool) : Heap.but b H (H.put b g m) := fun x e hx h => by rw [Heap.put_ne _ _ _ hx]; exact h
theorem Heap.le.but {b : Nat} {A B : Heap} (h : A.le B) : Heap.but b A B := fun x e _ hh => h x e hh
theorem ne_of_im {H : Heap} {b b' : Nat} {g g' : GO} (h : H b = some (false, g)) (h' : H b' = some (true, g')) : b ≠ b' := fun e => by
  subst e; rw [h] at h'; cases h'
theorem ne_of_none {H : Heap} {b b' : Nat} {e : Bool × GO} (h : H b = none) (h' : H b' = some e) : b' ≠ b := fun e => by
  subst e; rw [h] at h'; cases h'
theorem Heap.ext.put {A B : Heap} {b : Nat} {g : GO} {m : Bool} (h : A.ext B) (hb : ∀ g, A b ≠ some (false, g)) : A.ext (B.put b g m) := fun x e hx => by
  have : x ≠ b := fun e' => by subst e'; exact hb _ hx
  rw [Heap.put_ne _ _ _ this]; exact h x e hx
theorem ext_put_own {H : Heap} {b : Nat} {g g' : GO} {m : Bool} (h : H b = some (true, g)) : H.ext (H.put b g' m) := (Heap.ext.refl H).put fun g hg => by rw [h] at hg; cases hg
theorem ext_put_new {H : Heap} {b : Nat} {g' : GO} {m : Bool} (h : H b = none) : H.ext (H.put b g' m) := (Heap.ext.refl H).put fun g hg => by rw [h] at hg; cases hg

theorem rd_same {H : Heap} {b o : Nat} {c : List Value} {m : Bool} : rd (H.put b (.row c) m) (b, o) = c[o]? := by simp [rd, Heap.put_same, GO.cells?]
theorem rd_ne {H : Heap} {b : Nat} {g : GO} {m : Bool} {p : Nat × Nat} (h : p.1 ≠ b) : rd (H.put b g m) p = rd H p := by simp [rd, Heap.put_ne _ _ _ h]
theorem rd_row {H : Heap} {b o : Nat} {c : List Value} {m : Bool} (h : H b = some (m, .row c)) : rd H (b, o) = c[o]? := by simp [rd, h, GO.cells?]
theorem rds_row {H : Heap} {b o : Nat} {c cs : List Value} {m : Bool} (h : H b = some (m, .row c)) (hc : ∀ j v, cs[j]? = some v → c[o + j]? = some v) : rds H (b, o) cs :=
  rds_of fun j v hj => by rw [rd_row h]; exact hc j v hj

/-! ### what is only read: immutable memory -/
/-- the first cells of a slice, in memory that is not written -/
def Im (H : Heap) (s : Sl) (cs : List Value) : Prop := cs = [] ∨ (s.x = none ∧ ∃ b o c, s.p = some (b, o) ∧ H b = some (false, .row c) ∧ ∀ j v, cs[j]? = some v → c[o + j]? = some v)
theorem Im.rdsl {H : Heap} {s : Sl} {cs : List Value} (h : Im H s cs) : Sx.rdsl H s cs := by
  rcases h with rfl | ⟨hx, b, o, c, hp, hb, hc⟩
  · exact .inl rfl
  · exact .inr ⟨hx, _, hp, rds_row hb hc⟩
theorem Im.ext {H H' : Heap} {s : Sl} {cs : List Value} (h : Im H s cs) (he : H.ext H') : Im H' s cs := by
  rcases h with rfl | ⟨hx, b, o, c, hp, hb, hc⟩
  · exact .inl rfl
  · exact .inr ⟨hx, b, o, c, hp, he _ _ hb, hc⟩
theorem Im.of_rdsl {H : Heap} (him : ∀ b e, H b = some e → (e.1 = false ∧ ∃ c, e.2 = .row c) ∨ (e.1 = false ∧ e.2.cells? = none)) {s : Sl} {cs : List Value} (h : Sx.rdsl H s cs) : Im H s cs := by
  rcases h with rfl | ⟨hx, p, hp, hr⟩
  · exact .inl rfl
  · cases cs with
    | nil => exact .inl rfl
    | cons v cs =>
      right
      obtain ⟨b, o⟩ := p
      have h0 := rds_get hr 0 v (by simp)
      simp only [rd] at h0
      split at h0
      · rename_i m g hb
        have := him _ _ hb
        simp only at this
        obtain ⟨this, c, rfl⟩ | this := this
        · subst this
          refine ⟨hx, b, o, c, hp, hb, fun j u hj => ?_⟩
          have := rds_get hr j u hj
          rwa [rd_row hb] at this
        · rw [this.2] at h0; cases h0
      · cases h0

theorem rds_take {H : Heap} {cs : List Value} {p : Nat × Nat} (k : Nat) (h : rds H p cs) : rds H p (cs.take k) :=
  rds_of fun j v hj => rds_get h j v (by rw [List.getElem?_take] at hj; split at hj <;> simp_all)
theorem rds_drop {H : Heap} {cs : List Value} {p : Nat × Nat} (k : Nat) (h : rds H p cs) : rds H (p.1, p.2 + k) (cs.drop k) :=
  rds_of fun j v hj => by
    rw [List.getElem?_drop] at hj
    have := rds_get h (k + j) v hj
    rw [show p.2 + k + j = p.2 + (k + j) by omega]; exact this

theorem bytesV_length (s : Str) : (bytesV s).length = s.length := by simp [bytesV]
theorem bytesV_append (a b : Str) : bytesV (a ++ b) = bytesV a ++ bytesV b := by simp [bytesV]
theorem bytesV_get (s : Str) (i : Nat) : (bytesV s)[i]? = (s[i]?).map fun b => .int .u8 (b.toNat : Int) := by simp [bytesV]
theorem bytesV_take (s : Str) (k : Nat) : (bytesV s).take k = bytesV (s.take k) := by simp [bytesV, List.map_take]
theorem bytesV_drop (s : Str) (k : Nat) : (bytesV s).drop k = bytesV (s.drop k) := by simp [bytesV, List.map_drop]

/-! ### an element of a slice -/
theorem rdsl_get {H : Heap} {s : Sl} {cs : List Value} (h : rdsl H s cs) {j : Nat} {v : Value} (hj : cs[j]? = some v) : s.x = none ∧ ∃ p, s.p = some p ∧ rd H (p.1, p.2 + j) = some v := by
  rcases h with rfl | ⟨hx, p, hp, hr⟩
  · simp at hj
  · exact ⟨hx, p, hp, rds_get hr j v hj⟩

/-! ### what is owned: a slice's whole row, from its start to its cap -/
/-- nobody's slice, or all of a row that may be written: cs are its elements' cells -/
def Own (H : Heap) (z : Nat) (s : Sl) (cs : List Value) : Prop :=
  cs.length = s.len * z ∧ s.x = none ∧ s.len ≤ s.cap ∧ ((s.p = none ∧ s.cap = 0) ∨ ∃ b sp, s.p = some (b, 0) ∧ H b = some (true, .row (cs ++ sp)) ∧ s.cap * z ≤ (cs ++ sp).length)
theorem Own.rdsl {H : Heap} {z : Nat} {s : Sl} {cs : List Value} (h : Own H z s cs) : Sx.rdsl H s cs := by
  obtain ⟨hl, hx, hc, ⟨hp, h0⟩ | ⟨b, sp, hp, hb, _⟩⟩ := h
  · left
    have : s.len = 0 := by omega
    rw [this] at hl
    exact List.length_eq_zero_iff.1 (by simpa using hl)
  · exact .inr ⟨hx, _, hp, rds_row hb fun j v hj => by
      have := (List.getElem?_eq_some_iff.1 hj).1
      rw [Nat.zero_add, List.getElem?_append_left this]; exact hj⟩
theorem Own.nil (H : Heap) (z : Nat) : Own H z Sl.nil [] := ⟨by simp [Sl.nil], rfl, Nat.le_refl _, .inl ⟨rfl, rfl⟩⟩
/-- the slice's block is new over H -/
def Fresh (H : Heap) (s : Sl) : Prop := ∀ p, s.p = some p → H p.1 = none
theorem Fresh.nil (H : Heap) : Fresh H Sl.nil := fun _ h => by cases h
theorem Fresh.le {A B : Heap} {s : Sl} (h : Fresh B s) (hle : A.le B) : Fresh A s := fun p hp => hle.none (h p hp)
theorem Own.le {A B : Heap} {z : Nat} {s : Sl} {cs : List Value} (h : Own A z s cs) (hle : A.le B) : Own B z s cs := by
  obtain ⟨hl, hx, hc, h0 | ⟨b, sp, hp, hb, h1⟩⟩ := h
  · exact ⟨hl, hx, hc, .inl h0⟩
  · exact ⟨hl, hx, hc, .inr ⟨b, sp, hp, hle _ _ hb, h1⟩⟩
theorem Own.but {A B : Heap} {z : Nat} {s : Sl} {cs : List Value} {k : Nat} (h : Own A z s cs) (hle : Heap.but k A B) (hk : ∀ p, s.p = some p → p.1 ≠ k) : Own B z s cs := by
  obtain ⟨hl, hx, hc, h0 | ⟨b, sp, hp, hb, h1⟩⟩ := h
  · exact ⟨hl, hx, hc, .inl h0⟩
  · exact ⟨hl, hx, hc, .inr ⟨b, sp, hp, hle _ _ (hk _ hp) hb, h1⟩⟩

/-- owned, its block not among those of H0, of which all is kept -/
structure OwnF (H0 H : Heap) (z : Nat) (s : Sl) (cs : List Value) : Prop where
  le : H0.le H
  own : Own H z s cs
  fresh : Fresh H0 s
theorem OwnF.nil (H : Heap) (z : Nat) : OwnF H H z Sl.nil [] := ⟨Heap.le.refl H, Own.nil H z, Fresh.nil H⟩
theorem OwnF.up {H0 H H2 : Heap} {z : Nat} {s : Sl} {cs : List Value} (h : OwnF H0 H z s cs) (hle : H.le H2) : OwnF H0 H2 z s cs := ⟨h.le.trans hle, h.own.le hle, h.fresh⟩

theorem apd_ownF {H0 H : Heap} {zc : List Value} {bytes : Nat} {s : Sl} {cs ys : List Value} {m : Nat} {K : Sl → Heap → Prop} (h : OwnF H0 H zc.length s cs) (hy : ys.length = m * zc.length)
    (hb : (s.len + m) * bytes ≤ 140737488355328) (h63 : s.len + m ≤ 9223372036854775807) (k : ∀ r H2, OwnF H0 H2 zc.length r (cs ++ ys) → r.len = s.len + m → K r H2) : apd zc bytes s ys m K H := by
  obtain ⟨hle, ho, hf⟩ := h
  have ho' := ho
  obtain ⟨hl, hx, hc, hcase⟩ := ho
  refine ⟨cs, ho'.rdsl, hl, hy, hb, h63, fun hfit => ?_, fun hgrow b cap hnone hcap => ?_⟩
  · rcases hcase with ⟨hp, h0⟩ | ⟨b, sp, hp, hbk, hcl⟩
    · left
      have hm : m = 0 := by omega
      subst hm
      have hy0 : ys = [] := List.length_eq_zero_iff.1 (by simpa using hy)
      subst hy0
      refine ⟨rfl, k _ _ ⟨hle, ⟨?_, hx, hfit, .inl ⟨hp, h0⟩⟩, hf⟩ rfl⟩
      simpa using hl
    · right
      have hle2 : (s.len + m) * zc.length ≤ s.cap * zc.length := Nat.mul_le_mul_right _ hfit
      rw [Nat.add_mul] at hle2
      refine ⟨_, _, hp, hx, hbk, ?_, k _ _ ⟨fun x e hx' => ?_, ⟨?_, hx, hfit, .inr ⟨b, sp.drop ys.length, hp, ?_, ?_⟩⟩, hf⟩ rfl⟩
      · simp only [Nat.zero_add]; rw [hy]; omega
      · have : x ≠ b := fun e' => by subst e'; have := hf _ hp; simp only at this; rw [this] at hx'; cases hx'
        rw [Heap.put_ne _ _ _ this]; exact hle _ _ hx'
      · simp only [List.length_append, hl, hy, Nat.add_mul]
      · rw [Heap.put_same]
        simp only [Nat.zero_add, splice, ← hl]
        rw [List.take_append_of_le_length (Nat.le_refl _), List.take_length, List.drop_append, List.drop_eq_nil_of_le (by omega)]
        simp
      · simp only [List.length_append, List.length_drop] at hcl ⊢
        omega
  · refine k _ _ ⟨hle.put _ _ (hle.none hnone), ⟨by simp only [List.length_append, hl, hy, Nat.add_mul], rfl, hcap, .inr ⟨b, zeros zc (cap - (s.len + m)), rfl, by rw [Heap.put_same], ?_⟩⟩, ?_⟩ rfl
    · simp only [List.length_append, zeros_length, hl, hy]
      rw [← Nat.add_mul, ← Nat.add_mul]
      exact Nat.mul_le_mul_right _ (by omega)
    · intro p hp
      simp only [Option.some.injEq] at hp
      subst hp
      exact hle.none hnone

/-! ### an element read -/
theorem ixa_of {H : Heap} {s : Sl} {cs : List Value} {i : Int} {K : Nat × Nat → Prop} (hr : Sx.rdsl H s cs) (h0 : 0 ≤ i) (h1 : i < s.len) (hne : cs ≠ []) (k : ∀ p, s.p = some p → rds H p cs → K p) : ixa s i K := by
  rcases hr with rfl | ⟨hx, p, hp, hr⟩
  · exact absurd rfl hne
  · exact ⟨p, hp, hx, h0, h1, k p hp hr⟩

theorem ix_ldI {H : Heap} {k : IntKind} {s : Sl} {cs : List Value} {i : Int} {j : Nat} {x : Int} {K : Int → Prop} (hr : Sx.rdsl H s cs) (hi : i = j) (hl : j < s.len) (hc : cs[j]? = some (.int k x)) (h : K x) :
    ixa s i fun p => ldI H k (p.1, p.2 + i.toNat * 1) K := by
  subst hi
  refine ixa_of hr (by omega) (by omega) (by rintro rfl; simp at hc) fun p _ hp => ⟨x, ?_, h⟩
  have := rds_get hp j _ hc
  simpa using this

theorem ix_ldS {H : Heap} {s : Sl} {cs : List Value} {i : Int} {j : Nat} {x : Str} {K : Str → Prop} (hr : Sx.rdsl H s cs) (hi : i = j) (hl : j < s.len) (hc : cs[j]? = some (sv x)) (h : K x) :
    ixa s i fun p => ldS H (p.1, p.2 + i.toNat * 1) K := by
  subst hi
  refine ixa_of hr (by omega) (by omega) (by rintro rfl; simp at hc) fun p _ hp => ⟨x, ?_, h⟩
  have := rds_get hp j _ hc
  simpa using this

theorem ix_ldL {H : Heap} {s : Sl} {cs : List Value} {i : Int} {j : Nat} {x : Sl} {K : Sl → Prop} (hr : Sx.rdsl H s cs) (hi : i = j) (hl : j < s.len) (hc : cs[j]? = some (slv x)) (h : K x) :
    ixa s i fun p => ldL H (p.1, p.2 + i.toNat * 1) K := by
  subst hi
  refine ixa_of hr (by omega) (by omega) (by rintro rfl; simp at hc) fun p _ hp => ⟨x, ?_, h⟩
  have := rds_get hp j _ hc
  simpa using this

/-! ### parts of a slice -/
theorem rdsl_slice {H : Heap} {s : Sl} {cs : List Value} (hr : Sx.rdsl H s cs) {lo hi mx : Int} {z : Nat} (h0 : 0 ≤ lo) (h1 : lo ≤ hi) (h2 : hi ≤ mx) (hl : lo.toNat * z ≤ cs.length) :
    Sx.rdsl H ⟨if mx = lo then s.p else s.p.map (fun p => (p.1, p.2 + lo.toNat * z)), (hi - lo).toNat, (mx - lo).toNat, if mx = lo ∨ lo.toNat * z = 0 then s.x else none⟩ ((cs.drop (lo.toNat * z)).take ((hi - lo).toNat * z)) := by
  by_cases hm : mx = lo
  · left
    have : (hi - lo).toNat = 0 := by omega
    simp [this]
  · rcases hr with rfl | ⟨hx, p, hp, hr⟩
    · left; simp
    · right
      refine ⟨by simp [hx], (p.1, p.2 + lo.toNat * z), by simp [hm, hp], rds_take _ (rds_drop _ hr)⟩

theorem Im.slice {H : Heap} {s : Sl} {cs : List Value} (hr : Im H s cs) {lo hi mx : Int} {z : Nat} (h0 : 0 ≤ lo) (h1 : lo ≤ hi) (h2 : hi ≤ mx) :
    Im H ⟨if mx = lo then s.p else s.p.map (fun p => (p.1, p.2 + lo.toNat * z)), (hi - lo).toNat, (mx - lo).toNat, if mx = lo ∨ lo.toNat * z = 0 then s.x else none⟩ ((cs.drop (lo.toNat * z)).take ((hi - lo).toNat * z)) := by
  by_cases hm : mx = lo
  · left
    have : (hi - lo).toNat = 0 := by omega
    simp [this]
  · rcases hr with rfl | ⟨hx, b, o, c, hp, hb, hc⟩
    · left; simp
    · right
      refine ⟨by simp [hx], b, o + lo.toNat * z, c, by simp [hm, hp], hb, fun j v hj => ?_⟩
      rw [List.getElem?_take] at hj
      split at hj
      · rw [List.getElem?_drop] at hj
        have := hc _ _ hj
        rw [show o + lo.toNat * z + j = o + (lo.toNat * z + j) by omega]; exact this
      · cases hj

/-! ### cases -/
theorem ift_pos {c : Bool} {A B : Prop} (hc : c = true) (h : A) : ift c A B := ⟨fun _ => h, fun h' => by rw [hc] at h'; cases h'⟩
theorem ift_neg {c : Bool} {A B : Prop} (hc : c = false) (h : B) : ift c A B := ⟨fun h' => (by rw [hc] at h'; cases h'), fun _ => h⟩
end Sx
