/-
  Texts of this family, one behind the other: SlI, Sh1.
-/
import Derived.Test.YtgmcalaliipajaaGreatDoorAT1
import Derived.Test.YtgmcalaliipajaaGreatDoorProg
noncomputable section
set_option linter.unusedVariables false
set_option linter.unusedSimpArgs false
set_option maxRecDepth 10000
namespace Sx
open Go
theorem flat_getI {α β : Type} (f : α → List β) (z : Nat) (hz : ∀ x, (f x).length = z) : ∀ (l : List α) (i : Nat) (x : α), l[i]? = some x → ∀ (j : Nat) (v : β), (f x)[j]? = some v → (l.flatMap f)[i * z + j]? = some v
 | [], i, x, h, j, v, hv => by simp at h
 | y :: l, 0, x, h, j, v, hv => by
  simp at h; subst h
  rw [List.flatMap_cons, Nat.zero_mul, Nat.zero_add, List.getElem?_append_left (List.getElem?_eq_some_iff.1 hv).1]; exact hv
 | y :: l, i + 1, x, h, j, v, hv => by
  have := flat_getI f z hz l i x (by simpa using h) j v hv
  rw [List.flatMap_cons, List.getElem?_append_right (by rw [hz, Nat.add_mul]; omega), hz]
  rw [show (i + 1) * z + j - z = i * z + j by rw [Nat.add_mul]; omega]; exact this
/-- a list in memory -/
def SlIs {α β : Type} (R : α → β → Prop) (c : β → List Value) (A : Heap) (s : Sl) (l : List α) : Prop :=
 ∃ xs : List β, rdsl A s (xs.flatMap c) ∧ s.len = xs.length ∧ l.length = xs.length ∧ l.length ≤ 140737488355328 ∧ ∀ (i : Nat) (v : α) (x : β), l[i]? = some v → xs[i]? = some x → R v x
section
variable {α β : Type} {R : α → β → Prop} {c : β → List Value} {A H : Heap} {s : Sl} {l : List α}
theorem SlIs.len (h : SlIs R c A s l) : s.len = l.length := by obtain ⟨xs, h1, h2, h3, _⟩ := h; omega
theorem SlIs.bd (h : SlIs R c A s l) : l.length ≤ 140737488355328 := by obtain ⟨xs, h1, h2, h3, h4, _⟩ := h; exact h4
theorem SlIs.at_ (h : SlIs R c A s l) (hle : A.le H) {z : Nat} (hz : ∀ x, (c x).length = z) (hz0 : 0 < z) {i : Nat} {x : Int} {K : Nat × Nat → Prop} (hx : x = i) (hi : i < l.length) (k : ∀ p y, R l[i] y → (∀ j v, (c y)[j]? = some v → rd H (p.1, p.2 + x.toNat * z + j) = some v) → K p) : ixa s x K := by
 obtain ⟨xs, h1, h2, h3, _, h4⟩ := h
 have hi2 : i < xs.length := by omega
 have hg := List.getElem?_eq_getElem hi2
 subst hx
 refine ixa_of (rdsl_le hle h1) (by omega) (by omega) (fun e => ?_) fun p _ hp => k p xs[i] (h4 i _ _ (List.getElem?_eq_getElem hi) hg) fun j v hj => ?_
 ·have := flat_getI c z hz xs i _ hg 0 ((c xs[i])[0]'(by rw [hz]; exact hz0)) (by rw [List.getElem?_eq_getElem])
  rw [e] at this; simp at this
 ·have := rds_get hp _ _ (flat_getI c z hz xs i _ hg j v hj)
  have e0 : (i : Int).toNat = i := by omega
  rw [e0, Nat.add_assoc]; exact this
theorem SlIs.ld (h : SlIs R c A s l) (hle : A.le H) {z : Nat} (hz : ∀ x, (c x).length = z) (hz0 : 0 < z) {i : Nat} {x : Int} {K : β → Prop} (hx : x = i) (hi : i < l.length) (k : ∀ y, R l[i] y → K y) : ixa s x fun p => ldT H c (p.1, p.2 + x.toNat * z) K :=
 h.at_ hle hz hz0 hx hi fun p y hy hr => ⟨y, rds_of fun j v hj => hr j v hj, k y hy⟩
/-- all so far alike -/
theorem take_eq {l m : List α} {i : Nat} (h1 : i < l.length) (h2 : i < m.length) (h : l.take i = m.take i) (he : l[i] = m[i]) : l.take (i + 1) = m.take (i + 1) := by
 rw [List.take_add_one, List.take_add_one, h, List.getElem?_eq_getElem h1, List.getElem?_eq_getElem h2, he]
theorem get_ne {l m : List α} {i : Nat} (h1 : i < l.length) (h2 : i < m.length) (he : l[i] ≠ m[i]) : l ≠ m := fun e => by subst e; exact he rfl
theorem take_all {l m : List α} {i : Nat} (h1 : i = l.length) (h2 : l.length = m.length) (h : l.take i = m.take i) : l = m := by
 rw [h1, List.take_length, h2, List.take_length] at h; exact h
end
section
variable {α β : Type} {R R2 : α → β → Prop} {c : β → List Value} {A B : Heap} {s : Sl} {l : List α}
theorem SlIs.le (hle : A.le B) (h : SlIs R c A s l) (hR : ∀ v ∈ l, ∀ x, R v x → R2 v x) : SlIs R2 c B s l := by
 obtain ⟨xs, h1, h2, h3, h4, h5⟩ := h
 exact ⟨xs, rdsl_le hle h1, h2, h3, h4, fun i v x hv hx => hR v (List.mem_of_getElem? hv) x (h5 i v x hv hx)⟩
end
open Classical in
noncomputable def sm {α : Type} (v w : α) : Bool := decide (v = w)
section
variable {C : Ctx} {H : Heap}
theorem box2 {cx cy : List Value} {K : Nat → Nat → Heap → Prop} (k : ∀ b1 b3 H4, H.le H4 → H4 b1 = some (true, .row cx) → H4 b3 = some (true, .row cy) → K b1 b3 H4) : nw cx (fun b1 H2 => nw cy (fun b3 H4 => K b1 b3 H4) H2) H := by
 intro b1 n1 b3 n3
 have ne : b1 ≠ b3 := fun e => by rw [e, Heap.put_same] at n3; cases n3
 exact k b1 b3 _ ((Heap.le_put n1).trans (Heap.le_put n3)) (by rw [Heap.put_ne _ _ _ ne, Heap.put_same]) (Heap.put_same ..)
theorem nwT {b : Nat} {cx c0 : List Value} {K : Heap → Prop} (hl : cx.length = c0.length) (k : K (H.put b (.row cx))) : stT (b, 0) cx K (H.put b (.row c0)) := by
 refine ⟨_, Heap.put_same .., by rw [hl]; simp, ?_⟩
 rw [Heap.put_put]
 have e : splice c0 (b, 0).2 cx = cx := by
  unfold splice
  rw [List.take_zero, List.nil_append, List.drop_of_length_le (by rw [hl]; simp), List.append_nil]
 rw [e]; exact k
theorem bxT {β : Type} {c : β → List Value} {b : Nat} {m : Bool} {x : β} {K : β → Prop} (h : H b = some (m, .row (c x))) (k : K x) : ldT H c (b, 0) K := ⟨x, rds_row h fun j v hj => by rw [Nat.zero_add]; exact hj, k⟩
theorem fI {b j : Nat} {m : Bool} {cs : List Value} {q : IntKind} {t : Int} {K : Int → Prop} (h : H b = some (m, .row cs)) (hj : cs[j]? = some (.int q t)) (k : K t) : ldI H q ((b, 0).1, (b, 0).2 + j) K := ⟨t, by rw [rd_row h, Nat.zero_add]; exact hj, k⟩
theorem fL {b j : Nat} {m : Bool} {cs : List Value} {t : Sl} {K : Sl → Prop} (h : H b = some (m, .row cs)) (hj : cs[j]? = some (slv t)) (k : K t) : ldL H ((b, 0).1, (b, 0).2 + j) K := ⟨t, by rw [rd_row h, Nat.zero_add]; exact hj, k⟩
theorem cu {P : Program} {f : FuncId} {vs : List Value} {Φ : Value → Heap → Prop} (hok : CallOk P f) (h : Spec P C f vs H Φ) : callU P C (.func (.func f) (List.toArray []) (List.toArray [])) vs H Φ := ⟨f, [], [], rfl, hok, by simpa using h⟩
end
section
variable {α β : Type} {R : α → β → Prop} {c : β → List Value} {A H : Heap} {s : Sl} {l : List α} {z : Nat} {i j : Nat} {x : Int}
theorem SlIs.fI {q : IntKind} {K : Int → Prop} (h : SlIs R c A s l) (hle : A.le H) (hz : ∀ x, (c x).length = z) (hz0 : 0 < z) (hx : x = i) (hi : i < l.length) {f : β → Int} (hj : ∀ y, (c y)[j]? = some (.int q (f y))) (k : ∀ y, R l[i] y → K (f y)) : ixa s x fun p => ldI H q ((p.1, p.2 + x.toNat * z).1, (p.1, p.2 + x.toNat * z).2 + j) K :=
 h.at_ hle hz hz0 hx hi fun p y hy hr => ⟨f y, hr j _ (hj y), k y hy⟩
theorem SlIs.fL {K : Sl → Prop} (h : SlIs R c A s l) (hle : A.le H) (hz : ∀ x, (c x).length = z) (hz0 : 0 < z) (hx : x = i) (hi : i < l.length) {f : β → Sl} (hj : ∀ y, (c y)[j]? = some (slv (f y))) (k : ∀ y, R l[i] y → K (f y)) : ixa s x fun p => ldL H ((p.1, p.2 + x.toNat * z).1, (p.1, p.2 + x.toNat * z).2 + j) K :=
 h.at_ hle hz hz0 hx hi fun p y hy hr => ⟨f y, hr j _ (hj y), k y hy⟩
end
theorem jb {P : Prop} {R : Bool → Heap → Prop} {body : (Bool → Heap → Prop) → Prop} (H0 : Heap) (h1 : body (fun b E => E = H0 ∧ (b = true ↔ P))) (h2 : ∀ b, (b = true ↔ P) → R b H0) : jn (α := Bool) R body := ⟨fun b E => E = H0 ∧ (b = true ↔ P), h1, fun b E hh => by obtain ⟨e, h⟩ := hh; subst e; exact h2 b h⟩
theorem n1 {b : Bool} {P Q : Prop} (hb : b = true ↔ ¬P) (h : b = true) : (true = true ↔ ¬(P ∧ Q)) := ⟨fun _ hh => hb.1 h hh.1, fun _ => rfl⟩
theorem n2 {b r : Bool} {P Q : Prop} (hb : b = true ↔ ¬P) (h : b = false) (hr : r = true ↔ ¬Q) : (r = true ↔ ¬(P ∧ Q)) := by
 have hp : P := Classical.byContradiction fun e => by rw [hb.2 e] at h; cases h
 rw [hr]; exact ⟨fun hq hh => hq hh.2, fun hh hq => hh ⟨hp, hq⟩⟩
theorem n3 {b : Bool} {P : Prop} (hb : b = true ↔ ¬P) (h : b = false) : P := Classical.byContradiction fun e => by rw [hb.2 e] at h; cases h
theorem niq {a b a' b' : Int} (ha : a = a') (hb : b = b') : ((a != b) = true ↔ ¬ a' = b') := by rw [ha, hb]; simp
theorem nlen {α β α' β' : Type} {R : α → β → Prop} {c : β → List Value} {R' : α' → β' → Prop} {c' : β' → List Value} {A B : Heap} {s t : Sl} {l : List α} {m : List α'} (h1 : SlIs R c A s l) (h2 : SlIs R' c' B t m) : ((((Sl.len s : Int) : Int) != (Sl.len t : Int)) = true ↔ ¬ l.length = m.length) := by
 rw [h1.len, h2.len, bne_iff_ne]; omega
theorem lpEq {α : Type} {l m : List α} {H : Heap} {body : Int → (Int → Heap → Prop) → Heap → Prop} (hb : l.length ≤ 140737488355328)
 (step : ∀ (i : Nat) (D : Heap) (J : Int → Heap → Prop), H.le D → i ≤ l.length → l.take i = m.take i → (i < l.length → ∀ D', H.le D' → l.take (i + 1) = m.take (i + 1) → J (w .i64 ((i : Int) + 1)) D') → body (i : Int) J D) : lp (α := Int) 0 H body := by
 refine ⟨fun x D => H.le D ∧ ∃ i : Nat, x = (i : Int) ∧ i ≤ l.length ∧ l.take i = m.take i, fun x _ => l.length - x.toNat, ⟨Heap.le.refl _, 0, rfl, Nat.zero_le _, rfl⟩, ?_⟩
 rintro _ D ⟨hD, i, rfl, hi, hq⟩
 refine step i D _ hD hi hq fun hlt D' hD' ht => ?_
 rw [w_i64 (by omega) (by omega)]
 exact ⟨⟨hD', i + 1, by omega, by omega, ht⟩, by first | omega | (dsimp only; omega)⟩
theorem nw2 {D : Heap} {z z' cx cy : List Value} {K : Nat → Nat → Heap → Prop} (hx : cx.length = z.length) (hy : cy.length = z'.length)
 (k : ∀ b1 b2 E, D.le E → E b1 = some (true, .row cx) → E b2 = some (true, .row cy) → K b1 b2 E) :
 nw z (fun b1 H1 => D.le H1 ∧ nw z' (fun b2 H2 => D.le H2 ∧ stT (b1, 0) cx (fun H3 => D.le H3 ∧ stT (b2, 0) cy (fun H4 => K b1 b2 H4) H3) H2) H1) D := by
 intro b1 n1
 have l1 := Heap.le_put n1 (g := .row z) (m := true)
 refine ⟨l1, ?_⟩
 intro b2 n2
 have l2 := Heap.le_put n2 (g := .row z') (m := true)
 refine ⟨l1.trans l2, ?_⟩
 have ne : b1 ≠ b2 := fun e => by rw [← e, Heap.put_same] at n2; cases n2
 have d1 : D b1 = none := n1
 have d2 : D b2 = none := by rw [Heap.put_ne _ _ _ ne.symm] at n2; exact n2
 have sp : ∀ (c d : List Value), d.length = c.length → splice c 0 d = d := fun c d h => by
  unfold splice
  rw [List.take_zero, List.nil_append, List.drop_of_length_le (by rw [h]; simp), List.append_nil]
 refine ⟨z, by rw [Heap.put_ne _ _ _ ne, Heap.put_same], by rw [hx]; simp, ?_⟩
 rw [show splice z (b1, 0).2 cx = cx from sp z cx hx]
 have hh : ∀ (E : Heap), (∀ b, b ≠ b1 → b ≠ b2 → E b = D b) → D.le E := fun E h b v hb => by
  rw [h b (fun e => by subst e; rw [d1] at hb; cases hb) (fun e => by subst e; rw [d2] at hb; cases hb)]; exact hb
 refine ⟨hh _ fun b g1 g2 => by simp only [Heap.put_ne _ _ _ g1, Heap.put_ne _ _ _ g2], ?_⟩
 refine ⟨z', by rw [Heap.put_ne _ _ _ ne.symm, Heap.put_same], by rw [hy]; simp, ?_⟩
 rw [show splice z' (b2, 0).2 cy = cy from sp z' cy hy]
 refine k b1 b2 _ (hh _ fun b g1 g2 => by simp only [Heap.put_ne _ _ _ g1, Heap.put_ne _ _ _ g2]) ?_ ?_
 ·rw [Heap.put_ne _ _ _ ne, Heap.put_same]
 ·rw [Heap.put_same]
end Sx
end

noncomputable section
set_option linter.unusedVariables false
set_option maxRecDepth 100000
namespace Sx
open Go Go.Proofs
structure T_law24_Case where
 A : Sl
 DA : Sl
 B : Sl
 DB : Sl
 On : Sl
def T_law24_Case.c (x : T_law24_Case) : List Value := [slv x.A, slv x.DA, slv x.B, slv x.DB, slv x.On]
def T_law24_Case.zero : T_law24_Case := ⟨Sl.nil, Sl.nil, Sl.nil, Sl.nil, Sl.nil⟩
structure T_api_Value where
 Kind : Int
 N : Int
 S : Str
 L : Sl
def T_api_Value.c (x : T_api_Value) : List Value := [.int .u8 x.Kind, .int .i64 x.N, sv x.S, slv x.L]
def T_api_Value.zero : T_api_Value := ⟨0, 0, [], Sl.nil⟩
structure T_delta_part where
 was_ : Sl
 add_ : Sl
 is_ : Sl
def T_delta_part.c (x : T_delta_part) : List Value := [slv x.was_, slv x.add_, slv x.is_]
def T_delta_part.zero : T_delta_part := ⟨Sl.nil, Sl.nil, Sl.nil⟩
structure T_delta_side where
 places_ : Sl
def T_delta_side.c (x : T_delta_side) : List Value := [slv x.places_]
def T_delta_side.zero : T_delta_side := ⟨Sl.nil⟩
structure T_zset_Entry where
 Row : Sl
 N : Int
def T_zset_Entry.c (x : T_zset_Entry) : List Value := [slv x.Row, .int .i64 x.N]
def T_zset_Entry.zero : T_zset_Entry := ⟨Sl.nil, 0⟩
structure T_delta_Pair where
 Left : Int
 Right : Int
def T_delta_Pair.c (x : T_delta_Pair) : List Value := [.int .i64 x.Left, .int .i64 x.Right]
def T_delta_Pair.zero : T_delta_Pair := ⟨0, 0⟩
structure T_S_from_zset_Entry_to_zset_Entry where
 from_ : Sl
 to_ : Option (Nat × Nat)
def T_S_from_zset_Entry_to_zset_Entry.c (x : T_S_from_zset_Entry_to_zset_Entry) : List Value := [slv x.from_, pv x.to_]
def T_S_from_zset_Entry_to_zset_Entry.zero : T_S_from_zset_Entry_to_zset_Entry := ⟨Sl.nil, none⟩
structure T_zset_part where
 l_ : Sl
 do_ : Value
def T_zset_part.c (x : T_zset_part) : List Value := [slv x.l_, x.do_]
def T_zset_part.zero : T_zset_part := ⟨Sl.nil, .nilFunc⟩
structure T_unicode_utf8_acceptRange where
 lo_ : Int
 hi_ : Int
def T_unicode_utf8_acceptRange.c (x : T_unicode_utf8_acceptRange) : List Value := [.int .u8 x.lo_, .int .u8 x.hi_]
def T_unicode_utf8_acceptRange.zero : T_unicode_utf8_acceptRange := ⟨0, 0⟩
theorem ok_law24_Case_large : CallOk Tryz.prog 8 := ⟨⟨_, Tryz.func8, rfl, by decide +kernel⟩⟩
theorem ok_law24_awake : CallOk Tryz.prog 9 := ⟨⟨_, Tryz.func9, rfl, by decide +kernel⟩⟩
theorem ok_law24_given : CallOk Tryz.prog 10 := ⟨⟨_, Tryz.func10, rfl, by decide +kernel⟩⟩
theorem ok_law24_pairs : CallOk Tryz.prog 11 := ⟨⟨_, Tryz.func11, rfl, by decide +kernel⟩⟩
theorem ok_delta_JoinChange : CallOk Tryz.prog 12 := ⟨⟨_, Tryz.func12, rfl, by decide +kernel⟩⟩
theorem ok_delta_AntiChange : CallOk Tryz.prog 15 := ⟨⟨_, Tryz.func15, rfl, by decide +kernel⟩⟩
theorem ok_delta_DistinctChange : CallOk Tryz.prog 17 := ⟨⟨_, Tryz.func17, rfl, by decide +kernel⟩⟩
theorem ok_ref16_Same : CallOk Tryz.prog 19 := ⟨⟨_, Tryz.func19, rfl, by decide +kernel⟩⟩
theorem ok_law24_back : CallOk Tryz.prog 20 := ⟨⟨_, Tryz.func20, rfl, by decide +kernel⟩⟩
theorem ok_delta_Join : CallOk Tryz.prog 22 := ⟨⟨_, Tryz.func22, rfl, by decide +kernel⟩⟩
theorem ok_delta_Anti : CallOk Tryz.prog 23 := ⟨⟨_, Tryz.func23, rfl, by decide +kernel⟩⟩
theorem ok_law24_small : CallOk Tryz.prog 24 := ⟨⟨_, Tryz.func24, rfl, by decide +kernel⟩⟩
theorem ok_law24_plus : CallOk Tryz.prog 25 := ⟨⟨_, Tryz.func25, rfl, by decide +kernel⟩⟩
theorem ok_law24_same : CallOk Tryz.prog 26 := ⟨⟨_, Tryz.func26, rfl, by decide +kernel⟩⟩
theorem ok_zset_Distinct : CallOk Tryz.prog 27 := ⟨⟨_, Tryz.func27, rfl, by decide +kernel⟩⟩
theorem ok_law24_large : CallOk Tryz.prog 28 := ⟨⟨_, Tryz.func28, rfl, by decide +kernel⟩⟩
theorem ok_law24_awake_1 : CallOk Tryz.prog 29 := ⟨⟨_, Tryz.func29, rfl, by decide +kernel⟩⟩
theorem ok_law24_awake_2 : CallOk Tryz.prog 30 := ⟨⟨_, Tryz.func30, rfl, by decide +kernel⟩⟩
theorem ok_ref02_Own : CallOk Tryz.prog 31 := ⟨⟨_, Tryz.func31, rfl, by decide +kernel⟩⟩
theorem ok_delta_parts : CallOk Tryz.prog 32 := ⟨⟨_, Tryz.func32, rfl, by decide +kernel⟩⟩
theorem ok_zset_Clean : CallOk Tryz.prog 33 := ⟨⟨_, Tryz.func33, rfl, by decide +kernel⟩⟩
theorem ok_delta_pair : CallOk Tryz.prog 34 := ⟨⟨_, Tryz.func34, rfl, by decide +kernel⟩⟩
theorem ok_zset_Less : CallOk Tryz.prog 35 := ⟨⟨_, Tryz.func35, rfl, by decide +kernel⟩⟩
theorem ok_delta_none : CallOk Tryz.prog 40 := ⟨⟨_, Tryz.func40, rfl, by decide +kernel⟩⟩
theorem ok_delta_less : CallOk Tryz.prog 41 := ⟨⟨_, Tryz.func41, rfl, by decide +kernel⟩⟩
theorem ok_delta_side_whole : CallOk Tryz.prog 43 := ⟨⟨_, Tryz.func43, rfl, by decide +kernel⟩⟩
theorem ok_ref02_SameRow : CallOk Tryz.prog 45 := ⟨⟨_, Tryz.func45, rfl, by decide +kernel⟩⟩
theorem ok_value_Check : CallOk Tryz.prog 46 := ⟨⟨_, Tryz.func46, rfl, by decide +kernel⟩⟩
theorem ok_zset_Add : CallOk Tryz.prog 47 := ⟨⟨_, Tryz.func47, rfl, by decide +kernel⟩⟩
theorem ok_slices_DeleteFunc_zset_Entry_zset_Entry : CallOk Tryz.prog 48 := ⟨⟨_, Tryz.func48, rfl, by decide +kernel⟩⟩
theorem ok_zset_Distinct_1 : CallOk Tryz.prog 49 := ⟨⟨_, Tryz.func49, rfl, by decide +kernel⟩⟩
theorem ok_law24_weight : CallOk Tryz.prog 50 := ⟨⟨_, Tryz.func50, rfl, by decide +kernel⟩⟩
theorem ok_zset_sums : CallOk Tryz.prog 51 := ⟨⟨_, Tryz.func51, rfl, by decide +kernel⟩⟩
theorem ok_zset_as : CallOk Tryz.prog 52 := ⟨⟨_, Tryz.func52, rfl, by decide +kernel⟩⟩
theorem ok_delta_sides : CallOk Tryz.prog 53 := ⟨⟨_, Tryz.func53, rfl, by decide +kernel⟩⟩
theorem ok_delta_side_by : CallOk Tryz.prog 54 := ⟨⟨_, Tryz.func54, rfl, by decide +kernel⟩⟩
theorem ok_delta_side_key : CallOk Tryz.prog 55 := ⟨⟨_, Tryz.func55, rfl, by decide +kernel⟩⟩
theorem ok_zset_turn : CallOk Tryz.prog 56 := ⟨⟨_, Tryz.func56, rfl, by decide +kernel⟩⟩
theorem ok_ref02_Same : CallOk Tryz.prog 62 := ⟨⟨_, Tryz.func62, rfl, by decide +kernel⟩⟩
theorem ok_value_depth : CallOk Tryz.prog 63 := ⟨⟨_, Tryz.func63, rfl, by decide +kernel⟩⟩
theorem ok_value_item_look : CallOk Tryz.prog 64 := ⟨⟨_, Tryz.func64, rfl, by decide +kernel⟩⟩
theorem ok_slices_IndexFunc_zset_Entry_zset_Entry : CallOk Tryz.prog 65 := ⟨⟨_, Tryz.func65, rfl, by decide +kernel⟩⟩
theorem ok_zset_each : CallOk Tryz.prog 66 := ⟨⟨_, Tryz.func66, rfl, by decide +kernel⟩⟩
theorem ok_slices_ContainsFunc_api_Value_api_Value : CallOk Tryz.prog 67 := ⟨⟨_, Tryz.func67, rfl, by decide +kernel⟩⟩
theorem ok_zset_sums_1 : CallOk Tryz.prog 68 := ⟨⟨_, Tryz.func68, rfl, by decide +kernel⟩⟩
theorem ok_zset_out : CallOk Tryz.prog 69 := ⟨⟨_, Tryz.func69, rfl, by decide +kernel⟩⟩
theorem ok_slices_SortStableFunc_zset_Entry_zset_Entry : CallOk Tryz.prog 70 := ⟨⟨_, Tryz.func70, rfl, by decide +kernel⟩⟩
theorem ok_zset_sums_2 : CallOk Tryz.prog 71 := ⟨⟨_, Tryz.func71, rfl, by decide +kernel⟩⟩
theorem ok_value_CmpRows : CallOk Tryz.prog 72 := ⟨⟨_, Tryz.func72, rfl, by decide +kernel⟩⟩
theorem ok_zset_own : CallOk Tryz.prog 73 := ⟨⟨_, Tryz.func73, rfl, by decide +kernel⟩⟩
theorem ok_value_Show : CallOk Tryz.prog 74 := ⟨⟨_, Tryz.func74, rfl, by decide +kernel⟩⟩
theorem ok_value_number : CallOk Tryz.prog 77 := ⟨⟨_, Tryz.func77, rfl, by decide +kernel⟩⟩
theorem ok_strings_Cut : CallOk Tryz.prog 78 := ⟨⟨_, Tryz.func78, rfl, by decide +kernel⟩⟩
theorem ok_value_name : CallOk Tryz.prog 79 := ⟨⟨_, Tryz.func79, rfl, by decide +kernel⟩⟩
theorem ok_zset_each_1 : CallOk Tryz.prog 80 := ⟨⟨_, Tryz.func80, rfl, by decide +kernel⟩⟩
theorem ok_slices_IndexFunc_api_Value_api_Value : CallOk Tryz.prog 81 := ⟨⟨_, Tryz.func81, rfl, by decide +kernel⟩⟩
theorem ok_slices_stableCmpFunc_zset_Entry : CallOk Tryz.prog 82 := ⟨⟨_, Tryz.func82, rfl, by decide +kernel⟩⟩
theorem ok_value_may : CallOk Tryz.prog 83 := ⟨⟨_, Tryz.func83, rfl, by decide +kernel⟩⟩
theorem ok_value_last : CallOk Tryz.prog 84 := ⟨⟨_, Tryz.func84, rfl, by decide +kernel⟩⟩
theorem ok_value_rows : CallOk Tryz.prog 85 := ⟨⟨_, Tryz.func85, rfl, by decide +kernel⟩⟩
theorem ok_slices_Clone_api_Value_api_Value : CallOk Tryz.prog 86 := ⟨⟨_, Tryz.func86, rfl, by decide +kernel⟩⟩
theorem ok_value_Show_1 : CallOk Tryz.prog 87 := ⟨⟨_, Tryz.func87, rfl, by decide +kernel⟩⟩
theorem ok_strings_Builder_WriteByte : CallOk Tryz.prog 88 := ⟨⟨_, Tryz.func88, rfl, by decide +kernel⟩⟩
theorem ok_strings_Builder_WriteString : CallOk Tryz.prog 89 := ⟨⟨_, Tryz.func89, rfl, by decide +kernel⟩⟩
theorem ok_value_Show_2 : CallOk Tryz.prog 90 := ⟨⟨_, Tryz.func90, rfl, by decide +kernel⟩⟩
theorem ok_strconv_FormatBool : CallOk Tryz.prog 91 := ⟨⟨_, Tryz.func91, rfl, by decide +kernel⟩⟩
theorem ok_strconv_FormatInt : CallOk Tryz.prog 92 := ⟨⟨_, Tryz.func92, rfl, by decide +kernel⟩⟩
theorem ok_value_quote : CallOk Tryz.prog 93 := ⟨⟨_, Tryz.func93, rfl, by decide +kernel⟩⟩
theorem ok_strings_Builder_String : CallOk Tryz.prog 94 := ⟨⟨_, Tryz.func94, rfl, by decide +kernel⟩⟩
theorem ok_strings_TrimPrefix : CallOk Tryz.prog 98 := ⟨⟨_, Tryz.func98, rfl, by decide +kernel⟩⟩
theorem ok_strings_Trim : CallOk Tryz.prog 99 := ⟨⟨_, Tryz.func99, rfl, by decide +kernel⟩⟩
theorem ok_internal_stringslite_Cut : CallOk Tryz.prog 100 := ⟨⟨_, Tryz.func100, rfl, by decide +kernel⟩⟩
theorem ok_slices_insertionSortCmpFunc_zset_Entry : CallOk Tryz.prog 101 := ⟨⟨_, Tryz.func101, rfl, by decide +kernel⟩⟩
theorem ok_slices_symMergeCmpFunc_zset_Entry : CallOk Tryz.prog 102 := ⟨⟨_, Tryz.func102, rfl, by decide +kernel⟩⟩
theorem ok_value_may_1 : CallOk Tryz.prog 103 := ⟨⟨_, Tryz.func103, rfl, by decide +kernel⟩⟩
theorem ok_slices_CompareFunc_api_Value_api_Value_api_Value_api_Value : CallOk Tryz.prog 104 := ⟨⟨_, Tryz.func104, rfl, by decide +kernel⟩⟩
theorem ok_value_rows_1 : CallOk Tryz.prog 105 := ⟨⟨_, Tryz.func105, rfl, by decide +kernel⟩⟩
theorem ok_value_item_cmp : CallOk Tryz.prog 106 := ⟨⟨_, Tryz.func106, rfl, by decide +kernel⟩⟩
theorem ok_strings_Builder_copyCheck : CallOk Tryz.prog 107 := ⟨⟨_, Tryz.func107, rfl, by decide +kernel⟩⟩
theorem ok_internal_strconv_FormatBool : CallOk Tryz.prog 108 := ⟨⟨_, Tryz.func108, rfl, by decide +kernel⟩⟩
theorem ok_internal_stringslite_TrimPrefix : CallOk Tryz.prog 113 := ⟨⟨_, Tryz.func113, rfl, by decide +kernel⟩⟩
theorem ok_strings_trimLeftByte : CallOk Tryz.prog 114 := ⟨⟨_, Tryz.func114, rfl, by decide +kernel⟩⟩
theorem ok_strings_trimRightByte : CallOk Tryz.prog 115 := ⟨⟨_, Tryz.func115, rfl, by decide +kernel⟩⟩
theorem ok_strings_makeASCIISet : CallOk Tryz.prog 116 := ⟨⟨_, Tryz.func116, rfl, by decide +kernel⟩⟩
theorem ok_strings_trimLeftASCII : CallOk Tryz.prog 117 := ⟨⟨_, Tryz.func117, rfl, by decide +kernel⟩⟩
theorem ok_strings_trimRightASCII : CallOk Tryz.prog 118 := ⟨⟨_, Tryz.func118, rfl, by decide +kernel⟩⟩
theorem ok_strings_trimLeftUnicode : CallOk Tryz.prog 119 := ⟨⟨_, Tryz.func119, rfl, by decide +kernel⟩⟩
theorem ok_strings_trimRightUnicode : CallOk Tryz.prog 120 := ⟨⟨_, Tryz.func120, rfl, by decide +kernel⟩⟩
theorem ok_internal_stringslite_Index : CallOk Tryz.prog 121 := ⟨⟨_, Tryz.func121, rfl, by decide +kernel⟩⟩
theorem ok_slices_rotateCmpFunc_zset_Entry : CallOk Tryz.prog 122 := ⟨⟨_, Tryz.func122, rfl, by decide +kernel⟩⟩
theorem ok_cmp_Compare_uint8 : CallOk Tryz.prog 123 := ⟨⟨_, Tryz.func123, rfl, by decide +kernel⟩⟩
theorem ok_value_bigs : CallOk Tryz.prog 124 := ⟨⟨_, Tryz.func124, rfl, by decide +kernel⟩⟩
theorem ok_cmp_Compare_string : CallOk Tryz.prog 125 := ⟨⟨_, Tryz.func125, rfl, by decide +kernel⟩⟩
theorem ok_cmp_Or_int : CallOk Tryz.prog 126 := ⟨⟨_, Tryz.func126, rfl, by decide +kernel⟩⟩
theorem ok_cmp_Compare_int64 : CallOk Tryz.prog 127 := ⟨⟨_, Tryz.func127, rfl, by decide +kernel⟩⟩
theorem ok_internal_stringslite_HasPrefix : CallOk Tryz.prog 138 := ⟨⟨_, Tryz.func138, rfl, by decide +kernel⟩⟩
theorem ok_strings_asciiSet_contains : CallOk Tryz.prog 139 := ⟨⟨_, Tryz.func139, rfl, by decide +kernel⟩⟩
theorem ok_internal_stringslite_IndexByte : CallOk Tryz.prog 143 := ⟨⟨_, Tryz.func143, rfl, by decide +kernel⟩⟩
theorem ok_internal_bytealg_Cutover : CallOk Tryz.prog 145 := ⟨⟨_, Tryz.func145, rfl, by decide +kernel⟩⟩
theorem ok_internal_bytealg_IndexRabinKarp_string : CallOk Tryz.prog 146 := ⟨⟨_, Tryz.func146, rfl, by decide +kernel⟩⟩
theorem ok_slices_swapRangeCmpFunc_zset_Entry : CallOk Tryz.prog 147 := ⟨⟨_, Tryz.func147, rfl, by decide +kernel⟩⟩
theorem ok_cmp_isNaN_uint8 : CallOk Tryz.prog 148 := ⟨⟨_, Tryz.func148, rfl, by decide +kernel⟩⟩
theorem ok_strings_HasPrefix : CallOk Tryz.prog 149 := ⟨⟨_, Tryz.func149, rfl, by decide +kernel⟩⟩
theorem ok_cmp_Compare_int : CallOk Tryz.prog 150 := ⟨⟨_, Tryz.func150, rfl, by decide +kernel⟩⟩
theorem ok_cmp_isNaN_string : CallOk Tryz.prog 151 := ⟨⟨_, Tryz.func151, rfl, by decide +kernel⟩⟩
theorem ok_cmp_isNaN_int64 : CallOk Tryz.prog 152 := ⟨⟨_, Tryz.func152, rfl, by decide +kernel⟩⟩
theorem ok_cmp_isNaN_int : CallOk Tryz.prog 166 := ⟨⟨_, Tryz.func166, rfl, by decide +kernel⟩⟩
theorem ext_internal_abi_NoEscape : ExtOk Tryz.prog 128 Extern.AbiNoEscape.same := ⟨⟨_, Tryz.func128, by kernel_rfl, by kernel_rfl, by kernel_rfl, by kernel_rfl⟩⟩
theorem ext_internal_bytealg_IndexByteString : ExtOk Tryz.prog 164 Extern.BytealgIndexByte.indexByte := ⟨⟨_, Tryz.func164, by kernel_rfl, by kernel_rfl, by kernel_rfl, by kernel_rfl⟩⟩
abbrev tyB : TypeId := 128
abbrev tyE : TypeId := 5
abbrev Bd (bs : Str) : GO := .bld tyB tyE bs
def c_law24_DeltaTwice (C : Ctx) (p_c : T_law24_Case) (p_more : Sl) (K : Bool → Heap → Prop) (H : Heap) : Prop :=
 Spec Tryz.prog C 6 [.agg (T_law24_Case.c p_c).toArray, slv p_more] H (fun v H2 => ∃ (r0 : Bool), v = .bool r0 ∧ K r0 H2)
theorem c_law24_DeltaTwice.mono {C : Ctx} {p_c : T_law24_Case} {p_more : Sl} {K K2 : Bool → Heap → Prop} {H : Heap} (h : c_law24_DeltaTwice C p_c p_more K H) (hk : ∀ r0 H2, K r0 H2 → K2 r0 H2) : c_law24_DeltaTwice C p_c p_more K2 H :=
 Spec.mono h fun _ H2 ⟨r0, hv, h2⟩ => ⟨r0, hv, hk r0 H2 h2⟩
theorem c_law24_DeltaTwice.gh {C : Ctx} {p_c : T_law24_Case} {p_more : Sl} {K : Bool → Heap → Prop} {H : Heap} (h : c_law24_DeltaTwice C p_c p_more (fun r0 H2 => ∃ H0, Gh C H2 H0 ∧ K r0 H0) H) : c_law24_DeltaTwice C p_c p_more K H :=
 Spec.gh (Spec.mono h fun _ H2 ⟨r0, hv, H0, hg, hk⟩ => ⟨H0, hg, r0, hv, hk⟩)
def c_law24_Case_large (C : Ctx) (p_c : T_law24_Case) (K : Bool → Heap → Prop) (H : Heap) : Prop :=
 Spec Tryz.prog C 8 [.agg (T_law24_Case.c p_c).toArray] H (fun v H2 => ∃ (r0 : Bool), v = .bool r0 ∧ K r0 H2)
theorem c_law24_Case_large.mono {C : Ctx} {p_c : T_law24_Case} {K K2 : Bool → Heap → Prop} {H : Heap} (h : c_law24_Case_large C p_c K H) (hk : ∀ r0 H2, K r0 H2 → K2 r0 H2) : c_law24_Case_large C p_c K2 H :=
 Spec.mono h fun _ H2 ⟨r0, hv, h2⟩ => ⟨r0, hv, hk r0 H2 h2⟩
theorem c_law24_Case_large.gh {C : Ctx} {p_c : T_law24_Case} {K : Bool → Heap → Prop} {H : Heap} (h : c_law24_Case_large C p_c (fun r0 H2 => ∃ H0, Gh C H2 H0 ∧ K r0 H0) H) : c_law24_Case_large C p_c K H :=
 Spec.gh (Spec.mono h fun _ H2 ⟨r0, hv, H0, hg, hk⟩ => ⟨H0, hg, r0, hv, hk⟩)
def c_law24_awake (C : Ctx) (K : Bool → Heap → Prop) (H : Heap) : Prop :=
 Spec Tryz.prog C 9 [] H (fun v H2 => ∃ (r0 : Bool), v = .bool r0 ∧ K r0 H2)
theorem c_law24_awake.mono {C : Ctx} {K K2 : Bool → Heap → Prop} {H : Heap} (h : c_law24_awake C  K H) (hk : ∀ r0 H2, K r0 H2 → K2 r0 H2) : c_law24_awake C  K2 H :=
 Spec.mono h fun _ H2 ⟨r0, hv, h2⟩ => ⟨r0, hv, hk r0 H2 h2⟩
theorem c_law24_awake.gh {C : Ctx} {K : Bool → Heap → Prop} {H : Heap} (h : c_law24_awake C  (fun r0 H2 => ∃ H0, Gh C H2 H0 ∧ K r0 H0) H) : c_law24_awake C  K H :=
 Spec.gh (Spec.mono h fun _ H2 ⟨r0, hv, H0, hg, hk⟩ => ⟨H0, hg, r0, hv, hk⟩)
def c_law24_given (C : Ctx) (p_l : Sl) (K : Sl → Heap → Prop) (H : Heap) : Prop :=
 Spec Tryz.prog C 10 [slv p_l] H (fun v H2 => ∃ (r0 : Sl), v = slv r0 ∧ K r0 H2)
theorem c_law24_given.mono {C : Ctx} {p_l : Sl} {K K2 : Sl → Heap → Prop} {H : Heap} (h : c_law24_given C p_l K H) (hk : ∀ r0 H2, K r0 H2 → K2 r0 H2) : c_law24_given C p_l K2 H :=
 Spec.mono h fun _ H2 ⟨r0, hv, h2⟩ => ⟨r0, hv, hk r0 H2 h2⟩
theorem c_law24_given.gh {C : Ctx} {p_l : Sl} {K : Sl → Heap → Prop} {H : Heap} (h : c_law24_given C p_l (fun r0 H2 => ∃ H0, Gh C H2 H0 ∧ K r0 H0) H) : c_law24_given C p_l K H :=
 Spec.gh (Spec.mono h fun _ H2 ⟨r0, hv, H0, hg, hk⟩ => ⟨H0, hg, r0, hv, hk⟩)
def c_law24_pairs (C : Ctx) (p_l : Sl) (K : Sl → Heap → Prop) (H : Heap) : Prop :=
 Spec Tryz.prog C 11 [slv p_l] H (fun v H2 => ∃ (r0 : Sl), v = slv r0 ∧ K r0 H2)
theorem c_law24_pairs.mono {C : Ctx} {p_l : Sl} {K K2 : Sl → Heap → Prop} {H : Heap} (h : c_law24_pairs C p_l K H) (hk : ∀ r0 H2, K r0 H2 → K2 r0 H2) : c_law24_pairs C p_l K2 H :=
 Spec.mono h fun _ H2 ⟨r0, hv, h2⟩ => ⟨r0, hv, hk r0 H2 h2⟩
theorem c_law24_pairs.gh {C : Ctx} {p_l : Sl} {K : Sl → Heap → Prop} {H : Heap} (h : c_law24_pairs C p_l (fun r0 H2 => ∃ H0, Gh C H2 H0 ∧ K r0 H0) H) : c_law24_pairs C p_l K H :=
 Spec.gh (Spec.mono h fun _ H2 ⟨r0, hv, H0, hg, hk⟩ => ⟨H0, hg, r0, hv, hk⟩)
def c_delta_JoinChange (C : Ctx) (p_a : Sl) (p_da : Sl) (p_b : Sl) (p_db : Sl) (p_on : Sl) (K : Sl → Int → Heap → Prop) (H : Heap) : Prop :=
 Spec Tryz.prog C 12 [slv p_a, slv p_da, slv p_b, slv p_db, slv p_on] H (fun v H2 => ∃ (r0 : Sl) (r1 : Int), v = .tuple #[slv r0, .int .i64 r1] ∧ K r0 r1 H2)
theorem c_delta_JoinChange.mono {C : Ctx} {p_a : Sl} {p_da : Sl} {p_b : Sl} {p_db : Sl} {p_on : Sl} {K K2 : Sl → Int → Heap → Prop} {H : Heap} (h : c_delta_JoinChange C p_a p_da p_b p_db p_on K H) (hk : ∀ r0 r1 H2, K r0 r1 H2 → K2 r0 r1 H2) : c_delta_JoinChange C p_a p_da p_b p_db p_on K2 H :=
 Spec.mono h fun _ H2 ⟨r0, r1, hv, h2⟩ => ⟨r0, r1, hv, hk r0 r1 H2 h2⟩
theorem c_delta_JoinChange.gh {C : Ctx} {p_a : Sl} {p_da : Sl} {p_b : Sl} {p_db : Sl} {p_on : Sl} {K : Sl → Int → Heap → Prop} {H : Heap} (h : c_delta_JoinChange C p_a p_da p_b p_db p_on (fun r0 r1 H2 => ∃ H0, Gh C H2 H0 ∧ K r0 r1 H0) H) : c_delta_JoinChange C p_a p_da p_b p_db p_on K H :=
 Spec.gh (Spec.mono h fun _ H2 ⟨r0, r1, hv, H0, hg, hk⟩ => ⟨H0, hg, r0, r1, hv, hk⟩)
def c_delta_AntiChange (C : Ctx) (p_a : Sl) (p_da : Sl) (p_b : Sl) (p_db : Sl) (p_on : Sl) (K : Sl → Int → Heap → Prop) (H : Heap) : Prop :=
 Spec Tryz.prog C 15 [slv p_a, slv p_da, slv p_b, slv p_db, slv p_on] H (fun v H2 => ∃ (r0 : Sl) (r1 : Int), v = .tuple #[slv r0, .int .i64 r1] ∧ K r0 r1 H2)
theorem c_delta_AntiChange.mono {C : Ctx} {p_a : Sl} {p_da : Sl} {p_b : Sl} {p_db : Sl} {p_on : Sl} {K K2 : Sl → Int → Heap → Prop} {H : Heap} (h : c_delta_AntiChange C p_a p_da p_b p_db p_on K H) (hk : ∀ r0 r1 H2, K r0 r1 H2 → K2 r0 r1 H2) : c_delta_AntiChange C p_a p_da p_b p_db p_on K2 H :=
 Spec.mono h fun _ H2 ⟨r0, r1, hv, h2⟩ => ⟨r0, r1, hv, hk r0 r1 H2 h2⟩
theorem c_delta_AntiChange.gh {C : Ctx} {p_a : Sl} {p_da : Sl} {p_b : Sl} {p_db : Sl} {p_on : Sl} {K : Sl → Int → Heap → Prop} {H : Heap} (h : c_delta_AntiChange C p_a p_da p_b p_db p_on (fun r0 r1 H2 => ∃ H0, Gh C H2 H0 ∧ K r0 r1 H0) H) : c_delta_AntiChange C p_a p_da p_b p_db p_on K H :=
 Spec.gh (Spec.mono h fun _ H2 ⟨r0, r1, hv, H0, hg, hk⟩ => ⟨H0, hg, r0, r1, hv, hk⟩)
def c_delta_DistinctChange (C : Ctx) (p_a : Sl) (p_da : Sl) (K : Sl → Int → Heap → Prop) (H : Heap) : Prop :=
 Spec Tryz.prog C 17 [slv p_a, slv p_da] H (fun v H2 => ∃ (r0 : Sl) (r1 : Int), v = .tuple #[slv r0, .int .i64 r1] ∧ K r0 r1 H2)
theorem c_delta_DistinctChange.mono {C : Ctx} {p_a : Sl} {p_da : Sl} {K K2 : Sl → Int → Heap → Prop} {H : Heap} (h : c_delta_DistinctChange C p_a p_da K H) (hk : ∀ r0 r1 H2, K r0 r1 H2 → K2 r0 r1 H2) : c_delta_DistinctChange C p_a p_da K2 H :=
 Spec.mono h fun _ H2 ⟨r0, r1, hv, h2⟩ => ⟨r0, r1, hv, hk r0 r1 H2 h2⟩
theorem c_delta_DistinctChange.gh {C : Ctx} {p_a : Sl} {p_da : Sl} {K : Sl → Int → Heap → Prop} {H : Heap} (h : c_delta_DistinctChange C p_a p_da (fun r0 r1 H2 => ∃ H0, Gh C H2 H0 ∧ K r0 r1 H0) H) : c_delta_DistinctChange C p_a p_da K H :=
 Spec.gh (Spec.mono h fun _ H2 ⟨r0, r1, hv, H0, hg, hk⟩ => ⟨H0, hg, r0, r1, hv, hk⟩)
def c_ref16_Same (C : Ctx) (p_a : Sl) (p_b : Sl) (K : Bool → Heap → Prop) (H : Heap) : Prop :=
 Spec Tryz.prog C 19 [slv p_a, slv p_b] H (fun v H2 => ∃ (r0 : Bool), v = .bool r0 ∧ K r0 H2)
theorem c_ref16_Same.mono {C : Ctx} {p_a : Sl} {p_b : Sl} {K K2 : Bool → Heap → Prop} {H : Heap} (h : c_ref16_Same C p_a p_b K H) (hk : ∀ r0 H2, K r0 H2 → K2 r0 H2) : c_ref16_Same C p_a p_b K2 H :=
 Spec.mono h fun _ H2 ⟨r0, hv, h2⟩ => ⟨r0, hv, hk r0 H2 h2⟩
theorem c_ref16_Same.gh {C : Ctx} {p_a : Sl} {p_b : Sl} {K : Bool → Heap → Prop} {H : Heap} (h : c_ref16_Same C p_a p_b (fun r0 H2 => ∃ H0, Gh C H2 H0 ∧ K r0 H0) H) : c_ref16_Same C p_a p_b K H :=
 Spec.gh (Spec.mono h fun _ H2 ⟨r0, hv, H0, hg, hk⟩ => ⟨H0, hg, r0, hv, hk⟩)
def c_law24_back (C : Ctx) (p_l : Sl) (K : Sl → Heap → Prop) (H : Heap) : Prop :=
 Spec Tryz.prog C 20 [slv p_l] H (fun v H2 => ∃ (r0 : Sl), v = slv r0 ∧ K r0 H2)
theorem c_law24_back.mono {C : Ctx} {p_l : Sl} {K K2 : Sl → Heap → Prop} {H : Heap} (h : c_law24_back C p_l K H) (hk : ∀ r0 H2, K r0 H2 → K2 r0 H2) : c_law24_back C p_l K2 H :=
 Spec.mono h fun _ H2 ⟨r0, hv, h2⟩ => ⟨r0, hv, hk r0 H2 h2⟩
theorem c_law24_back.gh {C : Ctx} {p_l : Sl} {K : Sl → Heap → Prop} {H : Heap} (h : c_law24_back C p_l (fun r0 H2 => ∃ H0, Gh C H2 H0 ∧ K r0 H0) H) : c_law24_back C p_l K H :=
 Spec.gh (Spec.mono h fun _ H2 ⟨r0, hv, H0, hg, hk⟩ => ⟨H0, hg, r0, hv, hk⟩)
def c_delta_Join (C : Ctx) (p_a : Sl) (p_b : Sl) (p_on : Sl) (K : Sl → Int → Heap → Prop) (H : Heap) : Prop :=
 Spec Tryz.prog C 22 [slv p_a, slv p_b, slv p_on] H (fun v H2 => ∃ (r0 : Sl) (r1 : Int), v = .tuple #[slv r0, .int .i64 r1] ∧ K r0 r1 H2)
theorem c_delta_Join.mono {C : Ctx} {p_a : Sl} {p_b : Sl} {p_on : Sl} {K K2 : Sl → Int → Heap → Prop} {H : Heap} (h : c_delta_Join C p_a p_b p_on K H) (hk : ∀ r0 r1 H2, K r0 r1 H2 → K2 r0 r1 H2) : c_delta_Join C p_a p_b p_on K2 H :=
 Spec.mono h fun _ H2 ⟨r0, r1, hv, h2⟩ => ⟨r0, r1, hv, hk r0 r1 H2 h2⟩
theorem c_delta_Join.gh {C : Ctx} {p_a : Sl} {p_b : Sl} {p_on : Sl} {K : Sl → Int → Heap → Prop} {H : Heap} (h : c_delta_Join C p_a p_b p_on (fun r0 r1 H2 => ∃ H0, Gh C H2 H0 ∧ K r0 r1 H0) H) : c_delta_Join C p_a p_b p_on K H :=
 Spec.gh (Spec.mono h fun _ H2 ⟨r0, r1, hv, H0, hg, hk⟩ => ⟨H0, hg, r0, r1, hv, hk⟩)
def c_delta_Anti (C : Ctx) (p_a : Sl) (p_b : Sl) (p_on : Sl) (K : Sl → Int → Heap → Prop) (H : Heap) : Prop :=
 Spec Tryz.prog C 23 [slv p_a, slv p_b, slv p_on] H (fun v H2 => ∃ (r0 : Sl) (r1 : Int), v = .tuple #[slv r0, .int .i64 r1] ∧ K r0 r1 H2)
theorem c_delta_Anti.mono {C : Ctx} {p_a : Sl} {p_b : Sl} {p_on : Sl} {K K2 : Sl → Int → Heap → Prop} {H : Heap} (h : c_delta_Anti C p_a p_b p_on K H) (hk : ∀ r0 r1 H2, K r0 r1 H2 → K2 r0 r1 H2) : c_delta_Anti C p_a p_b p_on K2 H :=
 Spec.mono h fun _ H2 ⟨r0, r1, hv, h2⟩ => ⟨r0, r1, hv, hk r0 r1 H2 h2⟩
theorem c_delta_Anti.gh {C : Ctx} {p_a : Sl} {p_b : Sl} {p_on : Sl} {K : Sl → Int → Heap → Prop} {H : Heap} (h : c_delta_Anti C p_a p_b p_on (fun r0 r1 H2 => ∃ H0, Gh C H2 H0 ∧ K r0 r1 H0) H) : c_delta_Anti C p_a p_b p_on K H :=
 Spec.gh (Spec.mono h fun _ H2 ⟨r0, r1, hv, H0, hg, hk⟩ => ⟨H0, hg, r0, r1, hv, hk⟩)
def c_law24_small (C : Ctx) (p_l : Sl) (K : Bool → Heap → Prop) (H : Heap) : Prop :=
 Spec Tryz.prog C 24 [slv p_l] H (fun v H2 => ∃ (r0 : Bool), v = .bool r0 ∧ K r0 H2)
theorem c_law24_small.mono {C : Ctx} {p_l : Sl} {K K2 : Bool → Heap → Prop} {H : Heap} (h : c_law24_small C p_l K H) (hk : ∀ r0 H2, K r0 H2 → K2 r0 H2) : c_law24_small C p_l K2 H :=
 Spec.mono h fun _ H2 ⟨r0, hv, h2⟩ => ⟨r0, hv, hk r0 H2 h2⟩
theorem c_law24_small.gh {C : Ctx} {p_l : Sl} {K : Bool → Heap → Prop} {H : Heap} (h : c_law24_small C p_l (fun r0 H2 => ∃ H0, Gh C H2 H0 ∧ K r0 H0) H) : c_law24_small C p_l K H :=
 Spec.gh (Spec.mono h fun _ H2 ⟨r0, hv, H0, hg, hk⟩ => ⟨H0, hg, r0, hv, hk⟩)
def c_law24_plus (C : Ctx) (p_a : Sl) (p_b : Sl) (K : Sl → Heap → Prop) (H : Heap) : Prop :=
 Spec Tryz.prog C 25 [slv p_a, slv p_b] H (fun v H2 => ∃ (r0 : Sl), v = slv r0 ∧ K r0 H2)
theorem c_law24_plus.mono {C : Ctx} {p_a : Sl} {p_b : Sl} {K K2 : Sl → Heap → Prop} {H : Heap} (h : c_law24_plus C p_a p_b K H) (hk : ∀ r0 H2, K r0 H2 → K2 r0 H2) : c_law24_plus C p_a p_b K2 H :=
 Spec.mono h fun _ H2 ⟨r0, hv, h2⟩ => ⟨r0, hv, hk r0 H2 h2⟩
theorem c_law24_plus.gh {C : Ctx} {p_a : Sl} {p_b : Sl} {K : Sl → Heap → Prop} {H : Heap} (h : c_law24_plus C p_a p_b (fun r0 H2 => ∃ H0, Gh C H2 H0 ∧ K r0 H0) H) : c_law24_plus C p_a p_b K H :=
 Spec.gh (Spec.mono h fun _ H2 ⟨r0, hv, H0, hg, hk⟩ => ⟨H0, hg, r0, hv, hk⟩)
def c_law24_same (C : Ctx) (p_a : Sl) (p_e : Int) (p_b : Sl) (p_f : Int) (K : Bool → Heap → Prop) (H : Heap) : Prop :=
 Spec Tryz.prog C 26 [slv p_a, .int .i64 p_e, slv p_b, .int .i64 p_f] H (fun v H2 => ∃ (r0 : Bool), v = .bool r0 ∧ K r0 H2)
theorem c_law24_same.mono {C : Ctx} {p_a : Sl} {p_e : Int} {p_b : Sl} {p_f : Int} {K K2 : Bool → Heap → Prop} {H : Heap} (h : c_law24_same C p_a p_e p_b p_f K H) (hk : ∀ r0 H2, K r0 H2 → K2 r0 H2) : c_law24_same C p_a p_e p_b p_f K2 H :=
 Spec.mono h fun _ H2 ⟨r0, hv, h2⟩ => ⟨r0, hv, hk r0 H2 h2⟩
theorem c_law24_same.gh {C : Ctx} {p_a : Sl} {p_e : Int} {p_b : Sl} {p_f : Int} {K : Bool → Heap → Prop} {H : Heap} (h : c_law24_same C p_a p_e p_b p_f (fun r0 H2 => ∃ H0, Gh C H2 H0 ∧ K r0 H0) H) : c_law24_same C p_a p_e p_b p_f K H :=
 Spec.gh (Spec.mono h fun _ H2 ⟨r0, hv, H0, hg, hk⟩ => ⟨H0, hg, r0, hv, hk⟩)
def c_zset_Distinct (C : Ctx) (p_l : Sl) (K : Sl → Int → Heap → Prop) (H : Heap) : Prop :=
 Spec Tryz.prog C 27 [slv p_l] H (fun v H2 => ∃ (r0 : Sl) (r1 : Int), v = .tuple #[slv r0, .int .i64 r1] ∧ K r0 r1 H2)
theorem c_zset_Distinct.mono {C : Ctx} {p_l : Sl} {K K2 : Sl → Int → Heap → Prop} {H : Heap} (h : c_zset_Distinct C p_l K H) (hk : ∀ r0 r1 H2, K r0 r1 H2 → K2 r0 r1 H2) : c_zset_Distinct C p_l K2 H :=
 Spec.mono h fun _ H2 ⟨r0, r1, hv, h2⟩ => ⟨r0, r1, hv, hk r0 r1 H2 h2⟩
theorem c_zset_Distinct.gh {C : Ctx} {p_l : Sl} {K : Sl → Int → Heap → Prop} {H : Heap} (h : c_zset_Distinct C p_l (fun r0 r1 H2 => ∃ H0, Gh C H2 H0 ∧ K r0 r1 H0) H) : c_zset_Distinct C p_l K H :=
 Spec.gh (Spec.mono h fun _ H2 ⟨r0, r1, hv, H0, hg, hk⟩ => ⟨H0, hg, r0, r1, hv, hk⟩)
def c_law24_large (C : Ctx) (p_l : Sl) (K : Bool → Heap → Prop) (H : Heap) : Prop :=
 Spec Tryz.prog C 28 [slv p_l] H (fun v H2 => ∃ (r0 : Bool), v = .bool r0 ∧ K r0 H2)
theorem c_law24_large.mono {C : Ctx} {p_l : Sl} {K K2 : Bool → Heap → Prop} {H : Heap} (h : c_law24_large C p_l K H) (hk : ∀ r0 H2, K r0 H2 → K2 r0 H2) : c_law24_large C p_l K2 H :=
 Spec.mono h fun _ H2 ⟨r0, hv, h2⟩ => ⟨r0, hv, hk r0 H2 h2⟩
theorem c_law24_large.gh {C : Ctx} {p_l : Sl} {K : Bool → Heap → Prop} {H : Heap} (h : c_law24_large C p_l (fun r0 H2 => ∃ H0, Gh C H2 H0 ∧ K r0 H0) H) : c_law24_large C p_l K H :=
 Spec.gh (Spec.mono h fun _ H2 ⟨r0, hv, H0, hg, hk⟩ => ⟨H0, hg, r0, hv, hk⟩)
def c_law24_awake_1 (C : Ctx) (p_n : Int) (K : T_api_Value → Heap → Prop) (H : Heap) : Prop :=
 Spec Tryz.prog C 29 [.int .i64 p_n] H (fun v H2 => ∃ (r0 : T_api_Value), v = .agg (T_api_Value.c r0).toArray ∧ K r0 H2)
theorem c_law24_awake_1.mono {C : Ctx} {p_n : Int} {K K2 : T_api_Value → Heap → Prop} {H : Heap} (h : c_law24_awake_1 C p_n K H) (hk : ∀ r0 H2, K r0 H2 → K2 r0 H2) : c_law24_awake_1 C p_n K2 H :=
 Spec.mono h fun _ H2 ⟨r0, hv, h2⟩ => ⟨r0, hv, hk r0 H2 h2⟩
theorem c_law24_awake_1.gh {C : Ctx} {p_n : Int} {K : T_api_Value → Heap → Prop} {H : Heap} (h : c_law24_awake_1 C p_n (fun r0 H2 => ∃ H0, Gh C H2 H0 ∧ K r0 H0) H) : c_law24_awake_1 C p_n K H :=
 Spec.gh (Spec.mono h fun _ H2 ⟨r0, hv, H0, hg, hk⟩ => ⟨H0, hg, r0, hv, hk⟩)
def c_law24_awake_2 (C : Ctx) (p_s : Str) (K : T_api_Value → Heap → Prop) (H : Heap) : Prop :=
 Spec Tryz.prog C 30 [sv p_s] H (fun v H2 => ∃ (r0 : T_api_Value), v = .agg (T_api_Value.c r0).toArray ∧ K r0 H2)
theorem c_law24_awake_2.mono {C : Ctx} {p_s : Str} {K K2 : T_api_Value → Heap → Prop} {H : Heap} (h : c_law24_awake_2 C p_s K H) (hk : ∀ r0 H2, K r0 H2 → K2 r0 H2) : c_law24_awake_2 C p_s K2 H :=
 Spec.mono h fun _ H2 ⟨r0, hv, h2⟩ => ⟨r0, hv, hk r0 H2 h2⟩
theorem c_law24_awake_2.gh {C : Ctx} {p_s : Str} {K : T_api_Value → Heap → Prop} {H : Heap} (h : c_law24_awake_2 C p_s (fun r0 H2 => ∃ H0, Gh C H2 H0 ∧ K r0 H0) H) : c_law24_awake_2 C p_s K H :=
 Spec.gh (Spec.mono h fun _ H2 ⟨r0, hv, H0, hg, hk⟩ => ⟨H0, hg, r0, hv, hk⟩)
def c_ref02_Own (C : Ctx) (p_l : Sl) (K : Sl → Heap → Prop) (H : Heap) : Prop :=
 Spec Tryz.prog C 31 [slv p_l] H (fun v H2 => ∃ (r0 : Sl), v = slv r0 ∧ K r0 H2)
theorem c_ref02_Own.mono {C : Ctx} {p_l : Sl} {K K2 : Sl → Heap → Prop} {H : Heap} (h : c_ref02_Own C p_l K H) (hk : ∀ r0 H2, K r0 H2 → K2 r0 H2) : c_ref02_Own C p_l K2 H :=
 Spec.mono h fun _ H2 ⟨r0, hv, h2⟩ => ⟨r0, hv, hk r0 H2 h2⟩
theorem c_ref02_Own.gh {C : Ctx} {p_l : Sl} {K : Sl → Heap → Prop} {H : Heap} (h : c_ref02_Own C p_l (fun r0 H2 => ∃ H0, Gh C H2 H0 ∧ K r0 H0) H) : c_ref02_Own C p_l K H :=
 Spec.gh (Spec.mono h fun _ H2 ⟨r0, hv, H0, hg, hk⟩ => ⟨H0, hg, r0, hv, hk⟩)
def c_delta_parts (C : Ctx) (p_a : Sl) (p_da : Sl) (p_b : Sl) (p_db : Sl) (K : T_delta_part → T_delta_part → Int → Heap → Prop) (H : Heap) : Prop :=
 Spec Tryz.prog C 32 [slv p_a, slv p_da, slv p_b, slv p_db] H (fun v H2 => ∃ (r0 : T_delta_part) (r1 : T_delta_part) (r2 : Int), v = .tuple #[.agg (T_delta_part.c r0).toArray, .agg (T_delta_part.c r1).toArray, .int .i64 r2] ∧ K r0 r1 r2 H2)
theorem c_delta_parts.mono {C : Ctx} {p_a : Sl} {p_da : Sl} {p_b : Sl} {p_db : Sl} {K K2 : T_delta_part → T_delta_part → Int → Heap → Prop} {H : Heap} (h : c_delta_parts C p_a p_da p_b p_db K H) (hk : ∀ r0 r1 r2 H2, K r0 r1 r2 H2 → K2 r0 r1 r2 H2) : c_delta_parts C p_a p_da p_b p_db K2 H :=
 Spec.mono h fun _ H2 ⟨r0, r1, r2, hv, h2⟩ => ⟨r0, r1, r2, hv, hk r0 r1 r2 H2 h2⟩
theorem c_delta_parts.gh {C : Ctx} {p_a : Sl} {p_da : Sl} {p_b : Sl} {p_db : Sl} {K : T_delta_part → T_delta_part → Int → Heap → Prop} {H : Heap} (h : c_delta_parts C p_a p_da p_b p_db (fun r0 r1 r2 H2 => ∃ H0, Gh C H2 H0 ∧ K r0 r1 r2 H0) H) : c_delta_parts C p_a p_da p_b p_db K H :=
 Spec.gh (Spec.mono h fun _ H2 ⟨r0, r1, r2, hv, H0, hg, hk⟩ => ⟨H0, hg, r0, r1, r2, hv, hk⟩)
def c_zset_Clean (C : Ctx) (p_l : Sl) (K : Sl → Int → Heap → Prop) (H : Heap) : Prop :=
 Spec Tryz.prog C 33 [slv p_l] H (fun v H2 => ∃ (r0 : Sl) (r1 : Int), v = .tuple #[slv r0, .int .i64 r1] ∧ K r0 r1 H2)
theorem c_zset_Clean.mono {C : Ctx} {p_l : Sl} {K K2 : Sl → Int → Heap → Prop} {H : Heap} (h : c_zset_Clean C p_l K H) (hk : ∀ r0 r1 H2, K r0 r1 H2 → K2 r0 r1 H2) : c_zset_Clean C p_l K2 H :=
 Spec.mono h fun _ H2 ⟨r0, r1, hv, h2⟩ => ⟨r0, r1, hv, hk r0 r1 H2 h2⟩
theorem c_zset_Clean.gh {C : Ctx} {p_l : Sl} {K : Sl → Int → Heap → Prop} {H : Heap} (h : c_zset_Clean C p_l (fun r0 r1 H2 => ∃ H0, Gh C H2 H0 ∧ K r0 r1 H0) H) : c_zset_Clean C p_l K H :=
 Spec.gh (Spec.mono h fun _ H2 ⟨r0, r1, hv, H0, hg, hk⟩ => ⟨H0, hg, r0, r1, hv, hk⟩)
def c_delta_pair (C : Ctx) (p_a : Sl) (p_b : Sl) (p_on : Sl) (K : Sl → Heap → Prop) (H : Heap) : Prop :=
 Spec Tryz.prog C 34 [slv p_a, slv p_b, slv p_on] H (fun v H2 => ∃ (r0 : Sl), v = slv r0 ∧ K r0 H2)
theorem c_delta_pair.mono {C : Ctx} {p_a : Sl} {p_b : Sl} {p_on : Sl} {K K2 : Sl → Heap → Prop} {H : Heap} (h : c_delta_pair C p_a p_b p_on K H) (hk : ∀ r0 H2, K r0 H2 → K2 r0 H2) : c_delta_pair C p_a p_b p_on K2 H :=
 Spec.mono h fun _ H2 ⟨r0, hv, h2⟩ => ⟨r0, hv, hk r0 H2 h2⟩
theorem c_delta_pair.gh {C : Ctx} {p_a : Sl} {p_b : Sl} {p_on : Sl} {K : Sl → Heap → Prop} {H : Heap} (h : c_delta_pair C p_a p_b p_on (fun r0 H2 => ∃ H0, Gh C H2 H0 ∧ K r0 H0) H) : c_delta_pair C p_a p_b p_on K H :=
 Spec.gh (Spec.mono h fun _ H2 ⟨r0, hv, H0, hg, hk⟩ => ⟨H0, hg, r0, hv, hk⟩)
def c_zset_Less (C : Ctx) (p_a : Sl) (p_b : Sl) (K : Sl → Int → Heap → Prop) (H : Heap) : Prop :=
 Spec Tryz.prog C 35 [slv p_a, slv p_b] H (fun v H2 => ∃ (r0 : Sl) (r1 : Int), v = .tuple #[slv r0, .int .i64 r1] ∧ K r0 r1 H2)
theorem c_zset_Less.mono {C : Ctx} {p_a : Sl} {p_b : Sl} {K K2 : Sl → Int → Heap → Prop} {H : Heap} (h : c_zset_Less C p_a p_b K H) (hk : ∀ r0 r1 H2, K r0 r1 H2 → K2 r0 r1 H2) : c_zset_Less C p_a p_b K2 H :=
 Spec.mono h fun _ H2 ⟨r0, r1, hv, h2⟩ => ⟨r0, r1, hv, hk r0 r1 H2 h2⟩
theorem c_zset_Less.gh {C : Ctx} {p_a : Sl} {p_b : Sl} {K : Sl → Int → Heap → Prop} {H : Heap} (h : c_zset_Less C p_a p_b (fun r0 r1 H2 => ∃ H0, Gh C H2 H0 ∧ K r0 r1 H0) H) : c_zset_Less C p_a p_b K H :=
 Spec.gh (Spec.mono h fun _ H2 ⟨r0, r1, hv, H0, hg, hk⟩ => ⟨H0, hg, r0, r1, hv, hk⟩)
def c_delta_none (C : Ctx) (p_a : Sl) (p_b : Sl) (p_on : Sl) (K : Sl → Heap → Prop) (H : Heap) : Prop :=
 Spec Tryz.prog C 40 [slv p_a, slv p_b, slv p_on] H (fun v H2 => ∃ (r0 : Sl), v = slv r0 ∧ K r0 H2)
theorem c_delta_none.mono {C : Ctx} {p_a : Sl} {p_b : Sl} {p_on : Sl} {K K2 : Sl → Heap → Prop} {H : Heap} (h : c_delta_none C p_a p_b p_on K H) (hk : ∀ r0 H2, K r0 H2 → K2 r0 H2) : c_delta_none C p_a p_b p_on K2 H :=
 Spec.mono h fun _ H2 ⟨r0, hv, h2⟩ => ⟨r0, hv, hk r0 H2 h2⟩
theorem c_delta_none.gh {C : Ctx} {p_a : Sl} {p_b : Sl} {p_on : Sl} {K : Sl → Heap → Prop} {H : Heap} (h : c_delta_none C p_a p_b p_on (fun r0 H2 => ∃ H0, Gh C H2 H0 ∧ K r0 H0) H) : c_delta_none C p_a p_b p_on K H :=
 Spec.gh (Spec.mono h fun _ H2 ⟨r0, hv, H0, hg, hk⟩ => ⟨H0, hg, r0, hv, hk⟩)
def c_delta_less (C : Ctx) (p_l : Sl) (K : Sl → Heap → Prop) (H : Heap) : Prop :=
 Spec Tryz.prog C 41 [slv p_l] H (fun v H2 => ∃ (r0 : Sl), v = slv r0 ∧ K r0 H2)
theorem c_delta_less.mono {C : Ctx} {p_l : Sl} {K K2 : Sl → Heap → Prop} {H : Heap} (h : c_delta_less C p_l K H) (hk : ∀ r0 H2, K r0 H2 → K2 r0 H2) : c_delta_less C p_l K2 H :=
 Spec.mono h fun _ H2 ⟨r0, hv, h2⟩ => ⟨r0, hv, hk r0 H2 h2⟩
theorem c_delta_less.gh {C : Ctx} {p_l : Sl} {K : Sl → Heap → Prop} {H : Heap} (h : c_delta_less C p_l (fun r0 H2 => ∃ H0, Gh C H2 H0 ∧ K r0 H0) H) : c_delta_less C p_l K H :=
 Spec.gh (Spec.mono h fun _ H2 ⟨r0, hv, H0, hg, hk⟩ => ⟨H0, hg, r0, hv, hk⟩)
def c_delta_side_whole (C : Ctx) (p_s : T_delta_side) (p_row : Sl) (K : Str → Bool → Heap → Prop) (H : Heap) : Prop :=
 Spec Tryz.prog C 43 [.agg (T_delta_side.c p_s).toArray, slv p_row] H (fun v H2 => ∃ (r0 : Str) (r1 : Bool), v = .tuple #[sv r0, .bool r1] ∧ K r0 r1 H2)
theorem c_delta_side_whole.mono {C : Ctx} {p_s : T_delta_side} {p_row : Sl} {K K2 : Str → Bool → Heap → Prop} {H : Heap} (h : c_delta_side_whole C p_s p_row K H) (hk : ∀ r0 r1 H2, K r0 r1 H2 → K2 r0 r1 H2) : c_delta_side_whole C p_s p_row K2 H :=
 Spec.mono h fun _ H2 ⟨r0, r1, hv, h2⟩ => ⟨r0, r1, hv, hk r0 r1 H2 h2⟩
theorem c_delta_side_whole.gh {C : Ctx} {p_s : T_delta_side} {p_row : Sl} {K : Str → Bool → Heap → Prop} {H : Heap} (h : c_delta_side_whole C p_s p_row (fun r0 r1 H2 => ∃ H0, Gh C H2 H0 ∧ K r0 r1 H0) H) : c_delta_side_whole C p_s p_row K H :=
 Spec.gh (Spec.mono h fun _ H2 ⟨r0, r1, hv, H0, hg, hk⟩ => ⟨H0, hg, r0, r1, hv, hk⟩)
def c_ref02_SameRow (C : Ctx) (p_a : Sl) (p_b : Sl) (K : Bool → Heap → Prop) (H : Heap) : Prop :=
 Spec Tryz.prog C 45 [slv p_a, slv p_b] H (fun v H2 => ∃ (r0 : Bool), v = .bool r0 ∧ K r0 H2)
theorem c_ref02_SameRow.mono {C : Ctx} {p_a : Sl} {p_b : Sl} {K K2 : Bool → Heap → Prop} {H : Heap} (h : c_ref02_SameRow C p_a p_b K H) (hk : ∀ r0 H2, K r0 H2 → K2 r0 H2) : c_ref02_SameRow C p_a p_b K2 H :=
 Spec.mono h fun _ H2 ⟨r0, hv, h2⟩ => ⟨r0, hv, hk r0 H2 h2⟩
theorem c_ref02_SameRow.gh {C : Ctx} {p_a : Sl} {p_b : Sl} {K : Bool → Heap → Prop} {H : Heap} (h : c_ref02_SameRow C p_a p_b (fun r0 H2 => ∃ H0, Gh C H2 H0 ∧ K r0 H0) H) : c_ref02_SameRow C p_a p_b K H :=
 Spec.gh (Spec.mono h fun _ H2 ⟨r0, hv, H0, hg, hk⟩ => ⟨H0, hg, r0, hv, hk⟩)
def c_value_Check (C : Ctx) (p_v : T_api_Value) (K : Int → Heap → Prop) (H : Heap) : Prop :=
 Spec Tryz.prog C 46 [.agg (T_api_Value.c p_v).toArray] H (fun v H2 => ∃ (r0 : Int), v = .int .i64 r0 ∧ K r0 H2)
theorem c_value_Check.mono {C : Ctx} {p_v : T_api_Value} {K K2 : Int → Heap → Prop} {H : Heap} (h : c_value_Check C p_v K H) (hk : ∀ r0 H2, K r0 H2 → K2 r0 H2) : c_value_Check C p_v K2 H :=
 Spec.mono h fun _ H2 ⟨r0, hv, h2⟩ => ⟨r0, hv, hk r0 H2 h2⟩
theorem c_value_Check.gh {C : Ctx} {p_v : T_api_Value} {K : Int → Heap → Prop} {H : Heap} (h : c_value_Check C p_v (fun r0 H2 => ∃ H0, Gh C H2 H0 ∧ K r0 H0) H) : c_value_Check C p_v K H :=
 Spec.gh (Spec.mono h fun _ H2 ⟨r0, hv, H0, hg, hk⟩ => ⟨H0, hg, r0, hv, hk⟩)
def c_zset_Add (C : Ctx) (p_a : Sl) (p_b : Sl) (K : Sl → Int → Heap → Prop) (H : Heap) : Prop :=
 Spec Tryz.prog C 47 [slv p_a, slv p_b] H (fun v H2 => ∃ (r0 : Sl) (r1 : Int), v = .tuple #[slv r0, .int .i64 r1] ∧ K r0 r1 H2)
theorem c_zset_Add.mono {C : Ctx} {p_a : Sl} {p_b : Sl} {K K2 : Sl → Int → Heap → Prop} {H : Heap} (h : c_zset_Add C p_a p_b K H) (hk : ∀ r0 r1 H2, K r0 r1 H2 → K2 r0 r1 H2) : c_zset_Add C p_a p_b K2 H :=
 Spec.mono h fun _ H2 ⟨r0, r1, hv, h2⟩ => ⟨r0, r1, hv, hk r0 r1 H2 h2⟩
theorem c_zset_Add.gh {C : Ctx} {p_a : Sl} {p_b : Sl} {K : Sl → Int → Heap → Prop} {H : Heap} (h : c_zset_Add C p_a p_b (fun r0 r1 H2 => ∃ H0, Gh C H2 H0 ∧ K r0 r1 H0) H) : c_zset_Add C p_a p_b K H :=
 Spec.gh (Spec.mono h fun _ H2 ⟨r0, r1, hv, H0, hg, hk⟩ => ⟨H0, hg, r0, r1, hv, hk⟩)
def c_slices_DeleteFunc_zset_Entry_zset_Entry (C : Ctx) (p_s : Sl) (p_del : Value) (K : Sl → Heap → Prop) (H : Heap) : Prop :=
 Spec Tryz.prog C 48 [slv p_s, p_del] H (fun v H2 => ∃ (r0 : Sl), v = slv r0 ∧ K r0 H2)
theorem c_slices_DeleteFunc_zset_Entry_zset_Entry.mono {C : Ctx} {p_s : Sl} {p_del : Value} {K K2 : Sl → Heap → Prop} {H : Heap} (h : c_slices_DeleteFunc_zset_Entry_zset_Entry C p_s p_del K H) (hk : ∀ r0 H2, K r0 H2 → K2 r0 H2) : c_slices_DeleteFunc_zset_Entry_zset_Entry C p_s p_del K2 H :=
 Spec.mono h fun _ H2 ⟨r0, hv, h2⟩ => ⟨r0, hv, hk r0 H2 h2⟩
theorem c_slices_DeleteFunc_zset_Entry_zset_Entry.gh {C : Ctx} {p_s : Sl} {p_del : Value} {K : Sl → Heap → Prop} {H : Heap} (h : c_slices_DeleteFunc_zset_Entry_zset_Entry C p_s p_del (fun r0 H2 => ∃ H0, Gh C H2 H0 ∧ K r0 H0) H) : c_slices_DeleteFunc_zset_Entry_zset_Entry C p_s p_del K H :=
 Spec.gh (Spec.mono h fun _ H2 ⟨r0, hv, H0, hg, hk⟩ => ⟨H0, hg, r0, hv, hk⟩)
def c_zset_Distinct_1 (C : Ctx) (p_x : T_zset_Entry) (K : Bool → Heap → Prop) (H : Heap) : Prop :=
 Spec Tryz.prog C 49 [.agg (T_zset_Entry.c p_x).toArray] H (fun v H2 => ∃ (r0 : Bool), v = .bool r0 ∧ K r0 H2)
theorem c_zset_Distinct_1.mono {C : Ctx} {p_x : T_zset_Entry} {K K2 : Bool → Heap → Prop} {H : Heap} (h : c_zset_Distinct_1 C p_x K H) (hk : ∀ r0 H2, K r0 H2 → K2 r0 H2) : c_zset_Distinct_1 C p_x K2 H :=
 Spec.mono h fun _ H2 ⟨r0, hv, h2⟩ => ⟨r0, hv, hk r0 H2 h2⟩
theorem c_zset_Distinct_1.gh {C : Ctx} {p_x : T_zset_Entry} {K : Bool → Heap → Prop} {H : Heap} (h : c_zset_Distinct_1 C p_x (fun r0 H2 => ∃ H0, Gh C H2 H0 ∧ K r0 H0) H) : c_zset_Distinct_1 C p_x K H :=
 Spec.gh (Spec.mono h fun _ H2 ⟨r0, hv, H0, hg, hk⟩ => ⟨H0, hg, r0, hv, hk⟩)
def c_law24_weight (C : Ctx) (p_v : T_api_Value) (p_most : Int) (K : Int → Heap → Prop) (H : Heap) : Prop :=
 Spec Tryz.prog C 50 [.agg (T_api_Value.c p_v).toArray, .int .i64 p_most] H (fun v H2 => ∃ (r0 : Int), v = .int .i64 r0 ∧ K r0 H2)
theorem c_law24_weight.mono {C : Ctx} {p_v : T_api_Value} {p_most : Int} {K K2 : Int → Heap → Prop} {H : Heap} (h : c_law24_weight C p_v p_most K H) (hk : ∀ r0 H2, K r0 H2 → K2 r0 H2) : c_law24_weight C p_v p_most K2 H :=
 Spec.mono h fun _ H2 ⟨r0, hv, h2⟩ => ⟨r0, hv, hk r0 H2 h2⟩
theorem c_law24_weight.gh {C : Ctx} {p_v : T_api_Value} {p_most : Int} {K : Int → Heap → Prop} {H : Heap} (h : c_law24_weight C p_v p_most (fun r0 H2 => ∃ H0, Gh C H2 H0 ∧ K r0 H0) H) : c_law24_weight C p_v p_most K H :=
 Spec.gh (Spec.mono h fun _ H2 ⟨r0, hv, H0, hg, hk⟩ => ⟨H0, hg, r0, hv, hk⟩)
def c_zset_sums (C : Ctx) (p_parts : Sl) (K : Sl → Int → Heap → Prop) (H : Heap) : Prop :=
 Spec Tryz.prog C 51 [slv p_parts] H (fun v H2 => ∃ (r0 : Sl) (r1 : Int), v = .tuple #[slv r0, .int .i64 r1] ∧ K r0 r1 H2)
theorem c_zset_sums.mono {C : Ctx} {p_parts : Sl} {K K2 : Sl → Int → Heap → Prop} {H : Heap} (h : c_zset_sums C p_parts K H) (hk : ∀ r0 r1 H2, K r0 r1 H2 → K2 r0 r1 H2) : c_zset_sums C p_parts K2 H :=
 Spec.mono h fun _ H2 ⟨r0, r1, hv, h2⟩ => ⟨r0, r1, hv, hk r0 r1 H2 h2⟩
theorem c_zset_sums.gh {C : Ctx} {p_parts : Sl} {K : Sl → Int → Heap → Prop} {H : Heap} (h : c_zset_sums C p_parts (fun r0 r1 H2 => ∃ H0, Gh C H2 H0 ∧ K r0 r1 H0) H) : c_zset_sums C p_parts K H :=
 Spec.gh (Spec.mono h fun _ H2 ⟨r0, r1, hv, H0, hg, hk⟩ => ⟨H0, hg, r0, r1, hv, hk⟩)
def c_zset_as (C : Ctx) (p_n : Int) (K : Int → Heap → Prop) (H : Heap) : Prop :=
 Spec Tryz.prog C 52 [.int .i64 p_n] H (fun v H2 => ∃ (r0 : Int), v = .int .i64 r0 ∧ K r0 H2)
theorem c_zset_as.mono {C : Ctx} {p_n : Int} {K K2 : Int → Heap → Prop} {H : Heap} (h : c_zset_as C p_n K H) (hk : ∀ r0 H2, K r0 H2 → K2 r0 H2) : c_zset_as C p_n K2 H :=
 Spec.mono h fun _ H2 ⟨r0, hv, h2⟩ => ⟨r0, hv, hk r0 H2 h2⟩
theorem c_zset_as.gh {C : Ctx} {p_n : Int} {K : Int → Heap → Prop} {H : Heap} (h : c_zset_as C p_n (fun r0 H2 => ∃ H0, Gh C H2 H0 ∧ K r0 H0) H) : c_zset_as C p_n K H :=
 Spec.gh (Spec.mono h fun _ H2 ⟨r0, hv, H0, hg, hk⟩ => ⟨H0, hg, r0, hv, hk⟩)
def c_delta_sides (C : Ctx) (p_on : Sl) (K : T_delta_side → T_delta_side → Heap → Prop) (H : Heap) : Prop :=
 Spec Tryz.prog C 53 [slv p_on] H (fun v H2 => ∃ (r0 : T_delta_side) (r1 : T_delta_side), v = .tuple #[.agg (T_delta_side.c r0).toArray, .agg (T_delta_side.c r1).toArray] ∧ K r0 r1 H2)
theorem c_delta_sides.mono {C : Ctx} {p_on : Sl} {K K2 : T_delta_side → T_delta_side → Heap → Prop} {H : Heap} (h : c_delta_sides C p_on K H) (hk : ∀ r0 r1 H2, K r0 r1 H2 → K2 r0 r1 H2) : c_delta_sides C p_on K2 H :=
 Spec.mono h fun _ H2 ⟨r0, r1, hv, h2⟩ => ⟨r0, r1, hv, hk r0 r1 H2 h2⟩
theorem c_delta_sides.gh {C : Ctx} {p_on : Sl} {K : T_delta_side → T_delta_side → Heap → Prop} {H : Heap} (h : c_delta_sides C p_on (fun r0 r1 H2 => ∃ H0, Gh C H2 H0 ∧ K r0 r1 H0) H) : c_delta_sides C p_on K H :=
 Spec.gh (Spec.mono h fun _ H2 ⟨r0, r1, hv, H0, hg, hk⟩ => ⟨H0, hg, r0, r1, hv, hk⟩)
def c_delta_side_by (C : Ctx) (p_s : T_delta_side) (p_l : Sl) (K : Option Nat → Heap → Prop) (H : Heap) : Prop :=
 Spec Tryz.prog C 54 [.agg (T_delta_side.c p_s).toArray, slv p_l] H (fun v H2 => ∃ (r0 : Option Nat), v = mv r0 ∧ K r0 H2)
theorem c_delta_side_by.mono {C : Ctx} {p_s : T_delta_side} {p_l : Sl} {K K2 : Option Nat → Heap → Prop} {H : Heap} (h : c_delta_side_by C p_s p_l K H) (hk : ∀ r0 H2, K r0 H2 → K2 r0 H2) : c_delta_side_by C p_s p_l K2 H :=
 Spec.mono h fun _ H2 ⟨r0, hv, h2⟩ => ⟨r0, hv, hk r0 H2 h2⟩
theorem c_delta_side_by.gh {C : Ctx} {p_s : T_delta_side} {p_l : Sl} {K : Option Nat → Heap → Prop} {H : Heap} (h : c_delta_side_by C p_s p_l (fun r0 H2 => ∃ H0, Gh C H2 H0 ∧ K r0 H0) H) : c_delta_side_by C p_s p_l K H :=
 Spec.gh (Spec.mono h fun _ H2 ⟨r0, hv, H0, hg, hk⟩ => ⟨H0, hg, r0, hv, hk⟩)
def c_delta_side_key (C : Ctx) (p_s : T_delta_side) (p_row : Sl) (K : Str → Bool → Heap → Prop) (H : Heap) : Prop :=
 Spec Tryz.prog C 55 [.agg (T_delta_side.c p_s).toArray, slv p_row] H (fun v H2 => ∃ (r0 : Str) (r1 : Bool), v = .tuple #[sv r0, .bool r1] ∧ K r0 r1 H2)
theorem c_delta_side_key.mono {C : Ctx} {p_s : T_delta_side} {p_row : Sl} {K K2 : Str → Bool → Heap → Prop} {H : Heap} (h : c_delta_side_key C p_s p_row K H) (hk : ∀ r0 r1 H2, K r0 r1 H2 → K2 r0 r1 H2) : c_delta_side_key C p_s p_row K2 H :=
 Spec.mono h fun _ H2 ⟨r0, r1, hv, h2⟩ => ⟨r0, r1, hv, hk r0 r1 H2 h2⟩
theorem c_delta_side_key.gh {C : Ctx} {p_s : T_delta_side} {p_row : Sl} {K : Str → Bool → Heap → Prop} {H : Heap} (h : c_delta_side_key C p_s p_row (fun r0 r1 H2 => ∃ H0, Gh C H2 H0 ∧ K r0 r1 H0) H) : c_delta_side_key C p_s p_row K H :=
 Spec.gh (Spec.mono h fun _ H2 ⟨r0, r1, hv, H0, hg, hk⟩ => ⟨H0, hg, r0, r1, hv, hk⟩)
def c_zset_turn (C : Ctx) (p_n : Int) (K : Int → Heap → Prop) (H : Heap) : Prop :=
 Spec Tryz.prog C 56 [.int .i64 p_n] H (fun v H2 => ∃ (r0 : Int), v = .int .i64 r0 ∧ K r0 H2)
theorem c_zset_turn.mono {C : Ctx} {p_n : Int} {K K2 : Int → Heap → Prop} {H : Heap} (h : c_zset_turn C p_n K H) (hk : ∀ r0 H2, K r0 H2 → K2 r0 H2) : c_zset_turn C p_n K2 H :=
 Spec.mono h fun _ H2 ⟨r0, hv, h2⟩ => ⟨r0, hv, hk r0 H2 h2⟩
theorem c_zset_turn.gh {C : Ctx} {p_n : Int} {K : Int → Heap → Prop} {H : Heap} (h : c_zset_turn C p_n (fun r0 H2 => ∃ H0, Gh C H2 H0 ∧ K r0 H0) H) : c_zset_turn C p_n K H :=
 Spec.gh (Spec.mono h fun _ H2 ⟨r0, hv, H0, hg, hk⟩ => ⟨H0, hg, r0, hv, hk⟩)
def c_ref02_Same (C : Ctx) (p_a : T_api_Value) (p_b : T_api_Value) (K : Bool → Heap → Prop) (H : Heap) : Prop :=
 Spec Tryz.prog C 62 [.agg (T_api_Value.c p_a).toArray, .agg (T_api_Value.c p_b).toArray] H (fun v H2 => ∃ (r0 : Bool), v = .bool r0 ∧ K r0 H2)
theorem c_ref02_Same.mono {C : Ctx} {p_a : T_api_Value} {p_b : T_api_Value} {K K2 : Bool → Heap → Prop} {H : Heap} (h : c_ref02_Same C p_a p_b K H) (hk : ∀ r0 H2, K r0 H2 → K2 r0 H2) : c_ref02_Same C p_a p_b K2 H :=
 Spec.mono h fun _ H2 ⟨r0, hv, h2⟩ => ⟨r0, hv, hk r0 H2 h2⟩
theorem c_ref02_Same.gh {C : Ctx} {p_a : T_api_Value} {p_b : T_api_Value} {K : Bool → Heap → Prop} {H : Heap} (h : c_ref02_Same C p_a p_b (fun r0 H2 => ∃ H0, Gh C H2 H0 ∧ K r0 H0) H) : c_ref02_Same C p_a p_b K H :=
 Spec.gh (Spec.mono h fun _ H2 ⟨r0, hv, H0, hg, hk⟩ => ⟨H0, hg, r0, hv, hk⟩)
def c_value_depth (C : Ctx) (p_v : T_api_Value) (p_most : Int) (K : Int → Heap → Prop) (H : Heap) : Prop :=
 Spec Tryz.prog C 63 [.agg (T_api_Value.c p_v).toArray, .int .i64 p_most] H (fun v H2 => ∃ (r0 : Int), v = .int .i64 r0 ∧ K r0 H2)
theorem c_value_depth.mono {C : Ctx} {p_v : T_api_Value} {p_most : Int} {K K2 : Int → Heap → Prop} {H : Heap} (h : c_value_depth C p_v p_most K H) (hk : ∀ r0 H2, K r0 H2 → K2 r0 H2) : c_value_depth C p_v p_most K2 H :=
 Spec.mono h fun _ H2 ⟨r0, hv, h2⟩ => ⟨r0, hv, hk r0 H2 h2⟩
theorem c_value_depth.gh {C : Ctx} {p_v : T_api_Value} {p_most : Int} {K : Int → Heap → Prop} {H : Heap} (h : c_value_depth C p_v p_most (fun r0 H2 => ∃ H0, Gh C H2 H0 ∧ K r0 H0) H) : c_value_depth C p_v p_most K H :=
 Spec.gh (Spec.mono h fun _ H2 ⟨r0, hv, H0, hg, hk⟩ => ⟨H0, hg, r0, hv, hk⟩)
def c_value_item_look (C : Ctx) (p_v : T_api_Value) (K : Bool → Bool → Heap → Prop) (H : Heap) : Prop :=
 Spec Tryz.prog C 64 [.agg (T_api_Value.c p_v).toArray] H (fun v H2 => ∃ (r0 : Bool) (r1 : Bool), v = .tuple #[.bool r0, .bool r1] ∧ K r0 r1 H2)
theorem c_value_item_look.mono {C : Ctx} {p_v : T_api_Value} {K K2 : Bool → Bool → Heap → Prop} {H : Heap} (h : c_value_item_look C p_v K H) (hk : ∀ r0 r1 H2, K r0 r1 H2 → K2 r0 r1 H2) : c_value_item_look C p_v K2 H :=
 Spec.mono h fun _ H2 ⟨r0, r1, hv, h2⟩ => ⟨r0, r1, hv, hk r0 r1 H2 h2⟩
theorem c_value_item_look.gh {C : Ctx} {p_v : T_api_Value} {K : Bool → Bool → Heap → Prop} {H : Heap} (h : c_value_item_look C p_v (fun r0 r1 H2 => ∃ H0, Gh C H2 H0 ∧ K r0 r1 H0) H) : c_value_item_look C p_v K H :=
 Spec.gh (Spec.mono h fun _ H2 ⟨r0, r1, hv, H0, hg, hk⟩ => ⟨H0, hg, r0, r1, hv, hk⟩)
def c_slices_IndexFunc_zset_Entry_zset_Entry (C : Ctx) (p_s : Sl) (p_f : Value) (K : Int → Heap → Prop) (H : Heap) : Prop :=
 Spec Tryz.prog C 65 [slv p_s, p_f] H (fun v H2 => ∃ (r0 : Int), v = .int .i64 r0 ∧ K r0 H2)
theorem c_slices_IndexFunc_zset_Entry_zset_Entry.mono {C : Ctx} {p_s : Sl} {p_f : Value} {K K2 : Int → Heap → Prop} {H : Heap} (h : c_slices_IndexFunc_zset_Entry_zset_Entry C p_s p_f K H) (hk : ∀ r0 H2, K r0 H2 → K2 r0 H2) : c_slices_IndexFunc_zset_Entry_zset_Entry C p_s p_f K2 H :=
 Spec.mono h fun _ H2 ⟨r0, hv, h2⟩ => ⟨r0, hv, hk r0 H2 h2⟩
theorem c_slices_IndexFunc_zset_Entry_zset_Entry.gh {C : Ctx} {p_s : Sl} {p_f : Value} {K : Int → Heap → Prop} {H : Heap} (h : c_slices_IndexFunc_zset_Entry_zset_Entry C p_s p_f (fun r0 H2 => ∃ H0, Gh C H2 H0 ∧ K r0 H0) H) : c_slices_IndexFunc_zset_Entry_zset_Entry C p_s p_f K H :=
 Spec.gh (Spec.mono h fun _ H2 ⟨r0, hv, H0, hg, hk⟩ => ⟨H0, hg, r0, hv, hk⟩)
def c_zset_each (C : Ctx) (p_parts : Sl) (K : Value → Heap → Prop) (H : Heap) : Prop :=
 Spec Tryz.prog C 66 [slv p_parts] H (fun v H2 => ∃ (r0 : Value), v = r0 ∧ K r0 H2)
theorem c_zset_each.mono {C : Ctx} {p_parts : Sl} {K K2 : Value → Heap → Prop} {H : Heap} (h : c_zset_each C p_parts K H) (hk : ∀ r0 H2, K r0 H2 → K2 r0 H2) : c_zset_each C p_parts K2 H :=
 Spec.mono h fun _ H2 ⟨r0, hv, h2⟩ => ⟨r0, hv, hk r0 H2 h2⟩
theorem c_zset_each.gh {C : Ctx} {p_parts : Sl} {K : Value → Heap → Prop} {H : Heap} (h : c_zset_each C p_parts (fun r0 H2 => ∃ H0, Gh C H2 H0 ∧ K r0 H0) H) : c_zset_each C p_parts K H :=
 Spec.gh (Spec.mono h fun _ H2 ⟨r0, hv, H0, hg, hk⟩ => ⟨H0, hg, r0, hv, hk⟩)
def c_slices_ContainsFunc_api_Value_api_Value (C : Ctx) (p_s : Sl) (p_f : Value) (K : Bool → Heap → Prop) (H : Heap) : Prop :=
 Spec Tryz.prog C 67 [slv p_s, p_f] H (fun v H2 => ∃ (r0 : Bool), v = .bool r0 ∧ K r0 H2)
theorem c_slices_ContainsFunc_api_Value_api_Value.mono {C : Ctx} {p_s : Sl} {p_f : Value} {K K2 : Bool → Heap → Prop} {H : Heap} (h : c_slices_ContainsFunc_api_Value_api_Value C p_s p_f K H) (hk : ∀ r0 H2, K r0 H2 → K2 r0 H2) : c_slices_ContainsFunc_api_Value_api_Value C p_s p_f K2 H :=
 Spec.mono h fun _ H2 ⟨r0, hv, h2⟩ => ⟨r0, hv, hk r0 H2 h2⟩
theorem c_slices_ContainsFunc_api_Value_api_Value.gh {C : Ctx} {p_s : Sl} {p_f : Value} {K : Bool → Heap → Prop} {H : Heap} (h : c_slices_ContainsFunc_api_Value_api_Value C p_s p_f (fun r0 H2 => ∃ H0, Gh C H2 H0 ∧ K r0 H0) H) : c_slices_ContainsFunc_api_Value_api_Value C p_s p_f K H :=
 Spec.gh (Spec.mono h fun _ H2 ⟨r0, hv, H0, hg, hk⟩ => ⟨H0, hg, r0, hv, hk⟩)
def c_zset_sums_1 (C : Ctx) (p_v : T_api_Value) (K : Bool → Heap → Prop) (H : Heap) : Prop :=
 Spec Tryz.prog C 68 [.agg (T_api_Value.c p_v).toArray] H (fun v H2 => ∃ (r0 : Bool), v = .bool r0 ∧ K r0 H2)
theorem c_zset_sums_1.mono {C : Ctx} {p_v : T_api_Value} {K K2 : Bool → Heap → Prop} {H : Heap} (h : c_zset_sums_1 C p_v K H) (hk : ∀ r0 H2, K r0 H2 → K2 r0 H2) : c_zset_sums_1 C p_v K2 H :=
 Spec.mono h fun _ H2 ⟨r0, hv, h2⟩ => ⟨r0, hv, hk r0 H2 h2⟩
theorem c_zset_sums_1.gh {C : Ctx} {p_v : T_api_Value} {K : Bool → Heap → Prop} {H : Heap} (h : c_zset_sums_1 C p_v (fun r0 H2 => ∃ H0, Gh C H2 H0 ∧ K r0 H0) H) : c_zset_sums_1 C p_v K H :=
 Spec.gh (Spec.mono h fun _ H2 ⟨r0, hv, H0, hg, hk⟩ => ⟨H0, hg, r0, hv, hk⟩)
def c_zset_out (C : Ctx) (p_n : Int) (K : Bool → Heap → Prop) (H : Heap) : Prop :=
 Spec Tryz.prog C 69 [.int .i64 p_n] H (fun v H2 => ∃ (r0 : Bool), v = .bool r0 ∧ K r0 H2)
theorem c_zset_out.mono {C : Ctx} {p_n : Int} {K K2 : Bool → Heap → Prop} {H : Heap} (h : c_zset_out C p_n K H) (hk : ∀ r0 H2, K r0 H2 → K2 r0 H2) : c_zset_out C p_n K2 H :=
 Spec.mono h fun _ H2 ⟨r0, hv, h2⟩ => ⟨r0, hv, hk r0 H2 h2⟩
theorem c_zset_out.gh {C : Ctx} {p_n : Int} {K : Bool → Heap → Prop} {H : Heap} (h : c_zset_out C p_n (fun r0 H2 => ∃ H0, Gh C H2 H0 ∧ K r0 H0) H) : c_zset_out C p_n K H :=
 Spec.gh (Spec.mono h fun _ H2 ⟨r0, hv, H0, hg, hk⟩ => ⟨H0, hg, r0, hv, hk⟩)
def c_slices_SortStableFunc_zset_Entry_zset_Entry (C : Ctx) (p_x : Sl) (p_cmp : Value) (K : Heap → Prop) (H : Heap) : Prop :=
 Spec Tryz.prog C 70 [slv p_x, p_cmp] H (fun v H2 => v = .tuple #[] ∧ K H2)
theorem c_slices_SortStableFunc_zset_Entry_zset_Entry.mono {C : Ctx} {p_x : Sl} {p_cmp : Value} {K K2 : Heap → Prop} {H : Heap} (h : c_slices_SortStableFunc_zset_Entry_zset_Entry C p_x p_cmp K H) (hk : ∀  H2, K  H2 → K2  H2) : c_slices_SortStableFunc_zset_Entry_zset_Entry C p_x p_cmp K2 H :=
 Spec.mono h fun _ H2 ⟨hv, h2⟩ => ⟨hv, hk H2 h2⟩
theorem c_slices_SortStableFunc_zset_Entry_zset_Entry.gh {C : Ctx} {p_x : Sl} {p_cmp : Value} {K : Heap → Prop} {H : Heap} (h : c_slices_SortStableFunc_zset_Entry_zset_Entry C p_x p_cmp (fun  H2 => ∃ H0, Gh C H2 H0 ∧ K  H0) H) : c_slices_SortStableFunc_zset_Entry_zset_Entry C p_x p_cmp K H :=
 Spec.gh (Spec.mono h fun _ H2 ⟨hv, H0, hg, hk⟩ => ⟨H0, hg, hv, hk⟩)
def c_zset_sums_2 (C : Ctx) (p_a : T_zset_Entry) (p_b : T_zset_Entry) (K : Int → Heap → Prop) (H : Heap) : Prop :=
 Spec Tryz.prog C 71 [.agg (T_zset_Entry.c p_a).toArray, .agg (T_zset_Entry.c p_b).toArray] H (fun v H2 => ∃ (r0 : Int), v = .int .i64 r0 ∧ K r0 H2)
theorem c_zset_sums_2.mono {C : Ctx} {p_a : T_zset_Entry} {p_b : T_zset_Entry} {K K2 : Int → Heap → Prop} {H : Heap} (h : c_zset_sums_2 C p_a p_b K H) (hk : ∀ r0 H2, K r0 H2 → K2 r0 H2) : c_zset_sums_2 C p_a p_b K2 H :=
 Spec.mono h fun _ H2 ⟨r0, hv, h2⟩ => ⟨r0, hv, hk r0 H2 h2⟩
theorem c_zset_sums_2.gh {C : Ctx} {p_a : T_zset_Entry} {p_b : T_zset_Entry} {K : Int → Heap → Prop} {H : Heap} (h : c_zset_sums_2 C p_a p_b (fun r0 H2 => ∃ H0, Gh C H2 H0 ∧ K r0 H0) H) : c_zset_sums_2 C p_a p_b K H :=
 Spec.gh (Spec.mono h fun _ H2 ⟨r0, hv, H0, hg, hk⟩ => ⟨H0, hg, r0, hv, hk⟩)
def c_value_CmpRows (C : Ctx) (p_a : Sl) (p_b : Sl) (K : Int → Heap → Prop) (H : Heap) : Prop :=
 Spec Tryz.prog C 72 [slv p_a, slv p_b] H (fun v H2 => ∃ (r0 : Int), v = .int .i64 r0 ∧ K r0 H2)
theorem c_value_CmpRows.mono {C : Ctx} {p_a : Sl} {p_b : Sl} {K K2 : Int → Heap → Prop} {H : Heap} (h : c_value_CmpRows C p_a p_b K H) (hk : ∀ r0 H2, K r0 H2 → K2 r0 H2) : c_value_CmpRows C p_a p_b K2 H :=
 Spec.mono h fun _ H2 ⟨r0, hv, h2⟩ => ⟨r0, hv, hk r0 H2 h2⟩
theorem c_value_CmpRows.gh {C : Ctx} {p_a : Sl} {p_b : Sl} {K : Int → Heap → Prop} {H : Heap} (h : c_value_CmpRows C p_a p_b (fun r0 H2 => ∃ H0, Gh C H2 H0 ∧ K r0 H0) H) : c_value_CmpRows C p_a p_b K H :=
 Spec.gh (Spec.mono h fun _ H2 ⟨r0, hv, H0, hg, hk⟩ => ⟨H0, hg, r0, hv, hk⟩)
def c_zset_own (C : Ctx) (p_l : Sl) (K : Sl → Heap → Prop) (H : Heap) : Prop :=
 Spec Tryz.prog C 73 [slv p_l] H (fun v H2 => ∃ (r0 : Sl), v = slv r0 ∧ K r0 H2)
theorem c_zset_own.mono {C : Ctx} {p_l : Sl} {K K2 : Sl → Heap → Prop} {H : Heap} (h : c_zset_own C p_l K H) (hk : ∀ r0 H2, K r0 H2 → K2 r0 H2) : c_zset_own C p_l K2 H :=
 Spec.mono h fun _ H2 ⟨r0, hv, h2⟩ => ⟨r0, hv, hk r0 H2 h2⟩
theorem c_zset_own.gh {C : Ctx} {p_l : Sl} {K : Sl → Heap → Prop} {H : Heap} (h : c_zset_own C p_l (fun r0 H2 => ∃ H0, Gh C H2 H0 ∧ K r0 H0) H) : c_zset_own C p_l K H :=
 Spec.gh (Spec.mono h fun _ H2 ⟨r0, hv, H0, hg, hk⟩ => ⟨H0, hg, r0, hv, hk⟩)
def c_value_Show (C : Ctx) (p_v : T_api_Value) (K : Str → Heap → Prop) (H : Heap) : Prop :=
 Spec Tryz.prog C 74 [.agg (T_api_Value.c p_v).toArray] H (fun v H2 => ∃ (r0 : Str), v = sv r0 ∧ K r0 H2)
theorem c_value_Show.mono {C : Ctx} {p_v : T_api_Value} {K K2 : Str → Heap → Prop} {H : Heap} (h : c_value_Show C p_v K H) (hk : ∀ r0 H2, K r0 H2 → K2 r0 H2) : c_value_Show C p_v K2 H :=
 Spec.mono h fun _ H2 ⟨r0, hv, h2⟩ => ⟨r0, hv, hk r0 H2 h2⟩
theorem c_value_Show.gh {C : Ctx} {p_v : T_api_Value} {K : Str → Heap → Prop} {H : Heap} (h : c_value_Show C p_v (fun r0 H2 => ∃ H0, Gh C H2 H0 ∧ K r0 H0) H) : c_value_Show C p_v K H :=
 Spec.gh (Spec.mono h fun _ H2 ⟨r0, hv, H0, hg, hk⟩ => ⟨H0, hg, r0, hv, hk⟩)
def c_value_number (C : Ctx) (p_s : Str) (K : Int → Bool → Heap → Prop) (H : Heap) : Prop :=
 Spec Tryz.prog C 77 [sv p_s] H (fun v H2 => ∃ (r0 : Int) (r1 : Bool), v = .tuple #[.int .i64 r0, .bool r1] ∧ K r0 r1 H2)
theorem c_value_number.mono {C : Ctx} {p_s : Str} {K K2 : Int → Bool → Heap → Prop} {H : Heap} (h : c_value_number C p_s K H) (hk : ∀ r0 r1 H2, K r0 r1 H2 → K2 r0 r1 H2) : c_value_number C p_s K2 H :=
 Spec.mono h fun _ H2 ⟨r0, r1, hv, h2⟩ => ⟨r0, r1, hv, hk r0 r1 H2 h2⟩
theorem c_value_number.gh {C : Ctx} {p_s : Str} {K : Int → Bool → Heap → Prop} {H : Heap} (h : c_value_number C p_s (fun r0 r1 H2 => ∃ H0, Gh C H2 H0 ∧ K r0 r1 H0) H) : c_value_number C p_s K H :=
 Spec.gh (Spec.mono h fun _ H2 ⟨r0, r1, hv, H0, hg, hk⟩ => ⟨H0, hg, r0, r1, hv, hk⟩)
def c_strings_Cut (C : Ctx) (p_s : Str) (p_sep : Str) (K : Str → Str → Bool → Heap → Prop) (H : Heap) : Prop :=
 Spec Tryz.prog C 78 [sv p_s, sv p_sep] H (fun v H2 => ∃ (r0 : Str) (r1 : Str) (r2 : Bool), v = .tuple #[sv r0, sv r1, .bool r2] ∧ K r0 r1 r2 H2)
theorem c_strings_Cut.mono {C : Ctx} {p_s : Str} {p_sep : Str} {K K2 : Str → Str → Bool → Heap → Prop} {H : Heap} (h : c_strings_Cut C p_s p_sep K H) (hk : ∀ r0 r1 r2 H2, K r0 r1 r2 H2 → K2 r0 r1 r2 H2) : c_strings_Cut C p_s p_sep K2 H :=
 Spec.mono h fun _ H2 ⟨r0, r1, r2, hv, h2⟩ => ⟨r0, r1, r2, hv, hk r0 r1 r2 H2 h2⟩
theorem c_strings_Cut.gh {C : Ctx} {p_s : Str} {p_sep : Str} {K : Str → Str → Bool → Heap → Prop} {H : Heap} (h : c_strings_Cut C p_s p_sep (fun r0 r1 r2 H2 => ∃ H0, Gh C H2 H0 ∧ K r0 r1 r2 H0) H) : c_strings_Cut C p_s p_sep K H :=
 Spec.gh (Spec.mono h fun _ H2 ⟨r0, r1, r2, hv, H0, hg, hk⟩ => ⟨H0, hg, r0, r1, r2, hv, hk⟩)
def c_value_name (C : Ctx) (p_s : Str) (K : Bool → Heap → Prop) (H : Heap) : Prop :=
 Spec Tryz.prog C 79 [sv p_s] H (fun v H2 => ∃ (r0 : Bool), v = .bool r0 ∧ K r0 H2)
theorem c_value_name.mono {C : Ctx} {p_s : Str} {K K2 : Bool → Heap → Prop} {H : Heap} (h : c_value_name C p_s K H) (hk : ∀ r0 H2, K r0 H2 → K2 r0 H2) : c_value_name C p_s K2 H :=
 Spec.mono h fun _ H2 ⟨r0, hv, h2⟩ => ⟨r0, hv, hk r0 H2 h2⟩
theorem c_value_name.gh {C : Ctx} {p_s : Str} {K : Bool → Heap → Prop} {H : Heap} (h : c_value_name C p_s (fun r0 H2 => ∃ H0, Gh C H2 H0 ∧ K r0 H0) H) : c_value_name C p_s K H :=
 Spec.gh (Spec.mono h fun _ H2 ⟨r0, hv, H0, hg, hk⟩ => ⟨H0, hg, r0, hv, hk⟩)
def c_zset_each_1 (C : Ctx) (p_yield : Value) (v0 : Nat × Nat) (K : Heap → Prop) (H : Heap) : Prop :=
 Spec Tryz.prog C 80 [p_yield, pv (some v0)] H (fun v H2 => v = .tuple #[] ∧ K H2)
theorem c_zset_each_1.mono {C : Ctx} {p_yield : Value} {v0 : Nat × Nat} {K K2 : Heap → Prop} {H : Heap} (h : c_zset_each_1 C p_yield v0 K H) (hk : ∀  H2, K  H2 → K2  H2) : c_zset_each_1 C p_yield v0 K2 H :=
 Spec.mono h fun _ H2 ⟨hv, h2⟩ => ⟨hv, hk H2 h2⟩
theorem c_zset_each_1.gh {C : Ctx} {p_yield : Value} {v0 : Nat × Nat} {K : Heap → Prop} {H : Heap} (h : c_zset_each_1 C p_yield v0 (fun  H2 => ∃ H0, Gh C H2 H0 ∧ K  H0) H) : c_zset_each_1 C p_yield v0 K H :=
 Spec.gh (Spec.mono h fun _ H2 ⟨hv, H0, hg, hk⟩ => ⟨H0, hg, hv, hk⟩)
def c_slices_IndexFunc_api_Value_api_Value (C : Ctx) (p_s : Sl) (p_f : Value) (K : Int → Heap → Prop) (H : Heap) : Prop :=
 Spec Tryz.prog C 81 [slv p_s, p_f] H (fun v H2 => ∃ (r0 : Int), v = .int .i64 r0 ∧ K r0 H2)
theorem c_slices_IndexFunc_api_Value_api_Value.mono {C : Ctx} {p_s : Sl} {p_f : Value} {K K2 : Int → Heap → Prop} {H : Heap} (h : c_slices_IndexFunc_api_Value_api_Value C p_s p_f K H) (hk : ∀ r0 H2, K r0 H2 → K2 r0 H2) : c_slices_IndexFunc_api_Value_api_Value C p_s p_f K2 H :=
 Spec.mono h fun _ H2 ⟨r0, hv, h2⟩ => ⟨r0, hv, hk r0 H2 h2⟩
theorem c_slices_IndexFunc_api_Value_api_Value.gh {C : Ctx} {p_s : Sl} {p_f : Value} {K : Int → Heap → Prop} {H : Heap} (h : c_slices_IndexFunc_api_Value_api_Value C p_s p_f (fun r0 H2 => ∃ H0, Gh C H2 H0 ∧ K r0 H0) H) : c_slices_IndexFunc_api_Value_api_Value C p_s p_f K H :=
 Spec.gh (Spec.mono h fun _ H2 ⟨r0, hv, H0, hg, hk⟩ => ⟨H0, hg, r0, hv, hk⟩)
def c_slices_stableCmpFunc_zset_Entry (C : Ctx) (p_data : Sl) (p_n : Int) (p_cmp : Value) (K : Heap → Prop) (H : Heap) : Prop :=
 Spec Tryz.prog C 82 [slv p_data, .int .i64 p_n, p_cmp] H (fun v H2 => v = .tuple #[] ∧ K H2)
theorem c_slices_stableCmpFunc_zset_Entry.mono {C : Ctx} {p_data : Sl} {p_n : Int} {p_cmp : Value} {K K2 : Heap → Prop} {H : Heap} (h : c_slices_stableCmpFunc_zset_Entry C p_data p_n p_cmp K H) (hk : ∀  H2, K  H2 → K2  H2) : c_slices_stableCmpFunc_zset_Entry C p_data p_n p_cmp K2 H :=
 Spec.mono h fun _ H2 ⟨hv, h2⟩ => ⟨hv, hk H2 h2⟩
theorem c_slices_stableCmpFunc_zset_Entry.gh {C : Ctx} {p_data : Sl} {p_n : Int} {p_cmp : Value} {K : Heap → Prop} {H : Heap} (h : c_slices_stableCmpFunc_zset_Entry C p_data p_n p_cmp (fun  H2 => ∃ H0, Gh C H2 H0 ∧ K  H0) H) : c_slices_stableCmpFunc_zset_Entry C p_data p_n p_cmp K H :=
 Spec.gh (Spec.mono h fun _ H2 ⟨hv, H0, hg, hk⟩ => ⟨H0, hg, hv, hk⟩)
def c_value_may (C : Ctx) (p_l : Sl) (K : Bool → Heap → Prop) (H : Heap) : Prop :=
 Spec Tryz.prog C 83 [slv p_l] H (fun v H2 => ∃ (r0 : Bool), v = .bool r0 ∧ K r0 H2)
theorem c_value_may.mono {C : Ctx} {p_l : Sl} {K K2 : Bool → Heap → Prop} {H : Heap} (h : c_value_may C p_l K H) (hk : ∀ r0 H2, K r0 H2 → K2 r0 H2) : c_value_may C p_l K2 H :=
 Spec.mono h fun _ H2 ⟨r0, hv, h2⟩ => ⟨r0, hv, hk r0 H2 h2⟩
theorem c_value_may.gh {C : Ctx} {p_l : Sl} {K : Bool → Heap → Prop} {H : Heap} (h : c_value_may C p_l (fun r0 H2 => ∃ H0, Gh C H2 H0 ∧ K r0 H0) H) : c_value_may C p_l K H :=
 Spec.gh (Spec.mono h fun _ H2 ⟨r0, hv, H0, hg, hk⟩ => ⟨H0, hg, r0, hv, hk⟩)
def c_value_last (C : Ctx) (p_a : Bool) (p_b : Bool) (K : Int → Heap → Prop) (H : Heap) : Prop :=
 Spec Tryz.prog C 84 [.bool p_a, .bool p_b] H (fun v H2 => ∃ (r0 : Int), v = .int .i64 r0 ∧ K r0 H2)
theorem c_value_last.mono {C : Ctx} {p_a : Bool} {p_b : Bool} {K K2 : Int → Heap → Prop} {H : Heap} (h : c_value_last C p_a p_b K H) (hk : ∀ r0 H2, K r0 H2 → K2 r0 H2) : c_value_last C p_a p_b K2 H :=
 Spec.mono h fun _ H2 ⟨r0, hv, h2⟩ => ⟨r0, hv, hk r0 H2 h2⟩
theorem c_value_last.gh {C : Ctx} {p_a : Bool} {p_b : Bool} {K : Int → Heap → Prop} {H : Heap} (h : c_value_last C p_a p_b (fun r0 H2 => ∃ H0, Gh C H2 H0 ∧ K r0 H0) H) : c_value_last C p_a p_b K H :=
 Spec.gh (Spec.mono h fun _ H2 ⟨r0, hv, H0, hg, hk⟩ => ⟨H0, hg, r0, hv, hk⟩)
def c_value_rows (C : Ctx) (p_a : Sl) (p_b : Sl) (K : Int → Heap → Prop) (H : Heap) : Prop :=
 Spec Tryz.prog C 85 [slv p_a, slv p_b] H (fun v H2 => ∃ (r0 : Int), v = .int .i64 r0 ∧ K r0 H2)
theorem c_value_rows.mono {C : Ctx} {p_a : Sl} {p_b : Sl} {K K2 : Int → Heap → Prop} {H : Heap} (h : c_value_rows C p_a p_b K H) (hk : ∀ r0 H2, K r0 H2 → K2 r0 H2) : c_value_rows C p_a p_b K2 H :=
 Spec.mono h fun _ H2 ⟨r0, hv, h2⟩ => ⟨r0, hv, hk r0 H2 h2⟩
theorem c_value_rows.gh {C : Ctx} {p_a : Sl} {p_b : Sl} {K : Int → Heap → Prop} {H : Heap} (h : c_value_rows C p_a p_b (fun r0 H2 => ∃ H0, Gh C H2 H0 ∧ K r0 H0) H) : c_value_rows C p_a p_b K H :=
 Spec.gh (Spec.mono h fun _ H2 ⟨r0, hv, H0, hg, hk⟩ => ⟨H0, hg, r0, hv, hk⟩)
def c_slices_Clone_api_Value_api_Value (C : Ctx) (p_s : Sl) (K : Sl → Heap → Prop) (H : Heap) : Prop :=
 Spec Tryz.prog C 86 [slv p_s] H (fun v H2 => ∃ (r0 : Sl), v = slv r0 ∧ K r0 H2)
theorem c_slices_Clone_api_Value_api_Value.mono {C : Ctx} {p_s : Sl} {K K2 : Sl → Heap → Prop} {H : Heap} (h : c_slices_Clone_api_Value_api_Value C p_s K H) (hk : ∀ r0 H2, K r0 H2 → K2 r0 H2) : c_slices_Clone_api_Value_api_Value C p_s K2 H :=
 Spec.mono h fun _ H2 ⟨r0, hv, h2⟩ => ⟨r0, hv, hk r0 H2 h2⟩
theorem c_slices_Clone_api_Value_api_Value.gh {C : Ctx} {p_s : Sl} {K : Sl → Heap → Prop} {H : Heap} (h : c_slices_Clone_api_Value_api_Value C p_s (fun r0 H2 => ∃ H0, Gh C H2 H0 ∧ K r0 H0) H) : c_slices_Clone_api_Value_api_Value C p_s K H :=
 Spec.gh (Spec.mono h fun _ H2 ⟨r0, hv, H0, hg, hk⟩ => ⟨H0, hg, r0, hv, hk⟩)
def c_value_Show_1 (C : Ctx) (p_l : Sl) (v0 : Nat × Nat) (v1 : Nat × Nat) (K : Heap → Prop) (H : Heap) : Prop :=
 Spec Tryz.prog C 87 [slv p_l, pv (some v0), pv (some v1)] H (fun v H2 => v = .tuple #[] ∧ K H2)
theorem c_value_Show_1.mono {C : Ctx} {p_l : Sl} {v0 : Nat × Nat} {v1 : Nat × Nat} {K K2 : Heap → Prop} {H : Heap} (h : c_value_Show_1 C p_l v0 v1 K H) (hk : ∀  H2, K  H2 → K2  H2) : c_value_Show_1 C p_l v0 v1 K2 H :=
 Spec.mono h fun _ H2 ⟨hv, h2⟩ => ⟨hv, hk H2 h2⟩
theorem c_value_Show_1.gh {C : Ctx} {p_l : Sl} {v0 : Nat × Nat} {v1 : Nat × Nat} {K : Heap → Prop} {H : Heap} (h : c_value_Show_1 C p_l v0 v1 (fun  H2 => ∃ H0, Gh C H2 H0 ∧ K  H0) H) : c_value_Show_1 C p_l v0 v1 K H :=
 Spec.gh (Spec.mono h fun _ H2 ⟨hv, H0, hg, hk⟩ => ⟨H0, hg, hv, hk⟩)
def c_strings_Builder_WriteByte (C : Ctx) (p_b : Option (Nat × Nat)) (p_c : Int) (K : Value → Heap → Prop) (H : Heap) : Prop :=
 Spec Tryz.prog C 88 [pv p_b, .int .u8 p_c] H (fun v H2 => ∃ (r0 : Value), v = r0 ∧ K r0 H2)
theorem c_strings_Builder_WriteByte.mono {C : Ctx} {p_b : Option (Nat × Nat)} {p_c : Int} {K K2 : Value → Heap → Prop} {H : Heap} (h : c_strings_Builder_WriteByte C p_b p_c K H) (hk : ∀ r0 H2, K r0 H2 → K2 r0 H2) : c_strings_Builder_WriteByte C p_b p_c K2 H :=
 Spec.mono h fun _ H2 ⟨r0, hv, h2⟩ => ⟨r0, hv, hk r0 H2 h2⟩
theorem c_strings_Builder_WriteByte.gh {C : Ctx} {p_b : Option (Nat × Nat)} {p_c : Int} {K : Value → Heap → Prop} {H : Heap} (h : c_strings_Builder_WriteByte C p_b p_c (fun r0 H2 => ∃ H0, Gh C H2 H0 ∧ K r0 H0) H) : c_strings_Builder_WriteByte C p_b p_c K H :=
 Spec.gh (Spec.mono h fun _ H2 ⟨r0, hv, H0, hg, hk⟩ => ⟨H0, hg, r0, hv, hk⟩)
def c_strings_Builder_WriteString (C : Ctx) (p_b : Option (Nat × Nat)) (p_s : Str) (K : Int → Value → Heap → Prop) (H : Heap) : Prop :=
 Spec Tryz.prog C 89 [pv p_b, sv p_s] H (fun v H2 => ∃ (r0 : Int) (r1 : Value), v = .tuple #[.int .i64 r0, r1] ∧ K r0 r1 H2)
theorem c_strings_Builder_WriteString.mono {C : Ctx} {p_b : Option (Nat × Nat)} {p_s : Str} {K K2 : Int → Value → Heap → Prop} {H : Heap} (h : c_strings_Builder_WriteString C p_b p_s K H) (hk : ∀ r0 r1 H2, K r0 r1 H2 → K2 r0 r1 H2) : c_strings_Builder_WriteString C p_b p_s K2 H :=
 Spec.mono h fun _ H2 ⟨r0, r1, hv, h2⟩ => ⟨r0, r1, hv, hk r0 r1 H2 h2⟩
theorem c_strings_Builder_WriteString.gh {C : Ctx} {p_b : Option (Nat × Nat)} {p_s : Str} {K : Int → Value → Heap → Prop} {H : Heap} (h : c_strings_Builder_WriteString C p_b p_s (fun r0 r1 H2 => ∃ H0, Gh C H2 H0 ∧ K r0 r1 H0) H) : c_strings_Builder_WriteString C p_b p_s K H :=
 Spec.gh (Spec.mono h fun _ H2 ⟨r0, r1, hv, H0, hg, hk⟩ => ⟨H0, hg, r0, r1, hv, hk⟩)
def c_value_Show_2 (C : Ctx) (p_v : T_api_Value) (v0 : Nat × Nat) (v1 : Nat × Nat) (K : Heap → Prop) (H : Heap) : Prop :=
 Spec Tryz.prog C 90 [.agg (T_api_Value.c p_v).toArray, pv (some v0), pv (some v1)] H (fun v H2 => v = .tuple #[] ∧ K H2)
theorem c_value_Show_2.mono {C : Ctx} {p_v : T_api_Value} {v0 : Nat × Nat} {v1 : Nat × Nat} {K K2 : Heap → Prop} {H : Heap} (h : c_value_Show_2 C p_v v0 v1 K H) (hk : ∀  H2, K  H2 → K2  H2) : c_value_Show_2 C p_v v0 v1 K2 H :=
 Spec.mono h fun _ H2 ⟨hv, h2⟩ => ⟨hv, hk H2 h2⟩
theorem c_value_Show_2.gh {C : Ctx} {p_v : T_api_Value} {v0 : Nat × Nat} {v1 : Nat × Nat} {K : Heap → Prop} {H : Heap} (h : c_value_Show_2 C p_v v0 v1 (fun  H2 => ∃ H0, Gh C H2 H0 ∧ K  H0) H) : c_value_Show_2 C p_v v0 v1 K H :=
 Spec.gh (Spec.mono h fun _ H2 ⟨hv, H0, hg, hk⟩ => ⟨H0, hg, hv, hk⟩)
def c_strconv_FormatBool (C : Ctx) (p_b : Bool) (K : Str → Heap → Prop) (H : Heap) : Prop :=
 Spec Tryz.prog C 91 [.bool p_b] H (fun v H2 => ∃ (r0 : Str), v = sv r0 ∧ K r0 H2)
theorem c_strconv_FormatBool.mono {C : Ctx} {p_b : Bool} {K K2 : Str → Heap → Prop} {H : Heap} (h : c_strconv_FormatBool C p_b K H) (hk : ∀ r0 H2, K r0 H2 → K2 r0 H2) : c_strconv_FormatBool C p_b K2 H :=
 Spec.mono h fun _ H2 ⟨r0, hv, h2⟩ => ⟨r0, hv, hk r0 H2 h2⟩
theorem c_strconv_FormatBool.gh {C : Ctx} {p_b : Bool} {K : Str → Heap → Prop} {H : Heap} (h : c_strconv_FormatBool C p_b (fun r0 H2 => ∃ H0, Gh C H2 H0 ∧ K r0 H0) H) : c_strconv_FormatBool C p_b K H :=
 Spec.gh (Spec.mono h fun _ H2 ⟨r0, hv, H0, hg, hk⟩ => ⟨H0, hg, r0, hv, hk⟩)
def c_strconv_FormatInt (C : Ctx) (p_i : Int) (p_base : Int) (K : Str → Heap → Prop) (H : Heap) : Prop :=
 Spec Tryz.prog C 92 [.int .i64 p_i, .int .i64 p_base] H (fun v H2 => ∃ (r0 : Str), v = sv r0 ∧ K r0 H2)
theorem c_strconv_FormatInt.mono {C : Ctx} {p_i : Int} {p_base : Int} {K K2 : Str → Heap → Prop} {H : Heap} (h : c_strconv_FormatInt C p_i p_base K H) (hk : ∀ r0 H2, K r0 H2 → K2 r0 H2) : c_strconv_FormatInt C p_i p_base K2 H :=
 Spec.mono h fun _ H2 ⟨r0, hv, h2⟩ => ⟨r0, hv, hk r0 H2 h2⟩
theorem c_strconv_FormatInt.gh {C : Ctx} {p_i : Int} {p_base : Int} {K : Str → Heap → Prop} {H : Heap} (h : c_strconv_FormatInt C p_i p_base (fun r0 H2 => ∃ H0, Gh C H2 H0 ∧ K r0 H0) H) : c_strconv_FormatInt C p_i p_base K H :=
 Spec.gh (Spec.mono h fun _ H2 ⟨r0, hv, H0, hg, hk⟩ => ⟨H0, hg, r0, hv, hk⟩)
def c_value_quote (C : Ctx) (p_b : Option (Nat × Nat)) (p_s : Str) (K : Heap → Prop) (H : Heap) : Prop :=
 Spec Tryz.prog C 93 [pv p_b, sv p_s] H (fun v H2 => v = .tuple #[] ∧ K H2)
theorem c_value_quote.mono {C : Ctx} {p_b : Option (Nat × Nat)} {p_s : Str} {K K2 : Heap → Prop} {H : Heap} (h : c_value_quote C p_b p_s K H) (hk : ∀  H2, K  H2 → K2  H2) : c_value_quote C p_b p_s K2 H :=
 Spec.mono h fun _ H2 ⟨hv, h2⟩ => ⟨hv, hk H2 h2⟩
theorem c_value_quote.gh {C : Ctx} {p_b : Option (Nat × Nat)} {p_s : Str} {K : Heap → Prop} {H : Heap} (h : c_value_quote C p_b p_s (fun  H2 => ∃ H0, Gh C H2 H0 ∧ K  H0) H) : c_value_quote C p_b p_s K H :=
 Spec.gh (Spec.mono h fun _ H2 ⟨hv, H0, hg, hk⟩ => ⟨H0, hg, hv, hk⟩)
def c_strings_Builder_String (C : Ctx) (p_b : Option (Nat × Nat)) (K : Str → Heap → Prop) (H : Heap) : Prop :=
 Spec Tryz.prog C 94 [pv p_b] H (fun v H2 => ∃ (r0 : Str), v = sv r0 ∧ K r0 H2)
theorem c_strings_Builder_String.mono {C : Ctx} {p_b : Option (Nat × Nat)} {K K2 : Str → Heap → Prop} {H : Heap} (h : c_strings_Builder_String C p_b K H) (hk : ∀ r0 H2, K r0 H2 → K2 r0 H2) : c_strings_Builder_String C p_b K2 H :=
 Spec.mono h fun _ H2 ⟨r0, hv, h2⟩ => ⟨r0, hv, hk r0 H2 h2⟩
theorem c_strings_Builder_String.gh {C : Ctx} {p_b : Option (Nat × Nat)} {K : Str → Heap → Prop} {H : Heap} (h : c_strings_Builder_String C p_b (fun r0 H2 => ∃ H0, Gh C H2 H0 ∧ K r0 H0) H) : c_strings_Builder_String C p_b K H :=
 Spec.gh (Spec.mono h fun _ H2 ⟨r0, hv, H0, hg, hk⟩ => ⟨H0, hg, r0, hv, hk⟩)
def c_strings_TrimPrefix (C : Ctx) (p_s : Str) (p_prefix : Str) (K : Str → Heap → Prop) (H : Heap) : Prop :=
 Spec Tryz.prog C 98 [sv p_s, sv p_prefix] H (fun v H2 => ∃ (r0 : Str), v = sv r0 ∧ K r0 H2)
theorem c_strings_TrimPrefix.mono {C : Ctx} {p_s : Str} {p_prefix : Str} {K K2 : Str → Heap → Prop} {H : Heap} (h : c_strings_TrimPrefix C p_s p_prefix K H) (hk : ∀ r0 H2, K r0 H2 → K2 r0 H2) : c_strings_TrimPrefix C p_s p_prefix K2 H :=
 Spec.mono h fun _ H2 ⟨r0, hv, h2⟩ => ⟨r0, hv, hk r0 H2 h2⟩
theorem c_strings_TrimPrefix.gh {C : Ctx} {p_s : Str} {p_prefix : Str} {K : Str → Heap → Prop} {H : Heap} (h : c_strings_TrimPrefix C p_s p_prefix (fun r0 H2 => ∃ H0, Gh C H2 H0 ∧ K r0 H0) H) : c_strings_TrimPrefix C p_s p_prefix K H :=
 Spec.gh (Spec.mono h fun _ H2 ⟨r0, hv, H0, hg, hk⟩ => ⟨H0, hg, r0, hv, hk⟩)
def c_strings_Trim (C : Ctx) (p_s : Str) (p_cutset : Str) (K : Str → Heap → Prop) (H : Heap) : Prop :=
 Spec Tryz.prog C 99 [sv p_s, sv p_cutset] H (fun v H2 => ∃ (r0 : Str), v = sv r0 ∧ K r0 H2)
theorem c_strings_Trim.mono {C : Ctx} {p_s : Str} {p_cutset : Str} {K K2 : Str → Heap → Prop} {H : Heap} (h : c_strings_Trim C p_s p_cutset K H) (hk : ∀ r0 H2, K r0 H2 → K2 r0 H2) : c_strings_Trim C p_s p_cutset K2 H :=
 Spec.mono h fun _ H2 ⟨r0, hv, h2⟩ => ⟨r0, hv, hk r0 H2 h2⟩
theorem c_strings_Trim.gh {C : Ctx} {p_s : Str} {p_cutset : Str} {K : Str → Heap → Prop} {H : Heap} (h : c_strings_Trim C p_s p_cutset (fun r0 H2 => ∃ H0, Gh C H2 H0 ∧ K r0 H0) H) : c_strings_Trim C p_s p_cutset K H :=
 Spec.gh (Spec.mono h fun _ H2 ⟨r0, hv, H0, hg, hk⟩ => ⟨H0, hg, r0, hv, hk⟩)
def c_internal_stringslite_Cut (C : Ctx) (p_s : Str) (p_sep : Str) (K : Str → Str → Bool → Heap → Prop) (H : Heap) : Prop :=
 Spec Tryz.prog C 100 [sv p_s, sv p_sep] H (fun v H2 => ∃ (r0 : Str) (r1 : Str) (r2 : Bool), v = .tuple #[sv r0, sv r1, .bool r2] ∧ K r0 r1 r2 H2)
theorem c_internal_stringslite_Cut.mono {C : Ctx} {p_s : Str} {p_sep : Str} {K K2 : Str → Str → Bool → Heap → Prop} {H : Heap} (h : c_internal_stringslite_Cut C p_s p_sep K H) (hk : ∀ r0 r1 r2 H2, K r0 r1 r2 H2 → K2 r0 r1 r2 H2) : c_internal_stringslite_Cut C p_s p_sep K2 H :=
 Spec.mono h fun _ H2 ⟨r0, r1, r2, hv, h2⟩ => ⟨r0, r1, r2, hv, hk r0 r1 r2 H2 h2⟩
theorem c_internal_stringslite_Cut.gh {C : Ctx} {p_s : Str} {p_sep : Str} {K : Str → Str → Bool → Heap → Prop} {H : Heap} (h : c_internal_stringslite_Cut C p_s p_sep (fun r0 r1 r2 H2 => ∃ H0, Gh C H2 H0 ∧ K r0 r1 r2 H0) H) : c_internal_stringslite_Cut C p_s p_sep K H :=
 Spec.gh (Spec.mono h fun _ H2 ⟨r0, r1, r2, hv, H0, hg, hk⟩ => ⟨H0, hg, r0, r1, r2, hv, hk⟩)
def c_slices_insertionSortCmpFunc_zset_Entry (C : Ctx) (p_data : Sl) (p_a : Int) (p_b : Int) (p_cmp : Value) (K : Heap → Prop) (H : Heap) : Prop :=
 Spec Tryz.prog C 101 [slv p_data, .int .i64 p_a, .int .i64 p_b, p_cmp] H (fun v H2 => v = .tuple #[] ∧ K H2)
theorem c_slices_insertionSortCmpFunc_zset_Entry.mono {C : Ctx} {p_data : Sl} {p_a : Int} {p_b : Int} {p_cmp : Value} {K K2 : Heap → Prop} {H : Heap} (h : c_slices_insertionSortCmpFunc_zset_Entry C p_data p_a p_b p_cmp K H) (hk : ∀  H2, K  H2 → K2  H2) : c_slices_insertionSortCmpFunc_zset_Entry C p_data p_a p_b p_cmp K2 H :=
 Spec.mono h fun _ H2 ⟨hv, h2⟩ => ⟨hv, hk H2 h2⟩
theorem c_slices_insertionSortCmpFunc_zset_Entry.gh {C : Ctx} {p_data : Sl} {p_a : Int} {p_b : Int} {p_cmp : Value} {K : Heap → Prop} {H : Heap} (h : c_slices_insertionSortCmpFunc_zset_Entry C p_data p_a p_b p_cmp (fun  H2 => ∃ H0, Gh C H2 H0 ∧ K  H0) H) : c_slices_insertionSortCmpFunc_zset_Entry C p_data p_a p_b p_cmp K H :=
 Spec.gh (Spec.mono h fun _ H2 ⟨hv, H0, hg, hk⟩ => ⟨H0, hg, hv, hk⟩)
def c_slices_symMergeCmpFunc_zset_Entry (C : Ctx) (p_data : Sl) (p_a : Int) (p_m : Int) (p_b : Int) (p_cmp : Value) (K : Heap → Prop) (H : Heap) : Prop :=
 Spec Tryz.prog C 102 [slv p_data, .int .i64 p_a, .int .i64 p_m, .int .i64 p_b, p_cmp] H (fun v H2 => v = .tuple #[] ∧ K H2)
theorem c_slices_symMergeCmpFunc_zset_Entry.mono {C : Ctx} {p_data : Sl} {p_a : Int} {p_m : Int} {p_b : Int} {p_cmp : Value} {K K2 : Heap → Prop} {H : Heap} (h : c_slices_symMergeCmpFunc_zset_Entry C p_data p_a p_m p_b p_cmp K H) (hk : ∀  H2, K  H2 → K2  H2) : c_slices_symMergeCmpFunc_zset_Entry C p_data p_a p_m p_b p_cmp K2 H :=
 Spec.mono h fun _ H2 ⟨hv, h2⟩ => ⟨hv, hk H2 h2⟩
theorem c_slices_symMergeCmpFunc_zset_Entry.gh {C : Ctx} {p_data : Sl} {p_a : Int} {p_m : Int} {p_b : Int} {p_cmp : Value} {K : Heap → Prop} {H : Heap} (h : c_slices_symMergeCmpFunc_zset_Entry C p_data p_a p_m p_b p_cmp (fun  H2 => ∃ H0, Gh C H2 H0 ∧ K  H0) H) : c_slices_symMergeCmpFunc_zset_Entry C p_data p_a p_m p_b p_cmp K H :=
 Spec.gh (Spec.mono h fun _ H2 ⟨hv, H0, hg, hk⟩ => ⟨H0, hg, hv, hk⟩)
def c_value_may_1 (C : Ctx) (p_v : T_api_Value) (K : Bool → Heap → Prop) (H : Heap) : Prop :=
 Spec Tryz.prog C 103 [.agg (T_api_Value.c p_v).toArray] H (fun v H2 => ∃ (r0 : Bool), v = .bool r0 ∧ K r0 H2)
theorem c_value_may_1.mono {C : Ctx} {p_v : T_api_Value} {K K2 : Bool → Heap → Prop} {H : Heap} (h : c_value_may_1 C p_v K H) (hk : ∀ r0 H2, K r0 H2 → K2 r0 H2) : c_value_may_1 C p_v K2 H :=
 Spec.mono h fun _ H2 ⟨r0, hv, h2⟩ => ⟨r0, hv, hk r0 H2 h2⟩
theorem c_value_may_1.gh {C : Ctx} {p_v : T_api_Value} {K : Bool → Heap → Prop} {H : Heap} (h : c_value_may_1 C p_v (fun r0 H2 => ∃ H0, Gh C H2 H0 ∧ K r0 H0) H) : c_value_may_1 C p_v K H :=
 Spec.gh (Spec.mono h fun _ H2 ⟨r0, hv, H0, hg, hk⟩ => ⟨H0, hg, r0, hv, hk⟩)
def c_slices_CompareFunc_api_Value_api_Value_api_Value_api_Value (C : Ctx) (p_s1 : Sl) (p_s2 : Sl) (p_cmp : Value) (K : Int → Heap → Prop) (H : Heap) : Prop :=
 Spec Tryz.prog C 104 [slv p_s1, slv p_s2, p_cmp] H (fun v H2 => ∃ (r0 : Int), v = .int .i64 r0 ∧ K r0 H2)
theorem c_slices_CompareFunc_api_Value_api_Value_api_Value_api_Value.mono {C : Ctx} {p_s1 : Sl} {p_s2 : Sl} {p_cmp : Value} {K K2 : Int → Heap → Prop} {H : Heap} (h : c_slices_CompareFunc_api_Value_api_Value_api_Value_api_Value C p_s1 p_s2 p_cmp K H) (hk : ∀ r0 H2, K r0 H2 → K2 r0 H2) : c_slices_CompareFunc_api_Value_api_Value_api_Value_api_Value C p_s1 p_s2 p_cmp K2 H :=
 Spec.mono h fun _ H2 ⟨r0, hv, h2⟩ => ⟨r0, hv, hk r0 H2 h2⟩
theorem c_slices_CompareFunc_api_Value_api_Value_api_Value_api_Value.gh {C : Ctx} {p_s1 : Sl} {p_s2 : Sl} {p_cmp : Value} {K : Int → Heap → Prop} {H : Heap} (h : c_slices_CompareFunc_api_Value_api_Value_api_Value_api_Value C p_s1 p_s2 p_cmp (fun r0 H2 => ∃ H0, Gh C H2 H0 ∧ K r0 H0) H) : c_slices_CompareFunc_api_Value_api_Value_api_Value_api_Value C p_s1 p_s2 p_cmp K H :=
 Spec.gh (Spec.mono h fun _ H2 ⟨r0, hv, H0, hg, hk⟩ => ⟨H0, hg, r0, hv, hk⟩)
def c_value_rows_1 (C : Ctx) (p_x : T_api_Value) (p_y : T_api_Value) (K : Int → Heap → Prop) (H : Heap) : Prop :=
 Spec Tryz.prog C 105 [.agg (T_api_Value.c p_x).toArray, .agg (T_api_Value.c p_y).toArray] H (fun v H2 => ∃ (r0 : Int), v = .int .i64 r0 ∧ K r0 H2)
theorem c_value_rows_1.mono {C : Ctx} {p_x : T_api_Value} {p_y : T_api_Value} {K K2 : Int → Heap → Prop} {H : Heap} (h : c_value_rows_1 C p_x p_y K H) (hk : ∀ r0 H2, K r0 H2 → K2 r0 H2) : c_value_rows_1 C p_x p_y K2 H :=
 Spec.mono h fun _ H2 ⟨r0, hv, h2⟩ => ⟨r0, hv, hk r0 H2 h2⟩
theorem c_value_rows_1.gh {C : Ctx} {p_x : T_api_Value} {p_y : T_api_Value} {K : Int → Heap → Prop} {H : Heap} (h : c_value_rows_1 C p_x p_y (fun r0 H2 => ∃ H0, Gh C H2 H0 ∧ K r0 H0) H) : c_value_rows_1 C p_x p_y K H :=
 Spec.gh (Spec.mono h fun _ H2 ⟨r0, hv, H0, hg, hk⟩ => ⟨H0, hg, r0, hv, hk⟩)
def c_value_item_cmp (C : Ctx) (p_v : T_api_Value) (p_w : T_api_Value) (K : Int → Heap → Prop) (H : Heap) : Prop :=
 Spec Tryz.prog C 106 [.agg (T_api_Value.c p_v).toArray, .agg (T_api_Value.c p_w).toArray] H (fun v H2 => ∃ (r0 : Int), v = .int .i64 r0 ∧ K r0 H2)
theorem c_value_item_cmp.mono {C : Ctx} {p_v : T_api_Value} {p_w : T_api_Value} {K K2 : Int → Heap → Prop} {H : Heap} (h : c_value_item_cmp C p_v p_w K H) (hk : ∀ r0 H2, K r0 H2 → K2 r0 H2) : c_value_item_cmp C p_v p_w K2 H :=
 Spec.mono h fun _ H2 ⟨r0, hv, h2⟩ => ⟨r0, hv, hk r0 H2 h2⟩
theorem c_value_item_cmp.gh {C : Ctx} {p_v : T_api_Value} {p_w : T_api_Value} {K : Int → Heap → Prop} {H : Heap} (h : c_value_item_cmp C p_v p_w (fun r0 H2 => ∃ H0, Gh C H2 H0 ∧ K r0 H0) H) : c_value_item_cmp C p_v p_w K H :=
 Spec.gh (Spec.mono h fun _ H2 ⟨r0, hv, H0, hg, hk⟩ => ⟨H0, hg, r0, hv, hk⟩)
def c_strings_Builder_copyCheck (C : Ctx) (p_b : Option (Nat × Nat)) (K : Heap → Prop) (H : Heap) : Prop :=
 Spec Tryz.prog C 107 [pv p_b] H (fun v H2 => v = .tuple #[] ∧ K H2)
theorem c_strings_Builder_copyCheck.mono {C : Ctx} {p_b : Option (Nat × Nat)} {K K2 : Heap → Prop} {H : Heap} (h : c_strings_Builder_copyCheck C p_b K H) (hk : ∀  H2, K  H2 → K2  H2) : c_strings_Builder_copyCheck C p_b K2 H :=
 Spec.mono h fun _ H2 ⟨hv, h2⟩ => ⟨hv, hk H2 h2⟩
theorem c_strings_Builder_copyCheck.gh {C : Ctx} {p_b : Option (Nat × Nat)} {K : Heap → Prop} {H : Heap} (h : c_strings_Builder_copyCheck C p_b (fun  H2 => ∃ H0, Gh C H2 H0 ∧ K  H0) H) : c_strings_Builder_copyCheck C p_b K H :=
 Spec.gh (Spec.mono h fun _ H2 ⟨hv, H0, hg, hk⟩ => ⟨H0, hg, hv, hk⟩)
def c_internal_strconv_FormatBool (C : Ctx) (p_b : Bool) (K : Str → Heap → Prop) (H : Heap) : Prop :=
 Spec Tryz.prog C 108 [.bool p_b] H (fun v H2 => ∃ (r0 : Str), v = sv r0 ∧ K r0 H2)
theorem c_internal_strconv_FormatBool.mono {C : Ctx} {p_b : Bool} {K K2 : Str → Heap → Prop} {H : Heap} (h : c_internal_strconv_FormatBool C p_b K H) (hk : ∀ r0 H2, K r0 H2 → K2 r0 H2) : c_internal_strconv_FormatBool C p_b K2 H :=
 Spec.mono h fun _ H2 ⟨r0, hv, h2⟩ => ⟨r0, hv, hk r0 H2 h2⟩
theorem c_internal_strconv_FormatBool.gh {C : Ctx} {p_b : Bool} {K : Str → Heap → Prop} {H : Heap} (h : c_internal_strconv_FormatBool C p_b (fun r0 H2 => ∃ H0, Gh C H2 H0 ∧ K r0 H0) H) : c_internal_strconv_FormatBool C p_b K H :=
 Spec.gh (Spec.mono h fun _ H2 ⟨r0, hv, H0, hg, hk⟩ => ⟨H0, hg, r0, hv, hk⟩)
def c_internal_stringslite_TrimPrefix (C : Ctx) (p_s : Str) (p_prefix : Str) (K : Str → Heap → Prop) (H : Heap) : Prop :=
 Spec Tryz.prog C 113 [sv p_s, sv p_prefix] H (fun v H2 => ∃ (r0 : Str), v = sv r0 ∧ K r0 H2)
theorem c_internal_stringslite_TrimPrefix.mono {C : Ctx} {p_s : Str} {p_prefix : Str} {K K2 : Str → Heap → Prop} {H : Heap} (h : c_internal_stringslite_TrimPrefix C p_s p_prefix K H) (hk : ∀ r0 H2, K r0 H2 → K2 r0 H2) : c_internal_stringslite_TrimPrefix C p_s p_prefix K2 H :=
 Spec.mono h fun _ H2 ⟨r0, hv, h2⟩ => ⟨r0, hv, hk r0 H2 h2⟩
theorem c_internal_stringslite_TrimPrefix.gh {C : Ctx} {p_s : Str} {p_prefix : Str} {K : Str → Heap → Prop} {H : Heap} (h : c_internal_stringslite_TrimPrefix C p_s p_prefix (fun r0 H2 => ∃ H0, Gh C H2 H0 ∧ K r0 H0) H) : c_internal_stringslite_TrimPrefix C p_s p_prefix K H :=
 Spec.gh (Spec.mono h fun _ H2 ⟨r0, hv, H0, hg, hk⟩ => ⟨H0, hg, r0, hv, hk⟩)
def c_strings_trimLeftByte (C : Ctx) (p_s : Str) (p_c : Int) (K : Str → Heap → Prop) (H : Heap) : Prop :=
 Spec Tryz.prog C 114 [sv p_s, .int .u8 p_c] H (fun v H2 => ∃ (r0 : Str), v = sv r0 ∧ K r0 H2)
theorem c_strings_trimLeftByte.mono {C : Ctx} {p_s : Str} {p_c : Int} {K K2 : Str → Heap → Prop} {H : Heap} (h : c_strings_trimLeftByte C p_s p_c K H) (hk : ∀ r0 H2, K r0 H2 → K2 r0 H2) : c_strings_trimLeftByte C p_s p_c K2 H :=
 Spec.mono h fun _ H2 ⟨r0, hv, h2⟩ => ⟨r0, hv, hk r0 H2 h2⟩
theorem c_strings_trimLeftByte.gh {C : Ctx} {p_s : Str} {p_c : Int} {K : Str → Heap → Prop} {H : Heap} (h : c_strings_trimLeftByte C p_s p_c (fun r0 H2 => ∃ H0, Gh C H2 H0 ∧ K r0 H0) H) : c_strings_trimLeftByte C p_s p_c K H :=
 Spec.gh (Spec.mono h fun _ H2 ⟨r0, hv, H0, hg, hk⟩ => ⟨H0, hg, r0, hv, hk⟩)
def c_strings_trimRightByte (C : Ctx) (p_s : Str) (p_c : Int) (K : Str → Heap → Prop) (H : Heap) : Prop :=
 Spec Tryz.prog C 115 [sv p_s, .int .u8 p_c] H (fun v H2 => ∃ (r0 : Str), v = sv r0 ∧ K r0 H2)
theorem c_strings_trimRightByte.mono {C : Ctx} {p_s : Str} {p_c : Int} {K K2 : Str → Heap → Prop} {H : Heap} (h : c_strings_trimRightByte C p_s p_c K H) (hk : ∀ r0 H2, K r0 H2 → K2 r0 H2) : c_strings_trimRightByte C p_s p_c K2 H :=
 Spec.mono h fun _ H2 ⟨r0, hv, h2⟩ => ⟨r0, hv, hk r0 H2 h2⟩
theorem c_strings_trimRightByte.gh {C : Ctx} {p_s : Str} {p_c : Int} {K : Str → Heap → Prop} {H : Heap} (h : c_strings_trimRightByte C p_s p_c (fun r0 H2 => ∃ H0, Gh C H2 H0 ∧ K r0 H0) H) : c_strings_trimRightByte C p_s p_c K H :=
 Spec.gh (Spec.mono h fun _ H2 ⟨r0, hv, H0, hg, hk⟩ => ⟨H0, hg, r0, hv, hk⟩)
def c_strings_makeASCIISet (C : Ctx) (p_chars : Str) (K : List Value → Bool → Heap → Prop) (H : Heap) : Prop :=
 Spec Tryz.prog C 116 [sv p_chars] H (fun v H2 => ∃ (r0 : List Value) (r1 : Bool), v = .tuple #[.agg (List.toArray r0), .bool r1] ∧ K r0 r1 H2)
theorem c_strings_makeASCIISet.mono {C : Ctx} {p_chars : Str} {K K2 : List Value → Bool → Heap → Prop} {H : Heap} (h : c_strings_makeASCIISet C p_chars K H) (hk : ∀ r0 r1 H2, K r0 r1 H2 → K2 r0 r1 H2) : c_strings_makeASCIISet C p_chars K2 H :=
 Spec.mono h fun _ H2 ⟨r0, r1, hv, h2⟩ => ⟨r0, r1, hv, hk r0 r1 H2 h2⟩
theorem c_strings_makeASCIISet.gh {C : Ctx} {p_chars : Str} {K : List Value → Bool → Heap → Prop} {H : Heap} (h : c_strings_makeASCIISet C p_chars (fun r0 r1 H2 => ∃ H0, Gh C H2 H0 ∧ K r0 r1 H0) H) : c_strings_makeASCIISet C p_chars K H :=
 Spec.gh (Spec.mono h fun _ H2 ⟨r0, r1, hv, H0, hg, hk⟩ => ⟨H0, hg, r0, r1, hv, hk⟩)
def c_strings_trimLeftASCII (C : Ctx) (p_s : Str) (p_as : Option (Nat × Nat)) (K : Str → Heap → Prop) (H : Heap) : Prop :=
 Spec Tryz.prog C 117 [sv p_s, pv p_as] H (fun v H2 => ∃ (r0 : Str), v = sv r0 ∧ K r0 H2)
theorem c_strings_trimLeftASCII.mono {C : Ctx} {p_s : Str} {p_as : Option (Nat × Nat)} {K K2 : Str → Heap → Prop} {H : Heap} (h : c_strings_trimLeftASCII C p_s p_as K H) (hk : ∀ r0 H2, K r0 H2 → K2 r0 H2) : c_strings_trimLeftASCII C p_s p_as K2 H :=
 Spec.mono h fun _ H2 ⟨r0, hv, h2⟩ => ⟨r0, hv, hk r0 H2 h2⟩
theorem c_strings_trimLeftASCII.gh {C : Ctx} {p_s : Str} {p_as : Option (Nat × Nat)} {K : Str → Heap → Prop} {H : Heap} (h : c_strings_trimLeftASCII C p_s p_as (fun r0 H2 => ∃ H0, Gh C H2 H0 ∧ K r0 H0) H) : c_strings_trimLeftASCII C p_s p_as K H :=
 Spec.gh (Spec.mono h fun _ H2 ⟨r0, hv, H0, hg, hk⟩ => ⟨H0, hg, r0, hv, hk⟩)
def c_strings_trimRightASCII (C : Ctx) (p_s : Str) (p_as : Option (Nat × Nat)) (K : Str → Heap → Prop) (H : Heap) : Prop :=
 Spec Tryz.prog C 118 [sv p_s, pv p_as] H (fun v H2 => ∃ (r0 : Str), v = sv r0 ∧ K r0 H2)
theorem c_strings_trimRightASCII.mono {C : Ctx} {p_s : Str} {p_as : Option (Nat × Nat)} {K K2 : Str → Heap → Prop} {H : Heap} (h : c_strings_trimRightASCII C p_s p_as K H) (hk : ∀ r0 H2, K r0 H2 → K2 r0 H2) : c_strings_trimRightASCII C p_s p_as K2 H :=
 Spec.mono h fun _ H2 ⟨r0, hv, h2⟩ => ⟨r0, hv, hk r0 H2 h2⟩
theorem c_strings_trimRightASCII.gh {C : Ctx} {p_s : Str} {p_as : Option (Nat × Nat)} {K : Str → Heap → Prop} {H : Heap} (h : c_strings_trimRightASCII C p_s p_as (fun r0 H2 => ∃ H0, Gh C H2 H0 ∧ K r0 H0) H) : c_strings_trimRightASCII C p_s p_as K H :=
 Spec.gh (Spec.mono h fun _ H2 ⟨r0, hv, H0, hg, hk⟩ => ⟨H0, hg, r0, hv, hk⟩)
def c_strings_trimLeftUnicode (C : Ctx) (p_s : Str) (p_cutset : Str) (K : Str → Heap → Prop) (H : Heap) : Prop :=
 Spec Tryz.prog C 119 [sv p_s, sv p_cutset] H (fun v H2 => ∃ (r0 : Str), v = sv r0 ∧ K r0 H2)
theorem c_strings_trimLeftUnicode.mono {C : Ctx} {p_s : Str} {p_cutset : Str} {K K2 : Str → Heap → Prop} {H : Heap} (h : c_strings_trimLeftUnicode C p_s p_cutset K H) (hk : ∀ r0 H2, K r0 H2 → K2 r0 H2) : c_strings_trimLeftUnicode C p_s p_cutset K2 H :=
 Spec.mono h fun _ H2 ⟨r0, hv, h2⟩ => ⟨r0, hv, hk r0 H2 h2⟩
theorem c_strings_trimLeftUnicode.gh {C : Ctx} {p_s : Str} {p_cutset : Str} {K : Str → Heap → Prop} {H : Heap} (h : c_strings_trimLeftUnicode C p_s p_cutset (fun r0 H2 => ∃ H0, Gh C H2 H0 ∧ K r0 H0) H) : c_strings_trimLeftUnicode C p_s p_cutset K H :=
 Spec.gh (Spec.mono h fun _ H2 ⟨r0, hv, H0, hg, hk⟩ => ⟨H0, hg, r0, hv, hk⟩)
def c_strings_trimRightUnicode (C : Ctx) (p_s : Str) (p_cutset : Str) (K : Str → Heap → Prop) (H : Heap) : Prop :=
 Spec Tryz.prog C 120 [sv p_s, sv p_cutset] H (fun v H2 => ∃ (r0 : Str), v = sv r0 ∧ K r0 H2)
theorem c_strings_trimRightUnicode.mono {C : Ctx} {p_s : Str} {p_cutset : Str} {K K2 : Str → Heap → Prop} {H : Heap} (h : c_strings_trimRightUnicode C p_s p_cutset K H) (hk : ∀ r0 H2, K r0 H2 → K2 r0 H2) : c_strings_trimRightUnicode C p_s p_cutset K2 H :=
 Spec.mono h fun _ H2 ⟨r0, hv, h2⟩ => ⟨r0, hv, hk r0 H2 h2⟩
theorem c_strings_trimRightUnicode.gh {C : Ctx} {p_s : Str} {p_cutset : Str} {K : Str → Heap → Prop} {H : Heap} (h : c_strings_trimRightUnicode C p_s p_cutset (fun r0 H2 => ∃ H0, Gh C H2 H0 ∧ K r0 H0) H) : c_strings_trimRightUnicode C p_s p_cutset K H :=
 Spec.gh (Spec.mono h fun _ H2 ⟨r0, hv, H0, hg, hk⟩ => ⟨H0, hg, r0, hv, hk⟩)
def c_internal_stringslite_Index (C : Ctx) (p_s : Str) (p_substr : Str) (K : Int → Heap → Prop) (H : Heap) : Prop :=
 Spec Tryz.prog C 121 [sv p_s, sv p_substr] H (fun v H2 => ∃ (r0 : Int), v = .int .i64 r0 ∧ K r0 H2)
theorem c_internal_stringslite_Index.mono {C : Ctx} {p_s : Str} {p_substr : Str} {K K2 : Int → Heap → Prop} {H : Heap} (h : c_internal_stringslite_Index C p_s p_substr K H) (hk : ∀ r0 H2, K r0 H2 → K2 r0 H2) : c_internal_stringslite_Index C p_s p_substr K2 H :=
 Spec.mono h fun _ H2 ⟨r0, hv, h2⟩ => ⟨r0, hv, hk r0 H2 h2⟩
theorem c_internal_stringslite_Index.gh {C : Ctx} {p_s : Str} {p_substr : Str} {K : Int → Heap → Prop} {H : Heap} (h : c_internal_stringslite_Index C p_s p_substr (fun r0 H2 => ∃ H0, Gh C H2 H0 ∧ K r0 H0) H) : c_internal_stringslite_Index C p_s p_substr K H :=
 Spec.gh (Spec.mono h fun _ H2 ⟨r0, hv, H0, hg, hk⟩ => ⟨H0, hg, r0, hv, hk⟩)
def c_slices_rotateCmpFunc_zset_Entry (C : Ctx) (p_data : Sl) (p_a : Int) (p_m : Int) (p_b : Int) (p_cmp : Value) (K : Heap → Prop) (H : Heap) : Prop :=
 Spec Tryz.prog C 122 [slv p_data, .int .i64 p_a, .int .i64 p_m, .int .i64 p_b, p_cmp] H (fun v H2 => v = .tuple #[] ∧ K H2)
theorem c_slices_rotateCmpFunc_zset_Entry.mono {C : Ctx} {p_data : Sl} {p_a : Int} {p_m : Int} {p_b : Int} {p_cmp : Value} {K K2 : Heap → Prop} {H : Heap} (h : c_slices_rotateCmpFunc_zset_Entry C p_data p_a p_m p_b p_cmp K H) (hk : ∀  H2, K  H2 → K2  H2) : c_slices_rotateCmpFunc_zset_Entry C p_data p_a p_m p_b p_cmp K2 H :=
 Spec.mono h fun _ H2 ⟨hv, h2⟩ => ⟨hv, hk H2 h2⟩
theorem c_slices_rotateCmpFunc_zset_Entry.gh {C : Ctx} {p_data : Sl} {p_a : Int} {p_m : Int} {p_b : Int} {p_cmp : Value} {K : Heap → Prop} {H : Heap} (h : c_slices_rotateCmpFunc_zset_Entry C p_data p_a p_m p_b p_cmp (fun  H2 => ∃ H0, Gh C H2 H0 ∧ K  H0) H) : c_slices_rotateCmpFunc_zset_Entry C p_data p_a p_m p_b p_cmp K H :=
 Spec.gh (Spec.mono h fun _ H2 ⟨hv, H0, hg, hk⟩ => ⟨H0, hg, hv, hk⟩)
def c_cmp_Compare_uint8 (C : Ctx) (p_x : Int) (p_y : Int) (K : Int → Heap → Prop) (H : Heap) : Prop :=
 Spec Tryz.prog C 123 [.int .u8 p_x, .int .u8 p_y] H (fun v H2 => ∃ (r0 : Int), v = .int .i64 r0 ∧ K r0 H2)
theorem c_cmp_Compare_uint8.mono {C : Ctx} {p_x : Int} {p_y : Int} {K K2 : Int → Heap → Prop} {H : Heap} (h : c_cmp_Compare_uint8 C p_x p_y K H) (hk : ∀ r0 H2, K r0 H2 → K2 r0 H2) : c_cmp_Compare_uint8 C p_x p_y K2 H :=
 Spec.mono h fun _ H2 ⟨r0, hv, h2⟩ => ⟨r0, hv, hk r0 H2 h2⟩
theorem c_cmp_Compare_uint8.gh {C : Ctx} {p_x : Int} {p_y : Int} {K : Int → Heap → Prop} {H : Heap} (h : c_cmp_Compare_uint8 C p_x p_y (fun r0 H2 => ∃ H0, Gh C H2 H0 ∧ K r0 H0) H) : c_cmp_Compare_uint8 C p_x p_y K H :=
 Spec.gh (Spec.mono h fun _ H2 ⟨r0, hv, H0, hg, hk⟩ => ⟨H0, hg, r0, hv, hk⟩)
def c_value_bigs (C : Ctx) (p_a : Str) (p_b : Str) (K : Int → Heap → Prop) (H : Heap) : Prop :=
 Spec Tryz.prog C 124 [sv p_a, sv p_b] H (fun v H2 => ∃ (r0 : Int), v = .int .i64 r0 ∧ K r0 H2)
theorem c_value_bigs.mono {C : Ctx} {p_a : Str} {p_b : Str} {K K2 : Int → Heap → Prop} {H : Heap} (h : c_value_bigs C p_a p_b K H) (hk : ∀ r0 H2, K r0 H2 → K2 r0 H2) : c_value_bigs C p_a p_b K2 H :=
 Spec.mono h fun _ H2 ⟨r0, hv, h2⟩ => ⟨r0, hv, hk r0 H2 h2⟩
theorem c_value_bigs.gh {C : Ctx} {p_a : Str} {p_b : Str} {K : Int → Heap → Prop} {H : Heap} (h : c_value_bigs C p_a p_b (fun r0 H2 => ∃ H0, Gh C H2 H0 ∧ K r0 H0) H) : c_value_bigs C p_a p_b K H :=
 Spec.gh (Spec.mono h fun _ H2 ⟨r0, hv, H0, hg, hk⟩ => ⟨H0, hg, r0, hv, hk⟩)
def c_cmp_Compare_string (C : Ctx) (p_x : Str) (p_y : Str) (K : Int → Heap → Prop) (H : Heap) : Prop :=
 Spec Tryz.prog C 125 [sv p_x, sv p_y] H (fun v H2 => ∃ (r0 : Int), v = .int .i64 r0 ∧ K r0 H2)
theorem c_cmp_Compare_string.mono {C : Ctx} {p_x : Str} {p_y : Str} {K K2 : Int → Heap → Prop} {H : Heap} (h : c_cmp_Compare_string C p_x p_y K H) (hk : ∀ r0 H2, K r0 H2 → K2 r0 H2) : c_cmp_Compare_string C p_x p_y K2 H :=
 Spec.mono h fun _ H2 ⟨r0, hv, h2⟩ => ⟨r0, hv, hk r0 H2 h2⟩
theorem c_cmp_Compare_string.gh {C : Ctx} {p_x : Str} {p_y : Str} {K : Int → Heap → Prop} {H : Heap} (h : c_cmp_Compare_string C p_x p_y (fun r0 H2 => ∃ H0, Gh C H2 H0 ∧ K r0 H0) H) : c_cmp_Compare_string C p_x p_y K H :=
 Spec.gh (Spec.mono h fun _ H2 ⟨r0, hv, H0, hg, hk⟩ => ⟨H0, hg, r0, hv, hk⟩)
def c_cmp_Or_int (C : Ctx) (p_vals : Sl) (K : Int → Heap → Prop) (H : Heap) : Prop :=
 Spec Tryz.prog C 126 [slv p_vals] H (fun v H2 => ∃ (r0 : Int), v = .int .i64 r0 ∧ K r0 H2)
theorem c_cmp_Or_int.mono {C : Ctx} {p_vals : Sl} {K K2 : Int → Heap → Prop} {H : Heap} (h : c_cmp_Or_int C p_vals K H) (hk : ∀ r0 H2, K r0 H2 → K2 r0 H2) : c_cmp_Or_int C p_vals K2 H :=
 Spec.mono h fun _ H2 ⟨r0, hv, h2⟩ => ⟨r0, hv, hk r0 H2 h2⟩
theorem c_cmp_Or_int.gh {C : Ctx} {p_vals : Sl} {K : Int → Heap → Prop} {H : Heap} (h : c_cmp_Or_int C p_vals (fun r0 H2 => ∃ H0, Gh C H2 H0 ∧ K r0 H0) H) : c_cmp_Or_int C p_vals K H :=
 Spec.gh (Spec.mono h fun _ H2 ⟨r0, hv, H0, hg, hk⟩ => ⟨H0, hg, r0, hv, hk⟩)
def c_cmp_Compare_int64 (C : Ctx) (p_x : Int) (p_y : Int) (K : Int → Heap → Prop) (H : Heap) : Prop :=
 Spec Tryz.prog C 127 [.int .i64 p_x, .int .i64 p_y] H (fun v H2 => ∃ (r0 : Int), v = .int .i64 r0 ∧ K r0 H2)
theorem c_cmp_Compare_int64.mono {C : Ctx} {p_x : Int} {p_y : Int} {K K2 : Int → Heap → Prop} {H : Heap} (h : c_cmp_Compare_int64 C p_x p_y K H) (hk : ∀ r0 H2, K r0 H2 → K2 r0 H2) : c_cmp_Compare_int64 C p_x p_y K2 H :=
 Spec.mono h fun _ H2 ⟨r0, hv, h2⟩ => ⟨r0, hv, hk r0 H2 h2⟩
theorem c_cmp_Compare_int64.gh {C : Ctx} {p_x : Int} {p_y : Int} {K : Int → Heap → Prop} {H : Heap} (h : c_cmp_Compare_int64 C p_x p_y (fun r0 H2 => ∃ H0, Gh C H2 H0 ∧ K r0 H0) H) : c_cmp_Compare_int64 C p_x p_y K H :=
 Spec.gh (Spec.mono h fun _ H2 ⟨r0, hv, H0, hg, hk⟩ => ⟨H0, hg, r0, hv, hk⟩)
def c_internal_stringslite_HasPrefix (C : Ctx) (p_s : Str) (p_prefix : Str) (K : Bool → Heap → Prop) (H : Heap) : Prop :=
 Spec Tryz.prog C 138 [sv p_s, sv p_prefix] H (fun v H2 => ∃ (r0 : Bool), v = .bool r0 ∧ K r0 H2)
theorem c_internal_stringslite_HasPrefix.mono {C : Ctx} {p_s : Str} {p_prefix : Str} {K K2 : Bool → Heap → Prop} {H : Heap} (h : c_internal_stringslite_HasPrefix C p_s p_prefix K H) (hk : ∀ r0 H2, K r0 H2 → K2 r0 H2) : c_internal_stringslite_HasPrefix C p_s p_prefix K2 H :=
 Spec.mono h fun _ H2 ⟨r0, hv, h2⟩ => ⟨r0, hv, hk r0 H2 h2⟩
theorem c_internal_stringslite_HasPrefix.gh {C : Ctx} {p_s : Str} {p_prefix : Str} {K : Bool → Heap → Prop} {H : Heap} (h : c_internal_stringslite_HasPrefix C p_s p_prefix (fun r0 H2 => ∃ H0, Gh C H2 H0 ∧ K r0 H0) H) : c_internal_stringslite_HasPrefix C p_s p_prefix K H :=
 Spec.gh (Spec.mono h fun _ H2 ⟨r0, hv, H0, hg, hk⟩ => ⟨H0, hg, r0, hv, hk⟩)
def c_strings_asciiSet_contains (C : Ctx) (p_as : Option (Nat × Nat)) (p_c : Int) (K : Bool → Heap → Prop) (H : Heap) : Prop :=
 Spec Tryz.prog C 139 [pv p_as, .int .u8 p_c] H (fun v H2 => ∃ (r0 : Bool), v = .bool r0 ∧ K r0 H2)
theorem c_strings_asciiSet_contains.mono {C : Ctx} {p_as : Option (Nat × Nat)} {p_c : Int} {K K2 : Bool → Heap → Prop} {H : Heap} (h : c_strings_asciiSet_contains C p_as p_c K H) (hk : ∀ r0 H2, K r0 H2 → K2 r0 H2) : c_strings_asciiSet_contains C p_as p_c K2 H :=
 Spec.mono h fun _ H2 ⟨r0, hv, h2⟩ => ⟨r0, hv, hk r0 H2 h2⟩
theorem c_strings_asciiSet_contains.gh {C : Ctx} {p_as : Option (Nat × Nat)} {p_c : Int} {K : Bool → Heap → Prop} {H : Heap} (h : c_strings_asciiSet_contains C p_as p_c (fun r0 H2 => ∃ H0, Gh C H2 H0 ∧ K r0 H0) H) : c_strings_asciiSet_contains C p_as p_c K H :=
 Spec.gh (Spec.mono h fun _ H2 ⟨r0, hv, H0, hg, hk⟩ => ⟨H0, hg, r0, hv, hk⟩)
def c_internal_stringslite_IndexByte (C : Ctx) (p_s : Str) (p_c : Int) (K : Int → Heap → Prop) (H : Heap) : Prop :=
 Spec Tryz.prog C 143 [sv p_s, .int .u8 p_c] H (fun v H2 => ∃ (r0 : Int), v = .int .i64 r0 ∧ K r0 H2)
theorem c_internal_stringslite_IndexByte.mono {C : Ctx} {p_s : Str} {p_c : Int} {K K2 : Int → Heap → Prop} {H : Heap} (h : c_internal_stringslite_IndexByte C p_s p_c K H) (hk : ∀ r0 H2, K r0 H2 → K2 r0 H2) : c_internal_stringslite_IndexByte C p_s p_c K2 H :=
 Spec.mono h fun _ H2 ⟨r0, hv, h2⟩ => ⟨r0, hv, hk r0 H2 h2⟩
theorem c_internal_stringslite_IndexByte.gh {C : Ctx} {p_s : Str} {p_c : Int} {K : Int → Heap → Prop} {H : Heap} (h : c_internal_stringslite_IndexByte C p_s p_c (fun r0 H2 => ∃ H0, Gh C H2 H0 ∧ K r0 H0) H) : c_internal_stringslite_IndexByte C p_s p_c K H :=
 Spec.gh (Spec.mono h fun _ H2 ⟨r0, hv, H0, hg, hk⟩ => ⟨H0, hg, r0, hv, hk⟩)
def c_internal_bytealg_Cutover (C : Ctx) (p_n : Int) (K : Int → Heap → Prop) (H : Heap) : Prop :=
 Spec Tryz.prog C 145 [.int .i64 p_n] H (fun v H2 => ∃ (r0 : Int), v = .int .i64 r0 ∧ K r0 H2)
theorem c_internal_bytealg_Cutover.mono {C : Ctx} {p_n : Int} {K K2 : Int → Heap → Prop} {H : Heap} (h : c_internal_bytealg_Cutover C p_n K H) (hk : ∀ r0 H2, K r0 H2 → K2 r0 H2) : c_internal_bytealg_Cutover C p_n K2 H :=
 Spec.mono h fun _ H2 ⟨r0, hv, h2⟩ => ⟨r0, hv, hk r0 H2 h2⟩
theorem c_internal_bytealg_Cutover.gh {C : Ctx} {p_n : Int} {K : Int → Heap → Prop} {H : Heap} (h : c_internal_bytealg_Cutover C p_n (fun r0 H2 => ∃ H0, Gh C H2 H0 ∧ K r0 H0) H) : c_internal_bytealg_Cutover C p_n K H :=
 Spec.gh (Spec.mono h fun _ H2 ⟨r0, hv, H0, hg, hk⟩ => ⟨H0, hg, r0, hv, hk⟩)
def c_internal_bytealg_IndexRabinKarp_string (C : Ctx) (p_s : Str) (p_sep : Str) (K : Int → Heap → Prop) (H : Heap) : Prop :=
 Spec Tryz.prog C 146 [sv p_s, sv p_sep] H (fun v H2 => ∃ (r0 : Int), v = .int .i64 r0 ∧ K r0 H2)
theorem c_internal_bytealg_IndexRabinKarp_string.mono {C : Ctx} {p_s : Str} {p_sep : Str} {K K2 : Int → Heap → Prop} {H : Heap} (h : c_internal_bytealg_IndexRabinKarp_string C p_s p_sep K H) (hk : ∀ r0 H2, K r0 H2 → K2 r0 H2) : c_internal_bytealg_IndexRabinKarp_string C p_s p_sep K2 H :=
 Spec.mono h fun _ H2 ⟨r0, hv, h2⟩ => ⟨r0, hv, hk r0 H2 h2⟩
theorem c_internal_bytealg_IndexRabinKarp_string.gh {C : Ctx} {p_s : Str} {p_sep : Str} {K : Int → Heap → Prop} {H : Heap} (h : c_internal_bytealg_IndexRabinKarp_string C p_s p_sep (fun r0 H2 => ∃ H0, Gh C H2 H0 ∧ K r0 H0) H) : c_internal_bytealg_IndexRabinKarp_string C p_s p_sep K H :=
 Spec.gh (Spec.mono h fun _ H2 ⟨r0, hv, H0, hg, hk⟩ => ⟨H0, hg, r0, hv, hk⟩)
def c_slices_swapRangeCmpFunc_zset_Entry (C : Ctx) (p_data : Sl) (p_a : Int) (p_b : Int) (p_n : Int) (p_cmp : Value) (K : Heap → Prop) (H : Heap) : Prop :=
 Spec Tryz.prog C 147 [slv p_data, .int .i64 p_a, .int .i64 p_b, .int .i64 p_n, p_cmp] H (fun v H2 => v = .tuple #[] ∧ K H2)
theorem c_slices_swapRangeCmpFunc_zset_Entry.mono {C : Ctx} {p_data : Sl} {p_a : Int} {p_b : Int} {p_n : Int} {p_cmp : Value} {K K2 : Heap → Prop} {H : Heap} (h : c_slices_swapRangeCmpFunc_zset_Entry C p_data p_a p_b p_n p_cmp K H) (hk : ∀  H2, K  H2 → K2  H2) : c_slices_swapRangeCmpFunc_zset_Entry C p_data p_a p_b p_n p_cmp K2 H :=
 Spec.mono h fun _ H2 ⟨hv, h2⟩ => ⟨hv, hk H2 h2⟩
theorem c_slices_swapRangeCmpFunc_zset_Entry.gh {C : Ctx} {p_data : Sl} {p_a : Int} {p_b : Int} {p_n : Int} {p_cmp : Value} {K : Heap → Prop} {H : Heap} (h : c_slices_swapRangeCmpFunc_zset_Entry C p_data p_a p_b p_n p_cmp (fun  H2 => ∃ H0, Gh C H2 H0 ∧ K  H0) H) : c_slices_swapRangeCmpFunc_zset_Entry C p_data p_a p_b p_n p_cmp K H :=
 Spec.gh (Spec.mono h fun _ H2 ⟨hv, H0, hg, hk⟩ => ⟨H0, hg, hv, hk⟩)
def c_cmp_isNaN_uint8 (C : Ctx) (p_x : Int) (K : Bool → Heap → Prop) (H : Heap) : Prop :=
 Spec Tryz.prog C 148 [.int .u8 p_x] H (fun v H2 => ∃ (r0 : Bool), v = .bool r0 ∧ K r0 H2)
theorem c_cmp_isNaN_uint8.mono {C : Ctx} {p_x : Int} {K K2 : Bool → Heap → Prop} {H : Heap} (h : c_cmp_isNaN_uint8 C p_x K H) (hk : ∀ r0 H2, K r0 H2 → K2 r0 H2) : c_cmp_isNaN_uint8 C p_x K2 H :=
 Spec.mono h fun _ H2 ⟨r0, hv, h2⟩ => ⟨r0, hv, hk r0 H2 h2⟩
theorem c_cmp_isNaN_uint8.gh {C : Ctx} {p_x : Int} {K : Bool → Heap → Prop} {H : Heap} (h : c_cmp_isNaN_uint8 C p_x (fun r0 H2 => ∃ H0, Gh C H2 H0 ∧ K r0 H0) H) : c_cmp_isNaN_uint8 C p_x K H :=
 Spec.gh (Spec.mono h fun _ H2 ⟨r0, hv, H0, hg, hk⟩ => ⟨H0, hg, r0, hv, hk⟩)
def c_strings_HasPrefix (C : Ctx) (p_s : Str) (p_prefix : Str) (K : Bool → Heap → Prop) (H : Heap) : Prop :=
 Spec Tryz.prog C 149 [sv p_s, sv p_prefix] H (fun v H2 => ∃ (r0 : Bool), v = .bool r0 ∧ K r0 H2)
theorem c_strings_HasPrefix.mono {C : Ctx} {p_s : Str} {p_prefix : Str} {K K2 : Bool → Heap → Prop} {H : Heap} (h : c_strings_HasPrefix C p_s p_prefix K H) (hk : ∀ r0 H2, K r0 H2 → K2 r0 H2) : c_strings_HasPrefix C p_s p_prefix K2 H :=
 Spec.mono h fun _ H2 ⟨r0, hv, h2⟩ => ⟨r0, hv, hk r0 H2 h2⟩
theorem c_strings_HasPrefix.gh {C : Ctx} {p_s : Str} {p_prefix : Str} {K : Bool → Heap → Prop} {H : Heap} (h : c_strings_HasPrefix C p_s p_prefix (fun r0 H2 => ∃ H0, Gh C H2 H0 ∧ K r0 H0) H) : c_strings_HasPrefix C p_s p_prefix K H :=
 Spec.gh (Spec.mono h fun _ H2 ⟨r0, hv, H0, hg, hk⟩ => ⟨H0, hg, r0, hv, hk⟩)
def c_cmp_Compare_int (C : Ctx) (p_x : Int) (p_y : Int) (K : Int → Heap → Prop) (H : Heap) : Prop :=
 Spec Tryz.prog C 150 [.int .i64 p_x, .int .i64 p_y] H (fun v H2 => ∃ (r0 : Int), v = .int .i64 r0 ∧ K r0 H2)
theorem c_cmp_Compare_int.mono {C : Ctx} {p_x : Int} {p_y : Int} {K K2 : Int → Heap → Prop} {H : Heap} (h : c_cmp_Compare_int C p_x p_y K H) (hk : ∀ r0 H2, K r0 H2 → K2 r0 H2) : c_cmp_Compare_int C p_x p_y K2 H :=
 Spec.mono h fun _ H2 ⟨r0, hv, h2⟩ => ⟨r0, hv, hk r0 H2 h2⟩
theorem c_cmp_Compare_int.gh {C : Ctx} {p_x : Int} {p_y : Int} {K : Int → Heap → Prop} {H : Heap} (h : c_cmp_Compare_int C p_x p_y (fun r0 H2 => ∃ H0, Gh C H2 H0 ∧ K r0 H0) H) : c_cmp_Compare_int C p_x p_y K H :=
 Spec.gh (Spec.mono h fun _ H2 ⟨r0, hv, H0, hg, hk⟩ => ⟨H0, hg, r0, hv, hk⟩)
def c_cmp_isNaN_string (C : Ctx) (p_x : Str) (K : Bool → Heap → Prop) (H : Heap) : Prop :=
 Spec Tryz.prog C 151 [sv p_x] H (fun v H2 => ∃ (r0 : Bool), v = .bool r0 ∧ K r0 H2)
theorem c_cmp_isNaN_string.mono {C : Ctx} {p_x : Str} {K K2 : Bool → Heap → Prop} {H : Heap} (h : c_cmp_isNaN_string C p_x K H) (hk : ∀ r0 H2, K r0 H2 → K2 r0 H2) : c_cmp_isNaN_string C p_x K2 H :=
 Spec.mono h fun _ H2 ⟨r0, hv, h2⟩ => ⟨r0, hv, hk r0 H2 h2⟩
theorem c_cmp_isNaN_string.gh {C : Ctx} {p_x : Str} {K : Bool → Heap → Prop} {H : Heap} (h : c_cmp_isNaN_string C p_x (fun r0 H2 => ∃ H0, Gh C H2 H0 ∧ K r0 H0) H) : c_cmp_isNaN_string C p_x K H :=
 Spec.gh (Spec.mono h fun _ H2 ⟨r0, hv, H0, hg, hk⟩ => ⟨H0, hg, r0, hv, hk⟩)
def c_cmp_isNaN_int64 (C : Ctx) (p_x : Int) (K : Bool → Heap → Prop) (H : Heap) : Prop :=
 Spec Tryz.prog C 152 [.int .i64 p_x] H (fun v H2 => ∃ (r0 : Bool), v = .bool r0 ∧ K r0 H2)
theorem c_cmp_isNaN_int64.mono {C : Ctx} {p_x : Int} {K K2 : Bool → Heap → Prop} {H : Heap} (h : c_cmp_isNaN_int64 C p_x K H) (hk : ∀ r0 H2, K r0 H2 → K2 r0 H2) : c_cmp_isNaN_int64 C p_x K2 H :=
 Spec.mono h fun _ H2 ⟨r0, hv, h2⟩ => ⟨r0, hv, hk r0 H2 h2⟩
theorem c_cmp_isNaN_int64.gh {C : Ctx} {p_x : Int} {K : Bool → Heap → Prop} {H : Heap} (h : c_cmp_isNaN_int64 C p_x (fun r0 H2 => ∃ H0, Gh C H2 H0 ∧ K r0 H0) H) : c_cmp_isNaN_int64 C p_x K H :=
 Spec.gh (Spec.mono h fun _ H2 ⟨r0, hv, H0, hg, hk⟩ => ⟨H0, hg, r0, hv, hk⟩)
def c_cmp_isNaN_int (C : Ctx) (p_x : Int) (K : Bool → Heap → Prop) (H : Heap) : Prop :=
 Spec Tryz.prog C 166 [.int .i64 p_x] H (fun v H2 => ∃ (r0 : Bool), v = .bool r0 ∧ K r0 H2)
theorem c_cmp_isNaN_int.mono {C : Ctx} {p_x : Int} {K K2 : Bool → Heap → Prop} {H : Heap} (h : c_cmp_isNaN_int C p_x K H) (hk : ∀ r0 H2, K r0 H2 → K2 r0 H2) : c_cmp_isNaN_int C p_x K2 H :=
 Spec.mono h fun _ H2 ⟨r0, hv, h2⟩ => ⟨r0, hv, hk r0 H2 h2⟩
theorem c_cmp_isNaN_int.gh {C : Ctx} {p_x : Int} {K : Bool → Heap → Prop} {H : Heap} (h : c_cmp_isNaN_int C p_x (fun r0 H2 => ∃ H0, Gh C H2 H0 ∧ K r0 H0) H) : c_cmp_isNaN_int C p_x K H :=
 Spec.gh (Spec.mono h fun _ H2 ⟨r0, hv, H0, hg, hk⟩ => ⟨H0, hg, r0, hv, hk⟩)
def sh_law24_DeltaTwice (C : Ctx) (p_c : T_law24_Case) (p_more : Sl) (K : Bool → Heap → Prop) (H : Heap) : Prop :=
 nw (T_law24_Case.c p_c) (fun b1 H2 =>
 ldT H2 T_law24_Case.c (b1, 0) fun x3 =>
 c_law24_Case_large C x3 (fun r5 H6 =>
 jn (α := Bool) (fun b7 H13 =>
 jn (α := Bool) (fun b14 H20 =>
 ift b14
 (c_law24_awake C (fun r22 H23 =>
 K r22 H23) H20)
 (ldL H20 ((b1, 0).1, (b1, 0).2 + 0) fun x24 =>
 c_law24_small C x24 (fun r26 H27 =>
 jn (α := Bool) (fun b28 H36 =>
 jn (α := Bool) (fun b37 H45 =>
 jn (α := Bool) (fun b46 H54 =>
 jn (α := Bool) (fun b55 H61 =>
 ift b55
 (K true H61)
 (dr H61 fun Hs63 =>
 ldL Hs63 ((b1, 0).1, (b1, 0).2 + 0) fun x65 =>
 ldL Hs63 ((b1, 0).1, (b1, 0).2 + 1) fun x67 =>
 ldL Hs63 ((b1, 0).1, (b1, 0).2 + 2) fun x69 =>
 ldL Hs63 ((b1, 0).1, (b1, 0).2 + 3) fun x71 =>
 ldL Hs63 ((b1, 0).1, (b1, 0).2 + 4) fun x73 =>
 c_law24_given C x65 (fun r76 H77 =>
 Heap.le Hs63 H77 ∧
 c_law24_given C x67 (fun r79 H80 =>
 Heap.le Hs63 H80 ∧
 c_law24_given C x69 (fun r82 H83 =>
 Heap.le Hs63 H83 ∧
 c_law24_given C x71 (fun r85 H86 =>
 Heap.le Hs63 H86 ∧
 c_law24_given C p_more (fun r88 H89 =>
 Heap.le Hs63 H89 ∧
 c_law24_pairs C x73 (fun r91 H92 =>
 Heap.le Hs63 H92 ∧
 c_delta_JoinChange C r76 Sl.nil r82 Sl.nil r91 (fun r93 r94 H95 =>
 c_delta_AntiChange C r76 r79 r82 r85 r91 (fun r96 r97 H98 =>
 c_law24_plus C r76 r79 (fun r99 H100 =>
 c_law24_plus C r82 r85 (fun r101 H102 =>
 c_delta_AntiChange C r99 r88 r101 Sl.nil r91 (fun r103 r104 H105 =>
 c_law24_plus C r79 r88 (fun r106 H107 =>
 c_delta_AntiChange C r76 r106 r82 r85 r91 (fun r108 r109 H110 =>
 jn (α := Bool) (fun b114 H122 =>
 ift b114
 (K false H122)
 (c_delta_JoinChange C r76 r79 r82 r85 r91 (fun r124 r125 H126 =>
 c_law24_plus C r76 r79 (fun r127 H128 =>
 c_law24_plus C r82 r85 (fun r129 H130 =>
 c_delta_JoinChange C r127 r88 r129 Sl.nil r91 (fun r131 r132 H133 =>
 c_law24_plus C r79 r88 (fun r134 H135 =>
 c_delta_JoinChange C r76 r134 r82 r85 r91 (fun r136 r137 H138 =>
 jn (α := Bool) (fun b140 H148 =>
 K b140 H148)
 (fun J141 => ift (((r125 : Int) == 0) && ((r132 : Int) == 0))
 (c_law24_plus C r124 r131 (fun r144 H145 =>
 c_law24_same C r144 0 r136 r137 (fun r146 H147 =>
 J141 r146 H147) H145) H138)
 (J141 false H138))) H135) H133) H130) H128) H126) H122))
 (fun J115 => ift (((((r94 : Int) != 0) || (((Sl.len r93 : Int) : Int) != 0)) || ((r97 : Int) != 0)) || ((r104 : Int) != 0))
 (J115 true H110)
 (c_law24_plus C r96 r103 (fun r118 H119 =>
 c_law24_same C r118 0 r108 r109 (fun r120 H121 =>
 J115 (!r120) H121) H119) H110))) H107) H105) H102) H100) H98) H95) H92) H89) H86) H83) H80) H77) H61))
 (fun J56 => ift b46
 (J56 true H54)
 (c_law24_small C p_more (fun r59 H60 =>
 J56 (!r59) H60) H54)))
 (fun J47 => ift b37
 (J47 true H45)
 (ldL H45 ((b1, 0).1, (b1, 0).2 + 3) fun x50 =>
 c_law24_small C x50 (fun r52 H53 =>
 J47 (!r52) H53) H45)))
 (fun J38 => ift b28
 (J38 true H36)
 (ldL H36 ((b1, 0).1, (b1, 0).2 + 2) fun x41 =>
 c_law24_small C x41 (fun r43 H44 =>
 J38 (!r43) H44) H36)))
 (fun J29 => ift (!r26)
 (J29 true H27)
 (ldL H27 ((b1, 0).1, (b1, 0).2 + 1) fun x32 =>
 c_law24_small C x32 (fun r34 H35 =>
 J29 (!r34) H35) H27))) H20))
 (fun J15 => ift b7
 (J15 true H13)
 (c_law24_awake C (fun r18 H19 =>
 J15 (!r18) H19) H13)))
 (fun J8 => ift r5
 (J8 true H6)
 (c_law24_large C p_more (fun r11 H12 =>
 J8 r11 H12) H6))) H2) H
theorem ad_law24_DeltaTwice (C : Ctx) (p_c : T_law24_Case) (p_more : Sl) (K : Bool → Heap → Prop) (H : Heap) (h : sh_law24_DeltaTwice C p_c p_more K H) : c_law24_DeltaTwice C p_c p_more K H := by
 refine Spec.enter Tryz.func6 rfl Tryz.ntmps6 rfl (GC.sub [(0, .agg (T_law24_Case.c p_c).toArray), (1, slv p_more)] ⟨rfl, rfl, trivial⟩ (Zo (GL.box (v := .agg (T_law24_Case.c p_c).toArray) (cs := T_law24_Case.c p_c) h trivial rfl rfl rfl ?_)))
 intro b1 H2 h
 refine Za (GL.nil (GC.seq (Zo ?_)))
 obtain ⟨x3, hr4, h⟩ := h
 refine Zv (OV.loadT rfl rfl rfl hr4) (Zc h ok_law24_Case_large ?_)
 rintro _ H6 ⟨r5, rfl, h⟩
 refine Zm ?_
 obtain ⟨J8, h, hR9⟩ := h
 refine GL.cut (α := Bool) 3 J8 (fun b7 => [(24, .bool b7), (1, slv p_more), (2, pv (some (b1, 0)))]) ?_ ?_
 rcases Bool.eq_false_or_eq_true r5 with hc10 | hc10
 replace h := h.1 hc10
 refine Zk hc10 (Zk hc10 (Zt hc10 ?_))
 exact GL.jump (fun _ _ h => h) true h ⟨rfl, rfl, rfl, trivial⟩
 replace h := h.2 hc10
 refine Zu hc10 (OV.move rfl) (GL.call h ⟨_, _, rfl, rfl, hc10⟩ rfl ok_law24_large (vs := [slv p_more]) rfl ?_)
 rintro _ H12 ⟨r11, rfl, h⟩
 refine Zn hc10 ?_
 exact GL.jump (fun _ _ h => h) r11 h ⟨rfl, rfl, rfl, trivial⟩
 intro b7 H13 h
 replace h := hR9 b7 H13 h
 refine Zm ?_
 obtain ⟨J15, h, hR16⟩ := h
 refine GL.cut (α := Bool) 3 J15 (fun b14 => [(28, .bool b14), (1, slv p_more), (2, pv (some (b1, 0)))]) ?_ ?_
 rcases Bool.eq_false_or_eq_true b7 with hc17 | hc17
 replace h := h.1 hc17
 refine Zk hc17 (Zk hc17 (Zt hc17 ?_))
 exact GL.jump (fun _ _ h => h) true h ⟨rfl, rfl, rfl, trivial⟩
 replace h := h.2 hc17
 refine GL.call h ⟨_, _, rfl, rfl, hc17⟩ rfl ok_law24_awake (vs := []) rfl ?_
 rintro _ H19 ⟨r18, rfl, h⟩
 refine Zu hc17 (OV.not rfl) (Zn hc17 ?_)
 exact GL.jump (fun _ _ h => h) (!r18) h ⟨rfl, rfl, rfl, trivial⟩
 intro b14 H20 h
 replace h := hR16 b14 H20 h
 refine GL.nil ?_
 refine Zd (fun hc21 => ?_) fun hc21 => ?_
 replace h := h.1 hc21
 refine Zo (Zc h ok_law24_awake ?_)
 rintro _ H23 ⟨r22, rfl, h⟩
 refine Za (GL.nil ?_)
 exact GC.ret (fun _ _ hf hs => post_tmp1 rfl rfl hf hs ⟨r22, rfl, h⟩)
 replace h := h.2 hc21
 refine GC.skip (GC.seq (Zo (Zf ?_)))
 obtain ⟨x24, hr25, h⟩ := h
 refine Zl hr25 (Zc h ok_law24_small ?_)
 rintro _ H27 ⟨r26, rfl, h⟩
 refine Zv (OV.not rfl) (Zm ?_)
 obtain ⟨J29, h, hR30⟩ := h
 refine GL.cut (α := Bool) 5 J29 (fun b28 => [(39, .bool b28), (1, slv p_more), (2, pv (some (b1, 0)))]) ?_ ?_
 rcases Zb (!r26) with hc31 | hc31
 replace h := h.1 hc31
 refine Zk hc31 (Zk hc31 (Zk hc31 (Zk hc31 (Zt hc31 ?_))))
 exact GL.jump (fun _ _ h => h) true h ⟨rfl, rfl, rfl, trivial⟩
 replace h := h.2 hc31
 refine Zu hc31 (OV.fieldAddr rfl rfl) ?_
 obtain ⟨x32, hr33, h⟩ := h
 refine Zu hc31 (OV.load rfl rfl hr33) (GL.call h ⟨_, _, rfl, rfl, hc31⟩ rfl ok_law24_small (vs := [slv x32]) rfl ?_)
 rintro _ H35 ⟨r34, rfl, h⟩
 refine Zu hc31 (OV.not rfl) (Zn hc31 ?_)
 exact GL.jump (fun _ _ h => h) (!r34) h ⟨rfl, rfl, rfl, trivial⟩
 intro b28 H36 h
 replace h := hR30 b28 H36 h
 refine Zm ?_
 obtain ⟨J38, h, hR39⟩ := h
 refine GL.cut (α := Bool) 5 J38 (fun b37 => [(45, .bool b37), (1, slv p_more), (2, pv (some (b1, 0)))]) ?_ ?_
 rcases Bool.eq_false_or_eq_true b28 with hc40 | hc40
 replace h := h.1 hc40
 refine Zk hc40 (Zk hc40 (Zk hc40 (Zk hc40 (Zt hc40 ?_))))
 exact GL.jump (fun _ _ h => h) true h ⟨rfl, rfl, rfl, trivial⟩
 replace h := h.2 hc40
 refine Zu hc40 (OV.fieldAddr rfl rfl) ?_
 obtain ⟨x41, hr42, h⟩ := h
 refine Zu hc40 (OV.load rfl rfl hr42) (GL.call h ⟨_, _, rfl, rfl, hc40⟩ rfl ok_law24_small (vs := [slv x41]) rfl ?_)
 rintro _ H44 ⟨r43, rfl, h⟩
 refine Zu hc40 (OV.not rfl) (Zn hc40 ?_)
 exact GL.jump (fun _ _ h => h) (!r43) h ⟨rfl, rfl, rfl, trivial⟩
 intro b37 H45 h
 replace h := hR39 b37 H45 h
 refine Zm ?_
 obtain ⟨J47, h, hR48⟩ := h
 refine GL.cut (α := Bool) 5 J47 (fun b46 => [(51, .bool b46), (1, slv p_more), (2, pv (some (b1, 0)))]) ?_ ?_
 rcases Bool.eq_false_or_eq_true b37 with hc49 | hc49
 replace h := h.1 hc49
 refine Zk hc49 (Zk hc49 (Zk hc49 (Zk hc49 (Zt hc49 ?_))))
 exact GL.jump (fun _ _ h => h) true h ⟨rfl, rfl, rfl, trivial⟩
 replace h := h.2 hc49
 refine Zu hc49 (OV.fieldAddr rfl rfl) ?_
 obtain ⟨x50, hr51, h⟩ := h
 refine Zu hc49 (OV.load rfl rfl hr51) (GL.call h ⟨_, _, rfl, rfl, hc49⟩ rfl ok_law24_small (vs := [slv x50]) rfl ?_)
 rintro _ H53 ⟨r52, rfl, h⟩
 refine Zu hc49 (OV.not rfl) (Zn hc49 ?_)
 exact GL.jump (fun _ _ h => h) (!r52) h ⟨rfl, rfl, rfl, trivial⟩
 intro b46 H54 h
 replace h := hR48 b46 H54 h
 refine Zm ?_
 obtain ⟨J56, h, hR57⟩ := h
 refine GL.cut (α := Bool) 4 J56 (fun b55 => [(56, .bool b55), (1, slv p_more), (2, pv (some (b1, 0)))]) ?_ ?_
 rcases Bool.eq_false_or_eq_true b46 with hc58 | hc58
 replace h := h.1 hc58
 refine Zk hc58 (Zk hc58 (Zk hc58 (Zt hc58 ?_)))
 exact GL.jump (fun _ _ h => h) true h ⟨rfl, rfl, rfl, trivial⟩
 replace h := h.2 hc58
 refine Zu hc58 (OV.move rfl) (GL.call h ⟨_, _, rfl, rfl, hc58⟩ rfl ok_law24_small (vs := [slv p_more]) rfl ?_)
 rintro _ H60 ⟨r59, rfl, h⟩
 refine Zu hc58 (OV.not rfl) (Zn hc58 ?_)
 exact GL.jump (fun _ _ h => h) (!r59) h ⟨rfl, rfl, rfl, trivial⟩
 intro b55 H61 h
 replace h := hR57 b55 H61 h
 refine GL.nil ?_
 refine Zd (fun hc62 => ?_) fun hc62 => ?_
 replace h := h.1 hc62
 refine Zo (Za (GL.nil ?_))
 exact GC.ret (fun _ _ hf hs => post_tmp1 rfl rfl hf hs ⟨true, rfl, h⟩)
 replace h := h.2 hc62
 refine GC.skip (GC.seq ?_)
 obtain ⟨Hs63, hle64, h⟩ := h
 refine GC.any (Hs := Hs63) (by kernel_rfl) hle64 (Zp 0 rfl (OV.fieldAddr rfl rfl) ?_)
 obtain ⟨x65, hr66, h⟩ := h
 refine Zp 1 rfl (OV.load rfl rfl hr66) (Zp 3 rfl (OV.fieldAddr rfl rfl) ?_)
 obtain ⟨x67, hr68, h⟩ := h
 refine Zp 4 rfl (OV.load rfl rfl hr68) (Zp 6 rfl (OV.fieldAddr rfl rfl) ?_)
 obtain ⟨x69, hr70, h⟩ := h
 refine Zp 7 rfl (OV.load rfl rfl hr70) (Zp 9 rfl (OV.fieldAddr rfl rfl) ?_)
 obtain ⟨x71, hr72, h⟩ := h
 refine Zp 10 rfl (OV.load rfl rfl hr72) (Zp 12 rfl (OV.move rfl) (Zp 14 rfl (OV.fieldAddr rfl rfl) ?_))
 obtain ⟨x73, hr74, h⟩ := h
 refine Zp 15 rfl (OV.load rfl rfl hr74) (GA.eff 2 rfl (by kernel_rfl) (Zc h ok_law24_given ?_))
 rintro _ H77 ⟨r76, rfl, h⟩
 obtain ⟨hle75, h⟩ := h
 refine GA.back hle75 (GA.eff 5 rfl (by kernel_rfl) (Zc h ok_law24_given ?_))
 rintro _ H80 ⟨r79, rfl, h⟩
 obtain ⟨hle78, h⟩ := h
 refine GA.back hle78 (GA.eff 8 rfl (by kernel_rfl) (Zc h ok_law24_given ?_))
 rintro _ H83 ⟨r82, rfl, h⟩
 obtain ⟨hle81, h⟩ := h
 refine GA.back hle81 (GA.eff 11 rfl (by kernel_rfl) (Zc h ok_law24_given ?_))
 rintro _ H86 ⟨r85, rfl, h⟩
 obtain ⟨hle84, h⟩ := h
 refine GA.back hle84 (GA.eff 13 rfl (by kernel_rfl) (Zc h ok_law24_given ?_))
 rintro _ H89 ⟨r88, rfl, h⟩
 obtain ⟨hle87, h⟩ := h
 refine GA.back hle87 (GA.eff 16 rfl (by kernel_rfl) (Zc h ok_law24_pairs ?_))
 rintro _ H92 ⟨r91, rfl, h⟩
 obtain ⟨hle90, h⟩ := h
 refine GA.back hle90 (Zp 17 rfl (OV.assign rfl) (Zp 18 rfl (OV.assign rfl) (Zp 19 rfl (OV.assign rfl) (Zp 20 rfl (OV.assign rfl) (Zp 21 rfl (OV.assign rfl) (Zp 22 rfl (OV.assign rfl) (GA.done (by kernel_rfl) (GL.nil (Zo (Zm (Zm ?_)))))))))))
 refine Zm (Zc h ok_delta_JoinChange ?_)
 rintro _ H95 ⟨r93, r94, rfl, h⟩
 refine Zm (Zv (OV.extract (v := slv r93) rfl rfl) (Zv (OV.extract (v := .int .i64 r94) rfl rfl) (Za (Za (GL.nil (Zo (Zm (Zm (Zm (Zm (Zm ?_)))))))))))
 refine Zc h ok_delta_AntiChange ?_
 rintro _ H98 ⟨r96, r97, rfl, h⟩
 refine Zm (Zv (OV.extract (v := slv r96) rfl rfl) (Zv (OV.extract (v := .int .i64 r97) rfl rfl) (Za (Za (GL.nil (Zo (Zm (Zm (Zc h ok_law24_plus ?_)))))))))
 rintro _ H100 ⟨r99, rfl, h⟩
 refine Zm (Zm (Zm (Zc h ok_law24_plus ?_)))
 rintro _ H102 ⟨r101, rfl, h⟩
 refine Zm (Zc h ok_delta_AntiChange ?_)
 rintro _ H105 ⟨r103, r104, rfl, h⟩
 refine Zm (Zv (OV.extract (v := slv r103) rfl rfl) (Zv (OV.extract (v := .int .i64 r104) rfl rfl) (Za (Za (GL.nil (Zo (Zm (Zm (Zm (Zc h ok_law24_plus ?_))))))))))
 rintro _ H107 ⟨r106, rfl, h⟩
 refine Zm (Zm (Zm (Zc h ok_delta_AntiChange ?_)))
 rintro _ H110 ⟨r108, r109, rfl, h⟩
 refine Zm (Zv (OV.extract (v := slv r108) rfl rfl) (Zv (OV.extract (v := .int .i64 r109) rfl rfl) (Za (Za (GL.nil (GC.seq (Zo (Zm (Zi (.bool ((r94 : Int) != 0)) (Zm ?_))))))))))
 refine GL.cut0 4 [(119, .bool (((r94 : Int) != 0) || (((Sl.len r93 : Int) : Int) != 0))), (5, slv r76), (6, slv r79), (7, slv r82), (8, slv r85), (9, slv r88), (10, slv r91), (13, slv r96), (14, .int .i64 r97), (15, slv r103), (16, .int .i64 r104), (17, slv r108), (18, .int .i64 r109)] ?_ ?_
 rcases Zb ((r94 : Int) != 0) with hc111 | hc111
 refine Zk hc111 (Zk hc111 (Zk hc111 (Zt hc111 ?_)))
 exact GL.jump0 (fun _ _ h => h) () rfl ⟨(by rw [hc111]; rfl), rfl, rfl, rfl, rfl, rfl, rfl, rfl, rfl, rfl, rfl, rfl, rfl, trivial⟩
 refine Zu hc111 (OV.move rfl) (Zu hc111 (OV.lenSl rfl rfl) (Zu hc111 (OV.ibin (v := .bool (((Sl.len r93 : Int) : Int) != 0)) rfl rfl rfl) (Zn hc111 ?_)))
 exact GL.jump0 (fun _ _ h => h) () rfl ⟨(by rw [hc111]; rfl), rfl, rfl, rfl, rfl, rfl, rfl, rfl, rfl, rfl, rfl, rfl, rfl, trivial⟩
 refine Zm ?_
 refine GL.cut0 3 [(123, .bool ((((r94 : Int) != 0) || (((Sl.len r93 : Int) : Int) != 0)) || ((r97 : Int) != 0))), (5, slv r76), (6, slv r79), (7, slv r82), (8, slv r85), (9, slv r88), (10, slv r91), (13, slv r96), (15, slv r103), (16, .int .i64 r104), (17, slv r108), (18, .int .i64 r109)] ?_ ?_
 rcases Zb (((r94 : Int) != 0) || (((Sl.len r93 : Int) : Int) != 0)) with hc112 | hc112
 refine Zk hc112 (Zk hc112 (Zt hc112 ?_))
 exact GL.jump0 (fun _ _ h => h) () rfl ⟨(by rw [hc112]; rfl), rfl, rfl, rfl, rfl, rfl, rfl, rfl, rfl, rfl, rfl, rfl, trivial⟩
 refine Zu hc112 (OV.move rfl) (Zu hc112 (OV.ibin (v := .bool ((r97 : Int) != 0)) rfl rfl rfl) (Zn hc112 ?_))
 exact GL.jump0 (fun _ _ h => h) () rfl ⟨(by rw [hc112]; rfl), rfl, rfl, rfl, rfl, rfl, rfl, rfl, rfl, rfl, rfl, rfl, trivial⟩
 refine Zm ?_
 refine GL.cut0 3 [(127, .bool (((((r94 : Int) != 0) || (((Sl.len r93 : Int) : Int) != 0)) || ((r97 : Int) != 0)) || ((r104 : Int) != 0))), (5, slv r76), (6, slv r79), (7, slv r82), (8, slv r85), (9, slv r88), (10, slv r91), (13, slv r96), (15, slv r103), (17, slv r108), (18, .int .i64 r109)] ?_ ?_
 rcases Zb ((((r94 : Int) != 0) || (((Sl.len r93 : Int) : Int) != 0)) || ((r97 : Int) != 0)) with hc113 | hc113
 refine Zk hc113 (Zk hc113 (Zt hc113 ?_))
 exact GL.jump0 (fun _ _ h => h) () rfl ⟨(by rw [hc113]; rfl), rfl, rfl, rfl, rfl, rfl, rfl, rfl, rfl, rfl, rfl, trivial⟩
 refine Zu hc113 (OV.move rfl) (Zu hc113 (OV.ibin (v := .bool ((r104 : Int) != 0)) rfl rfl rfl) (Zn hc113 ?_))
 exact GL.jump0 (fun _ _ h => h) () rfl ⟨(by rw [hc113]; rfl), rfl, rfl, rfl, rfl, rfl, rfl, rfl, rfl, rfl, rfl, trivial⟩
 refine Zm ?_
 obtain ⟨J115, h, hR116⟩ := h
 refine GL.cut (α := Bool) 8 J115 (fun b114 => [(136, .bool b114), (5, slv r76), (6, slv r79), (7, slv r82), (8, slv r85), (9, slv r88), (10, slv r91)]) ?_ ?_
 rcases Zb (((((r94 : Int) != 0) || (((Sl.len r93 : Int) : Int) != 0)) || ((r97 : Int) != 0)) || ((r104 : Int) != 0)) with hc117 | hc117
 replace h := h.1 hc117
 refine Zk hc117 (Zk hc117 (Zk hc117 (Zk hc117 (Zk hc117 (Zk hc117 (Zk hc117 (Zt hc117 ?_)))))))
 exact GL.jump (fun _ _ h => h) true h ⟨rfl, rfl, rfl, rfl, rfl, rfl, rfl, trivial⟩
 replace h := h.2 hc117
 refine Zu hc117 (OV.move rfl) (Zu hc117 (OV.move rfl) (GL.call h ⟨_, _, rfl, rfl, hc117⟩ rfl ok_law24_plus (vs := [slv r96, slv r103]) rfl ?_))
 rintro _ H119 ⟨r118, rfl, h⟩
 refine Zu hc117 (OV.move rfl) (Zu hc117 (OV.move rfl) (GL.call h ⟨_, _, rfl, rfl, hc117⟩ rfl ok_law24_same (vs := [slv r118, .int .i64 0, slv r108, .int .i64 r109]) rfl ?_))
 rintro _ H121 ⟨r120, rfl, h⟩
 refine Zu hc117 (OV.not rfl) (Zn hc117 ?_)
 exact GL.jump (fun _ _ h => h) (!r120) h ⟨rfl, rfl, rfl, rfl, rfl, rfl, rfl, trivial⟩
 intro b114 H122 h
 replace h := hR116 b114 H122 h
 refine GL.nil ?_
 refine Zd (fun hc123 => ?_) fun hc123 => ?_
 replace h := h.1 hc123
 refine Zo (Za (GL.nil ?_))
 exact GC.ret (fun _ _ hf hs => post_tmp1 rfl rfl hf hs ⟨false, rfl, h⟩)
 replace h := h.2 hc123
 refine GC.skip (Zo (Zm (Zm (Zm (Zm (Zm (Zc h ok_delta_JoinChange ?_)))))))
 rintro _ H126 ⟨r124, r125, rfl, h⟩
 refine Zm (Zv (OV.extract (v := slv r124) rfl rfl) (Zv (OV.extract (v := .int .i64 r125) rfl rfl) (Za (Za (GL.nil (Zo (Zm (Zm (Zc h ok_law24_plus ?_)))))))))
 rintro _ H128 ⟨r127, rfl, h⟩
 refine Zm (Zm (Zm (Zc h ok_law24_plus ?_)))
 rintro _ H130 ⟨r129, rfl, h⟩
 refine Zm (Zc h ok_delta_JoinChange ?_)
 rintro _ H133 ⟨r131, r132, rfl, h⟩
 refine Zm (Zv (OV.extract (v := slv r131) rfl rfl) (Zv (OV.extract (v := .int .i64 r132) rfl rfl) (Za (Za (GL.nil (Zo (Zm (Zm (Zm (Zc h ok_law24_plus ?_))))))))))
 rintro _ H135 ⟨r134, rfl, h⟩
 refine Zm (Zm (Zm (Zc h ok_delta_JoinChange ?_)))
 rintro _ H138 ⟨r136, r137, rfl, h⟩
 refine Zm (Zv (OV.extract (v := slv r136) rfl rfl) (Zv (OV.extract (v := .int .i64 r137) rfl rfl) (Za (Za (GL.nil (Zo (Zm (Zi (.bool ((r125 : Int) == 0)) (Zm ?_)))))))))
 refine GL.cut0 3 [(174, .bool (((r125 : Int) == 0) && ((r132 : Int) == 0))), (13, slv r124), (15, slv r131), (17, slv r136), (18, .int .i64 r137)] ?_ ?_
 rcases Zb ((r125 : Int) == 0) with hc139 | hc139
 refine Zu hc139 (OV.move rfl) (Zu hc139 (OV.ibin (v := .bool ((r132 : Int) == 0)) rfl rfl rfl) (Zt hc139 ?_))
 exact GL.jump0 (fun _ _ h => h) () rfl ⟨(by rw [hc139]; rfl), rfl, rfl, rfl, rfl, trivial⟩
 refine Zk hc139 (Zk hc139 (Zn hc139 ?_))
 exact GL.jump0 (fun _ _ h => h) () rfl ⟨(by rw [hc139]; rfl), rfl, rfl, rfl, rfl, trivial⟩
 refine Zm ?_
 obtain ⟨J141, h, hR142⟩ := h
 refine GL.cut (α := Bool) 7 J141 (fun b140 => [(182, .bool b140)]) ?_ ?_
 rcases Zb (((r125 : Int) == 0) && ((r132 : Int) == 0)) with hc143 | hc143
 replace h := h.1 hc143
 refine Zu hc143 (OV.move rfl) (Zu hc143 (OV.move rfl) (GL.call h ⟨_, _, rfl, rfl, hc143⟩ rfl ok_law24_plus (vs := [slv r124, slv r131]) rfl ?_))
 rintro _ H145 ⟨r144, rfl, h⟩
 refine Zu hc143 (OV.move rfl) (Zu hc143 (OV.move rfl) (GL.call h ⟨_, _, rfl, rfl, hc143⟩ rfl ok_law24_same (vs := [slv r144, .int .i64 0, slv r136, .int .i64 r137]) rfl ?_))
 rintro _ H147 ⟨r146, rfl, h⟩
 refine Zt hc143 ?_
 exact GL.jump (fun _ _ h => h) r146 h ⟨rfl, trivial⟩
 replace h := h.2 hc143
 refine Zk hc143 (Zk hc143 (Zk hc143 (Zk hc143 (Zk hc143 (Zk hc143 (Zn hc143 ?_))))))
 exact GL.jump (fun _ _ h => h) false h ⟨rfl, trivial⟩
 intro b140 H148 h
 replace h := hR142 b140 H148 h
 refine Za (GL.nil ?_)
 exact GC.ret (fun _ _ hf hs => post_tmp1 rfl rfl hf hs ⟨b140, rfl, h⟩)
def sh_law24_Case_large (C : Ctx) (p_c : T_law24_Case) (K : Bool → Heap → Prop) (H : Heap) : Prop :=
 nw (T_law24_Case.c p_c) (fun b1 H2 =>
 ldL H2 ((b1, 0).1, (b1, 0).2 + 0) fun x3 =>
 c_law24_large C x3 (fun r5 H6 =>
 jn (α := Bool) (fun b7 H15 =>
 jn (α := Bool) (fun b16 H24 =>
 jn (α := Bool) (fun b25 H33 =>
 jn (α := Bool) (fun b34 H40 =>
 K b34 H40)
 (fun J35 => ift b25
 (J35 true H33)
 (ldL H33 ((b1, 0).1, (b1, 0).2 + 4) fun x38 =>
 J35 (decide (((Sl.len x38 : Int) : Int) > 20)) H33)))
 (fun J26 => ift b16
 (J26 true H24)
 (ldL H24 ((b1, 0).1, (b1, 0).2 + 3) fun x29 =>
 c_law24_large C x29 (fun r31 H32 =>
 J26 r31 H32) H24)))
 (fun J17 => ift b7
 (J17 true H15)
 (ldL H15 ((b1, 0).1, (b1, 0).2 + 2) fun x20 =>
 c_law24_large C x20 (fun r22 H23 =>
 J17 r22 H23) H15)))
 (fun J8 => ift r5
 (J8 true H6)
 (ldL H6 ((b1, 0).1, (b1, 0).2 + 1) fun x11 =>
 c_law24_large C x11 (fun r13 H14 =>
 J8 r13 H14) H6))) H2) H
theorem ad_law24_Case_large (C : Ctx) (p_c : T_law24_Case) (K : Bool → Heap → Prop) (H : Heap) (h : sh_law24_Case_large C p_c K H) : c_law24_Case_large C p_c K H := by
 refine Spec.enter Tryz.func8 rfl Tryz.ntmps8 rfl (GC.sub [(0, .agg (T_law24_Case.c p_c).toArray)] ⟨rfl, trivial⟩ (Zo (GL.box (v := .agg (T_law24_Case.c p_c).toArray) (cs := T_law24_Case.c p_c) h trivial rfl rfl rfl ?_)))
 intro b1 H2 h
 refine Za (GL.nil (Zo (Zf ?_)))
 obtain ⟨x3, hr4, h⟩ := h
 refine Zl hr4 (Zc h ok_law24_large ?_)
 rintro _ H6 ⟨r5, rfl, h⟩
 refine Zm ?_
 obtain ⟨J8, h, hR9⟩ := h
 refine GL.cut (α := Bool) 4 J8 (fun b7 => [(10, .bool b7), (1, pv (some (b1, 0)))]) ?_ ?_
 rcases Bool.eq_false_or_eq_true r5 with hc10 | hc10
 replace h := h.1 hc10
 refine Zk hc10 (Zk hc10 (Zk hc10 (Zt hc10 ?_)))
 exact GL.jump (fun _ _ h => h) true h ⟨rfl, rfl, trivial⟩
 replace h := h.2 hc10
 refine Zu hc10 (OV.fieldAddr rfl rfl) ?_
 obtain ⟨x11, hr12, h⟩ := h
 refine Zu hc10 (OV.load rfl rfl hr12) (GL.call h ⟨_, _, rfl, rfl, hc10⟩ rfl ok_law24_large (vs := [slv x11]) rfl ?_)
 rintro _ H14 ⟨r13, rfl, h⟩
 refine Zn hc10 ?_
 exact GL.jump (fun _ _ h => h) r13 h ⟨rfl, rfl, trivial⟩
 intro b7 H15 h
 replace h := hR9 b7 H15 h
 refine Zm ?_
 obtain ⟨J17, h, hR18⟩ := h
 refine GL.cut (α := Bool) 4 J17 (fun b16 => [(15, .bool b16), (1, pv (some (b1, 0)))]) ?_ ?_
 rcases Bool.eq_false_or_eq_true b7 with hc19 | hc19
 replace h := h.1 hc19
 refine Zk hc19 (Zk hc19 (Zk hc19 (Zt hc19 ?_)))
 exact GL.jump (fun _ _ h => h) true h ⟨rfl, rfl, trivial⟩
 replace h := h.2 hc19
 refine Zu hc19 (OV.fieldAddr rfl rfl) ?_
 obtain ⟨x20, hr21, h⟩ := h
 refine Zu hc19 (OV.load rfl rfl hr21) (GL.call h ⟨_, _, rfl, rfl, hc19⟩ rfl ok_law24_large (vs := [slv x20]) rfl ?_)
 rintro _ H23 ⟨r22, rfl, h⟩
 refine Zn hc19 ?_
 exact GL.jump (fun _ _ h => h) r22 h ⟨rfl, rfl, trivial⟩
 intro b16 H24 h
 replace h := hR18 b16 H24 h
 refine Zm ?_
 obtain ⟨J26, h, hR27⟩ := h
 refine GL.cut (α := Bool) 4 J26 (fun b25 => [(20, .bool b25), (1, pv (some (b1, 0)))]) ?_ ?_
 rcases Bool.eq_false_or_eq_true b16 with hc28 | hc28
 replace h := h.1 hc28
 refine Zk hc28 (Zk hc28 (Zk hc28 (Zt hc28 ?_)))
 exact GL.jump (fun _ _ h => h) true h ⟨rfl, rfl, trivial⟩
 replace h := h.2 hc28
 refine Zu hc28 (OV.fieldAddr rfl rfl) ?_
 obtain ⟨x29, hr30, h⟩ := h
 refine Zu hc28 (OV.load rfl rfl hr30) (GL.call h ⟨_, _, rfl, rfl, hc28⟩ rfl ok_law24_large (vs := [slv x29]) rfl ?_)
 rintro _ H32 ⟨r31, rfl, h⟩
 refine Zn hc28 ?_
 exact GL.jump (fun _ _ h => h) r31 h ⟨rfl, rfl, trivial⟩
 intro b25 H33 h
 replace h := hR27 b25 H33 h
 refine Zm ?_
 obtain ⟨J35, h, hR36⟩ := h
 refine GL.cut (α := Bool) 5 J35 (fun b34 => [(26, .bool b34)]) ?_ ?_
 rcases Bool.eq_false_or_eq_true b25 with hc37 | hc37
 replace h := h.1 hc37
 refine Zk hc37 (Zk hc37 (Zk hc37 (Zk hc37 (Zt hc37 ?_))))
 exact GL.jump (fun _ _ h => h) true h ⟨rfl, trivial⟩
 replace h := h.2 hc37
 refine Zu hc37 (OV.fieldAddr rfl rfl) ?_
 obtain ⟨x38, hr39, h⟩ := h
 refine Zu hc37 (OV.load rfl rfl hr39) (Zu hc37 (OV.lenSl rfl rfl) (Zu hc37 (OV.ibin (v := .bool (decide (((Sl.len x38 : Int) : Int) > 20))) rfl rfl rfl) (Zn hc37 ?_)))
 exact GL.jump (fun _ _ h => h) (decide (((Sl.len x38 : Int) : Int) > 20)) h ⟨rfl, trivial⟩
 intro b34 H40 h
 replace h := hR36 b34 H40 h
 refine Za (GL.nil ?_)
 exact GC.ret (fun _ _ hf hs => post_tmp1 rfl rfl hf hs ⟨b34, rfl, h⟩)
def sh_law24_awake (C : Ctx) (K : Bool → Heap → Prop) (H : Heap) : Prop :=
 c_law24_awake_1 C 1 (fun r1 H2 =>
 c_law24_awake_2 C [120] (fun r3 H4 =>
 nw ((T_api_Value.c r1) ++ (T_api_Value.c r3) ++ []) (fun b5 H6 =>
 c_law24_awake_1 C 2 (fun r7 H8 =>
 c_law24_awake_2 C [121] (fun r9 H10 =>
 nw ((T_api_Value.c r7) ++ (T_api_Value.c r9) ++ []) (fun b11 H12 =>
 nw ((T_zset_Entry.c (⟨(Sl.of (some (b5, 0)) 2 2), 2⟩ : T_zset_Entry)) ++ (T_zset_Entry.c (⟨(Sl.of (some (b11, 0)) 2 2), 1⟩ : T_zset_Entry)) ++ []) (fun b13 H14 =>
 c_law24_awake_1 C 1 (fun r15 H16 =>
 nw ((T_api_Value.c r15) ++ []) (fun b17 H18 =>
 nw ((T_zset_Entry.c (⟨(Sl.of (some (b17, 0)) 1 1), 3⟩ : T_zset_Entry)) ++ []) (fun b19 H20 =>
 c_law24_awake_1 C 2 (fun r21 H22 =>
 nw ((T_api_Value.c r21) ++ []) (fun b23 H24 =>
 nw ((T_zset_Entry.c (⟨(Sl.of (some (b23, 0)) 1 1), 1⟩ : T_zset_Entry)) ++ []) (fun b25 H26 =>
 nw ((T_delta_Pair.c (⟨0, 0⟩ : T_delta_Pair)) ++ []) (fun b27 H28 =>
 c_delta_Join C (Sl.of (some (b13, 0)) 2 2) (Sl.of (some (b19, 0)) 1 1) (Sl.of (some (b27, 0)) 1 1) (fun r29 r30 H31 =>
 c_delta_Anti C (Sl.of (some (b13, 0)) 2 2) (Sl.of (some (b19, 0)) 1 1) (Sl.of (some (b27, 0)) 1 1) (fun r32 r33 H34 =>
 c_delta_JoinChange C (Sl.of (some (b13, 0)) 2 2) Sl.nil (Sl.of (some (b19, 0)) 1 1) (Sl.of (some (b25, 0)) 1 1) (Sl.of (some (b27, 0)) 1 1) (fun r35 r36 H37 =>
 c_delta_AntiChange C (Sl.of (some (b13, 0)) 2 2) Sl.nil (Sl.of (some (b19, 0)) 1 1) (Sl.of (some (b25, 0)) 1 1) (Sl.of (some (b27, 0)) 1 1) (fun r38 r39 H40 =>
 dr H40 fun Hs41 =>
 ixa (Sl.of (some (b13, 0)) 2 2) 0 fun p43 =>
 ldL Hs41 ((p43.1, p43.2 + (0 : Int).toNat * 2).1, (p43.1, p43.2 + (0 : Int).toNat * 2).2 + 0) fun x48 =>
 c_law24_awake_1 C 3 (fun r51 H52 =>
 Heap.le Hs41 H52 ∧
 c_law24_awake_2 C [122] (fun r54 H55 =>
 Heap.le Hs41 H55 ∧
 nw ((T_api_Value.c r51) ++ (T_api_Value.c r54) ++ []) (fun b57 H58 =>
 Heap.le Hs41 H58 ∧
 nw ((T_zset_Entry.c (⟨x48, (-2)⟩ : T_zset_Entry)) ++ (T_zset_Entry.c (⟨(Sl.of (some (b57, 0)) 2 2), 5⟩ : T_zset_Entry)) ++ []) (fun b60 H61 =>
 Heap.le Hs41 H61 ∧
 c_delta_DistinctChange C (Sl.of (some (b13, 0)) 2 2) (Sl.of (some (b60, 0)) 2 2) (fun r63 r64 H65 =>
 Heap.le Hs41 H65 ∧
 jn (α := Bool) (fun b67 H78 =>
 jn (α := Bool) (fun b79 H90 =>
 jn (α := Bool) (fun b93 H111 =>
 jn (α := Bool) (fun b114 H125 =>
 jn (α := Bool) (fun b126 H144 =>
 jn (α := Bool) (fun b147 H158 =>
 jn (α := Bool) (fun b161 H172 =>
 jn (α := Bool) (fun b173 H184 =>
 K b173 H184)
 (fun J174 => ift b161
 (ixa r63 1 fun p177 =>
 ldI H172 .i64 ((p177.1, p177.2 + (1 : Int).toNat * 2).1, (p177.1, p177.2 + (1 : Int).toNat * 2).2 + 1) fun x182 =>
 J174 ((x182 : Int) == 1) H172)
 (J174 false H172)))
 (fun J162 => ift ((b147 && ((r64 : Int) == 0)) && (((Sl.len r63 : Int) : Int) == 2))
 (ixa r63 0 fun p165 =>
 ldI H158 .i64 ((p165.1, p165.2 + (0 : Int).toNat * 2).1, (p165.1, p165.2 + (0 : Int).toNat * 2).2 + 1) fun x170 =>
 J162 ((x170 : Int) == (-1)) H158)
 (J162 false H158)))
 (fun J148 => ift ((b126 && ((r39 : Int) == 0)) && (((Sl.len r38 : Int) : Int) == 1))
 (ixa r38 0 fun p151 =>
 ldI H144 .i64 ((p151.1, p151.2 + (0 : Int).toNat * 2).1, (p151.1, p151.2 + (0 : Int).toNat * 2).2 + 1) fun x156 =>
 J148 ((x156 : Int) == (-1)) H144)
 (J148 false H144)))
 (fun J127 => ift b114
 (ixa r35 0 fun p130 =>
 ldL H125 ((p130.1, p130.2 + (0 : Int).toNat * 2).1, (p130.1, p130.2 + (0 : Int).toNat * 2).2 + 0) fun x135 =>
 ixa x135 2 fun p137 =>
 ldI H125 .i64 ((p137.1, p137.2 + (2 : Int).toNat * 4).1, (p137.1, p137.2 + (2 : Int).toNat * 4).2 + 1) fun x142 =>
 J127 ((x142 : Int) == 2) H125)
 (J127 false H125)))
 (fun J115 => ift ((b93 && ((r36 : Int) == 0)) && (((Sl.len r35 : Int) : Int) == 1))
 (ixa r35 0 fun p118 =>
 ldI H111 .i64 ((p118.1, p118.2 + (0 : Int).toNat * 2).1, (p118.1, p118.2 + (0 : Int).toNat * 2).2 + 1) fun x123 =>
 J115 ((x123 : Int) == 1) H111)
 (J115 false H111)))
 (fun J94 => ift ((b79 && ((r33 : Int) == 0)) && (((Sl.len r32 : Int) : Int) == 1))
 (ixa r32 0 fun p97 =>
 ldL H90 ((p97.1, p97.2 + (0 : Int).toNat * 2).1, (p97.1, p97.2 + (0 : Int).toNat * 2).2 + 0) fun x102 =>
 ixa x102 0 fun p104 =>
 ldI H90 .i64 ((p104.1, p104.2 + (0 : Int).toNat * 4).1, (p104.1, p104.2 + (0 : Int).toNat * 4).2 + 1) fun x109 =>
 J94 ((x109 : Int) == 2) H90)
 (J94 false H90)))
 (fun J80 => ift b67
 (ixa r29 0 fun p83 =>
 ldL H78 ((p83.1, p83.2 + (0 : Int).toNat * 2).1, (p83.1, p83.2 + (0 : Int).toNat * 2).2 + 0) fun x88 =>
 J80 (((Sl.len x88 : Int) : Int) == 3) H78)
 (J80 false H78)))
 (fun J68 => ift (((r30 : Int) == 0) && (((Sl.len r29 : Int) : Int) == 1))
 (ixa r29 0 fun p71 =>
 ldI H65 .i64 ((p71.1, p71.2 + (0 : Int).toNat * 2).1, (p71.1, p71.2 + (0 : Int).toNat * 2).2 + 1) fun x76 =>
 J68 ((x76 : Int) == 6) H65)
 (J68 false H65))) H61) H58) H55) H52) H40) H37) H34) H31) H28) H26) H24) H22) H20) H18) H16) H14) H12) H10) H8) H6) H4) H2) H
theorem ad_law24_awake (C : Ctx) (K : Bool → Heap → Prop) (H : Heap) (h : sh_law24_awake C  K H) : c_law24_awake C  K H := by
 refine Spec.enter Tryz.func9 rfl Tryz.ntmps9 rfl (GC.sub [] trivial (Zo (Za (GL.nil (Zo (Za (GL.nil (Zo (Za (GL.nil (Zo ?_)))))))))))
 refine Zm (GL.callV (fs := []) (vs := [.int .i64 1]) (cs := []) h trivial rfl ok_law24_awake_1 rfl rfl ?_)
 rintro _ H2 ⟨r1, rfl, h⟩
 refine Zm (GL.callV (fs := []) (vs := [sv [120]]) (cs := []) h trivial rfl ok_law24_awake_2 rfl rfl ?_)
 rintro _ H4 ⟨r3, rfl, h⟩
 refine GL.buildSlice (cs := (T_api_Value.c r1) ++ (T_api_Value.c r3) ++ []) h trivial rfl (vs := [(0, .agg (T_api_Value.c r1).toArray), (1, .agg (T_api_Value.c r3).toArray)]) rfl ⟨44, fun _ => by kernel_rfl⟩ ?_
 intro b5 H6 h
 refine Zv (OV.build (vs := [(0, slv (Sl.of (some (b5, 0)) 2 2)), (1, .int .i64 2)]) (v := .agg (T_zset_Entry.c (⟨(Sl.of (some (b5, 0)) 2 2), 2⟩ : T_zset_Entry)).toArray) rfl (fun _ => by kernel_rfl)) (Zm (GL.callV (fs := []) (vs := [.int .i64 2]) (cs := []) h trivial rfl ok_law24_awake_1 rfl rfl ?_))
 rintro _ H8 ⟨r7, rfl, h⟩
 refine Zm (GL.callV (fs := []) (vs := [sv [121]]) (cs := []) h trivial rfl ok_law24_awake_2 rfl rfl ?_)
 rintro _ H10 ⟨r9, rfl, h⟩
 refine GL.buildSlice (cs := (T_api_Value.c r7) ++ (T_api_Value.c r9) ++ []) h trivial rfl (vs := [(0, .agg (T_api_Value.c r7).toArray), (1, .agg (T_api_Value.c r9).toArray)]) rfl ⟨44, fun _ => by kernel_rfl⟩ ?_
 intro b11 H12 h
 refine Zv (OV.build (vs := [(0, slv (Sl.of (some (b11, 0)) 2 2)), (1, .int .i64 1)]) (v := .agg (T_zset_Entry.c (⟨(Sl.of (some (b11, 0)) 2 2), 1⟩ : T_zset_Entry)).toArray) rfl (fun _ => by kernel_rfl)) (GL.buildSlice (cs := (T_zset_Entry.c (⟨(Sl.of (some (b5, 0)) 2 2), 2⟩ : T_zset_Entry)) ++ (T_zset_Entry.c (⟨(Sl.of (some (b11, 0)) 2 2), 1⟩ : T_zset_Entry)) ++ []) h trivial rfl (vs := [(0, .agg (T_zset_Entry.c (⟨(Sl.of (some (b5, 0)) 2 2), 2⟩ : T_zset_Entry)).toArray), (1, .agg (T_zset_Entry.c (⟨(Sl.of (some (b11, 0)) 2 2), 1⟩ : T_zset_Entry)).toArray)]) rfl ⟨47, fun _ => by kernel_rfl⟩ ?_)
 intro b13 H14 h
 refine Za (GL.nil (Zo (Zm (GL.callV (fs := []) (vs := [.int .i64 1]) (cs := []) h trivial rfl ok_law24_awake_1 rfl rfl ?_))))
 rintro _ H16 ⟨r15, rfl, h⟩
 refine GL.buildSlice (cs := (T_api_Value.c r15) ++ []) h trivial rfl (vs := [(0, .agg (T_api_Value.c r15).toArray)]) rfl ⟨44, fun _ => by kernel_rfl⟩ ?_
 intro b17 H18 h
 refine Zv (OV.build (vs := [(0, slv (Sl.of (some (b17, 0)) 1 1)), (1, .int .i64 3)]) (v := .agg (T_zset_Entry.c (⟨(Sl.of (some (b17, 0)) 1 1), 3⟩ : T_zset_Entry)).toArray) rfl (fun _ => by kernel_rfl)) (GL.buildSlice (cs := (T_zset_Entry.c (⟨(Sl.of (some (b17, 0)) 1 1), 3⟩ : T_zset_Entry)) ++ []) h trivial rfl (vs := [(0, .agg (T_zset_Entry.c (⟨(Sl.of (some (b17, 0)) 1 1), 3⟩ : T_zset_Entry)).toArray)]) rfl ⟨47, fun _ => by kernel_rfl⟩ ?_)
 intro b19 H20 h
 refine Za (GL.nil (Zo (Zm (GL.callV (fs := []) (vs := [.int .i64 2]) (cs := []) h trivial rfl ok_law24_awake_1 rfl rfl ?_))))
 rintro _ H22 ⟨r21, rfl, h⟩
 refine GL.buildSlice (cs := (T_api_Value.c r21) ++ []) h trivial rfl (vs := [(0, .agg (T_api_Value.c r21).toArray)]) rfl ⟨44, fun _ => by kernel_rfl⟩ ?_
 intro b23 H24 h
 refine Zv (OV.build (vs := [(0, slv (Sl.of (some (b23, 0)) 1 1)), (1, .int .i64 1)]) (v := .agg (T_zset_Entry.c (⟨(Sl.of (some (b23, 0)) 1 1), 1⟩ : T_zset_Entry)).toArray) rfl (fun _ => by kernel_rfl)) (GL.buildSlice (cs := (T_zset_Entry.c (⟨(Sl.of (some (b23, 0)) 1 1), 1⟩ : T_zset_Entry)) ++ []) h trivial rfl (vs := [(0, .agg (T_zset_Entry.c (⟨(Sl.of (some (b23, 0)) 1 1), 1⟩ : T_zset_Entry)).toArray)]) rfl ⟨47, fun _ => by kernel_rfl⟩ ?_)
 intro b25 H26 h
 refine Za (GL.nil (Zo (Zv (OV.build (vs := [(0, .int .i64 0), (1, .int .i64 0)]) (v := .agg (T_delta_Pair.c (⟨0, 0⟩ : T_delta_Pair)).toArray) rfl (fun _ => by kernel_rfl)) (GL.buildSlice (cs := (T_delta_Pair.c (⟨0, 0⟩ : T_delta_Pair)) ++ []) h trivial rfl (vs := [(0, .agg (T_delta_Pair.c (⟨0, 0⟩ : T_delta_Pair)).toArray)]) rfl ⟨50, fun _ => by kernel_rfl⟩ ?_))))
 intro b27 H28 h
 refine Za (GL.nil (Zo (Zm (Zm (Zm (Zc h ok_delta_Join ?_))))))
 rintro _ H31 ⟨r29, r30, rfl, h⟩
 refine Zm (Zv (OV.extract (v := slv r29) rfl rfl) (Zv (OV.extract (v := .int .i64 r30) rfl rfl) (Za (Za (GL.nil (Zo (Zm (Zm (Zm (Zc h ok_delta_Anti ?_))))))))))
 rintro _ H34 ⟨r32, r33, rfl, h⟩
 refine Zm (Zv (OV.extract (v := slv r32) rfl rfl) (Zv (OV.extract (v := .int .i64 r33) rfl rfl) (Za (Za (GL.nil (Zo (Zm (Zm (Zm (Zm (Zc h ok_delta_JoinChange ?_)))))))))))
 rintro _ H37 ⟨r35, r36, rfl, h⟩
 refine Zm (Zv (OV.extract (v := slv r35) rfl rfl) (Zv (OV.extract (v := .int .i64 r36) rfl rfl) (Za (Za (GL.nil (Zo (Zm (Zm (Zm (Zm (Zc h ok_delta_AntiChange ?_)))))))))))
 rintro _ H40 ⟨r38, r39, rfl, h⟩
 refine Zm (Zv (OV.extract (v := slv r38) rfl rfl) (Zv (OV.extract (v := .int .i64 r39) rfl rfl) (Za (Za (GL.nil (GC.seq ?_))))))
 obtain ⟨Hs41, hle42, h⟩ := h
 refine GC.any (Hs := Hs41) (by kernel_rfl) hle42 (Zp 0 rfl (OV.move rfl) (Zp 1 rfl (OV.move rfl) ?_))
 obtain ⟨p43, ha44, hb45, hc46, hd47, h⟩ := h
 refine Zp 2 rfl (OV.indexAddr rfl rfl rfl rfl ha44 hb45 hc46 hd47) (Zp 3 rfl (OV.fieldAddr rfl rfl) ?_)
 obtain ⟨x48, hr49, h⟩ := h
 refine Zp 4 rfl (OV.load rfl rfl hr49) (Zp 5 rfl (OV.build (vs := [(0, slv x48), (1, .int .i64 (-2))]) (v := .agg (T_zset_Entry.c (⟨x48, (-2)⟩ : T_zset_Entry)).toArray) rfl (fun _ => by kernel_rfl)) (Zp 6 rfl (OV.move rfl) (Zp 8 rfl (OV.move rfl) (GA.eff 7 rfl (by kernel_rfl) (GL.callV (fs := []) (vs := [.int .i64 3]) (cs := []) h trivial rfl ok_law24_awake_1 rfl rfl ?_)))))
 rintro _ H52 ⟨r51, rfl, h⟩
 obtain ⟨hle50, h⟩ := h
 refine GA.back hle50 (GA.eff 9 rfl (by kernel_rfl) (GL.callV (fs := []) (vs := [sv [122]]) (cs := []) h trivial rfl ok_law24_awake_2 rfl rfl ?_))
 rintro _ H55 ⟨r54, rfl, h⟩
 obtain ⟨hle53, h⟩ := h
 refine GA.back hle53 (GA.eff 10 rfl (by kernel_rfl) (GL.buildSlice (cs := (T_api_Value.c r51) ++ (T_api_Value.c r54) ++ []) h trivial rfl (vs := [(0, .agg (T_api_Value.c r51).toArray), (1, .agg (T_api_Value.c r54).toArray)]) rfl ⟨44, fun _ => by kernel_rfl⟩ ?_))
 intro b57 H58 h
 obtain ⟨hle56, h⟩ := h
 refine GA.back hle56 (Zp 11 rfl (OV.build (vs := [(0, slv (Sl.of (some (b57, 0)) 2 2)), (1, .int .i64 5)]) (v := .agg (T_zset_Entry.c (⟨(Sl.of (some (b57, 0)) 2 2), 5⟩ : T_zset_Entry)).toArray) rfl (fun _ => by kernel_rfl)) (GA.eff 12 rfl (by kernel_rfl) (GL.buildSlice (cs := (T_zset_Entry.c (⟨x48, (-2)⟩ : T_zset_Entry)) ++ (T_zset_Entry.c (⟨(Sl.of (some (b57, 0)) 2 2), 5⟩ : T_zset_Entry)) ++ []) h trivial rfl (vs := [(0, .agg (T_zset_Entry.c (⟨x48, (-2)⟩ : T_zset_Entry)).toArray), (1, .agg (T_zset_Entry.c (⟨(Sl.of (some (b57, 0)) 2 2), 5⟩ : T_zset_Entry)).toArray)]) rfl ⟨47, fun _ => by kernel_rfl⟩ ?_)))
 intro b60 H61 h
 obtain ⟨hle59, h⟩ := h
 refine GA.back hle59 (GA.eff 13 rfl (by kernel_rfl) (Zc h ok_delta_DistinctChange ?_))
 rintro _ H65 ⟨r63, r64, rfl, h⟩
 obtain ⟨hle62, h⟩ := h
 refine GA.back hle62 (Zp 14 rfl (OV.move rfl) (Zp 15 rfl (OV.extract (v := slv r63) rfl rfl) (Zp 16 rfl (OV.extract (v := .int .i64 r64) rfl rfl) (Zp 17 rfl (OV.assign rfl) (Zp 18 rfl (OV.assign rfl) (GA.done (by kernel_rfl) (GL.nil (Zo (Zm (Zi (.bool ((r30 : Int) == 0)) (Zm ?_)))))))))))
 refine GL.cut0 4 [(95, .bool (((r30 : Int) == 0) && (((Sl.len r29 : Int) : Int) == 1))), (7, slv r29), (9, slv r32), (10, .int .i64 r33), (11, slv r35), (12, .int .i64 r36), (13, slv r38), (14, .int .i64 r39), (15, slv r63), (16, .int .i64 r64)] ?_ ?_
 rcases Zb ((r30 : Int) == 0) with hc66 | hc66
 refine Zu hc66 (OV.move rfl) (Zu hc66 (OV.lenSl rfl rfl) (Zu hc66 (OV.ibin (v := .bool (((Sl.len r29 : Int) : Int) == 1)) rfl rfl rfl) (Zt hc66 ?_)))
 exact GL.jump0 (fun _ _ h => h) () rfl ⟨(by rw [hc66]; rfl), rfl, rfl, rfl, rfl, rfl, rfl, rfl, rfl, rfl, trivial⟩
 refine Zk hc66 (Zk hc66 (Zk hc66 (Zn hc66 ?_)))
 exact GL.jump0 (fun _ _ h => h) () rfl ⟨(by rw [hc66]; rfl), rfl, rfl, rfl, rfl, rfl, rfl, rfl, rfl, rfl, trivial⟩
 refine Zm ?_
 obtain ⟨J68, h, hR69⟩ := h
 refine GL.cut (α := Bool) 6 J68 (fun b67 => [(102, .bool b67), (7, slv r29), (9, slv r32), (10, .int .i64 r33), (11, slv r35), (12, .int .i64 r36), (13, slv r38), (14, .int .i64 r39), (15, slv r63), (16, .int .i64 r64)]) ?_ ?_
 rcases Zb (((r30 : Int) == 0) && (((Sl.len r29 : Int) : Int) == 1)) with hc70 | hc70
 replace h := h.1 hc70
 refine Zu hc70 (OV.move rfl) ?_
 obtain ⟨p71, ha72, hb73, hc74, hd75, h⟩ := h
 refine Zu hc70 (OV.indexAddr rfl rfl rfl rfl ha72 hb73 hc74 hd75) (Zu hc70 (OV.fieldAddr rfl rfl) ?_)
 obtain ⟨x76, hr77, h⟩ := h
 refine Zu hc70 (OV.load rfl rfl hr77) (Zu hc70 (OV.ibin (v := .bool ((x76 : Int) == 6)) rfl rfl rfl) (Zt hc70 ?_))
 exact GL.jump (fun _ _ h => h) ((x76 : Int) == 6) h ⟨rfl, rfl, rfl, rfl, rfl, rfl, rfl, rfl, rfl, rfl, trivial⟩
 replace h := h.2 hc70
 refine Zk hc70 (Zk hc70 (Zk hc70 (Zk hc70 (Zk hc70 (Zn hc70 ?_)))))
 exact GL.jump (fun _ _ h => h) false h ⟨rfl, rfl, rfl, rfl, rfl, rfl, rfl, rfl, rfl, rfl, trivial⟩
 intro b67 H78 h
 replace h := hR69 b67 H78 h
 refine Zm ?_
 obtain ⟨J80, h, hR81⟩ := h
 refine GL.cut (α := Bool) 7 J80 (fun b79 => [(110, .bool b79), (9, slv r32), (10, .int .i64 r33), (11, slv r35), (12, .int .i64 r36), (13, slv r38), (14, .int .i64 r39), (15, slv r63), (16, .int .i64 r64)]) ?_ ?_
 rcases Bool.eq_false_or_eq_true b67 with hc82 | hc82
 replace h := h.1 hc82
 refine Zu hc82 (OV.move rfl) ?_
 obtain ⟨p83, ha84, hb85, hc86, hd87, h⟩ := h
 refine Zu hc82 (OV.indexAddr rfl rfl rfl rfl ha84 hb85 hc86 hd87) (Zu hc82 (OV.fieldAddr rfl rfl) ?_)
 obtain ⟨x88, hr89, h⟩ := h
 refine Zu hc82 (OV.load rfl rfl hr89) (Zu hc82 (OV.lenSl rfl rfl) (Zu hc82 (OV.ibin (v := .bool (((Sl.len x88 : Int) : Int) == 3)) rfl rfl rfl) (Zt hc82 ?_)))
 exact GL.jump (fun _ _ h => h) (((Sl.len x88 : Int) : Int) == 3) h ⟨rfl, rfl, rfl, rfl, rfl, rfl, rfl, rfl, rfl, trivial⟩
 replace h := h.2 hc82
 refine Zk hc82 (Zk hc82 (Zk hc82 (Zk hc82 (Zk hc82 (Zk hc82 (Zn hc82 ?_))))))
 exact GL.jump (fun _ _ h => h) false h ⟨rfl, rfl, rfl, rfl, rfl, rfl, rfl, rfl, rfl, trivial⟩
 intro b79 H90 h
 replace h := hR81 b79 H90 h
 refine Zm ?_
 refine GL.cut0 3 [(114, .bool (b79 && ((r33 : Int) == 0))), (9, slv r32), (11, slv r35), (12, .int .i64 r36), (13, slv r38), (14, .int .i64 r39), (15, slv r63), (16, .int .i64 r64)] ?_ ?_
 rcases Bool.eq_false_or_eq_true b79 with hc91 | hc91
 refine Zu hc91 (OV.move rfl) (Zu hc91 (OV.ibin (v := .bool ((r33 : Int) == 0)) rfl rfl rfl) (Zt hc91 ?_))
 exact GL.jump0 (fun _ _ h => h) () rfl ⟨(by rw [hc91]; rfl), rfl, rfl, rfl, rfl, rfl, rfl, rfl, trivial⟩
 refine Zk hc91 (Zk hc91 (Zn hc91 ?_))
 exact GL.jump0 (fun _ _ h => h) () rfl ⟨(by rw [hc91]; rfl), rfl, rfl, rfl, rfl, rfl, rfl, rfl, trivial⟩
 refine Zm ?_
 refine GL.cut0 4 [(119, .bool ((b79 && ((r33 : Int) == 0)) && (((Sl.len r32 : Int) : Int) == 1))), (9, slv r32), (11, slv r35), (12, .int .i64 r36), (13, slv r38), (14, .int .i64 r39), (15, slv r63), (16, .int .i64 r64)] ?_ ?_
 rcases Zb (b79 && ((r33 : Int) == 0)) with hc92 | hc92
 refine Zu hc92 (OV.move rfl) (Zu hc92 (OV.lenSl rfl rfl) (Zu hc92 (OV.ibin (v := .bool (((Sl.len r32 : Int) : Int) == 1)) rfl rfl rfl) (Zt hc92 ?_)))
 exact GL.jump0 (fun _ _ h => h) () rfl ⟨(by rw [hc92]; rfl), rfl, rfl, rfl, rfl, rfl, rfl, rfl, trivial⟩
 refine Zk hc92 (Zk hc92 (Zk hc92 (Zn hc92 ?_)))
 exact GL.jump0 (fun _ _ h => h) () rfl ⟨(by rw [hc92]; rfl), rfl, rfl, rfl, rfl, rfl, rfl, rfl, trivial⟩
 refine Zm ?_
 obtain ⟨J94, h, hR95⟩ := h
 refine GL.cut (α := Bool) 9 J94 (fun b93 => [(129, .bool b93), (11, slv r35), (12, .int .i64 r36), (13, slv r38), (14, .int .i64 r39), (15, slv r63), (16, .int .i64 r64)]) ?_ ?_
 rcases Zb ((b79 && ((r33 : Int) == 0)) && (((Sl.len r32 : Int) : Int) == 1)) with hc96 | hc96
 replace h := h.1 hc96
 refine Zu hc96 (OV.move rfl) ?_
 obtain ⟨p97, ha98, hb99, hc100, hd101, h⟩ := h
 refine Zu hc96 (OV.indexAddr rfl rfl rfl rfl ha98 hb99 hc100 hd101) (Zu hc96 (OV.fieldAddr rfl rfl) ?_)
 obtain ⟨x102, hr103, h⟩ := h
 refine Zu hc96 (OV.load rfl rfl hr103) ?_
 obtain ⟨p104, ha105, hb106, hc107, hd108, h⟩ := h
 refine Zu hc96 (OV.indexAddr rfl rfl rfl rfl ha105 hb106 hc107 hd108) (Zu hc96 (OV.fieldAddr rfl rfl) ?_)
 obtain ⟨x109, hr110, h⟩ := h
 refine Zu hc96 (OV.load rfl rfl hr110) (Zu hc96 (OV.ibin (v := .bool ((x109 : Int) == 2)) rfl rfl rfl) (Zt hc96 ?_))
 exact GL.jump (fun _ _ h => h) ((x109 : Int) == 2) h ⟨rfl, rfl, rfl, rfl, rfl, rfl, rfl, trivial⟩
 replace h := h.2 hc96
 refine Zk hc96 (Zk hc96 (Zk hc96 (Zk hc96 (Zk hc96 (Zk hc96 (Zk hc96 (Zk hc96 (Zn hc96 ?_))))))))
 exact GL.jump (fun _ _ h => h) false h ⟨rfl, rfl, rfl, rfl, rfl, rfl, rfl, trivial⟩
 intro b93 H111 h
 replace h := hR95 b93 H111 h
 refine Zm ?_
 refine GL.cut0 3 [(133, .bool (b93 && ((r36 : Int) == 0))), (11, slv r35), (13, slv r38), (14, .int .i64 r39), (15, slv r63), (16, .int .i64 r64)] ?_ ?_
 rcases Bool.eq_false_or_eq_true b93 with hc112 | hc112
 refine Zu hc112 (OV.move rfl) (Zu hc112 (OV.ibin (v := .bool ((r36 : Int) == 0)) rfl rfl rfl) (Zt hc112 ?_))
 exact GL.jump0 (fun _ _ h => h) () rfl ⟨(by rw [hc112]; rfl), rfl, rfl, rfl, rfl, rfl, trivial⟩
 refine Zk hc112 (Zk hc112 (Zn hc112 ?_))
 exact GL.jump0 (fun _ _ h => h) () rfl ⟨(by rw [hc112]; rfl), rfl, rfl, rfl, rfl, rfl, trivial⟩
 refine Zm ?_
 refine GL.cut0 4 [(138, .bool ((b93 && ((r36 : Int) == 0)) && (((Sl.len r35 : Int) : Int) == 1))), (11, slv r35), (13, slv r38), (14, .int .i64 r39), (15, slv r63), (16, .int .i64 r64)] ?_ ?_
 rcases Zb (b93 && ((r36 : Int) == 0)) with hc113 | hc113
 refine Zu hc113 (OV.move rfl) (Zu hc113 (OV.lenSl rfl rfl) (Zu hc113 (OV.ibin (v := .bool (((Sl.len r35 : Int) : Int) == 1)) rfl rfl rfl) (Zt hc113 ?_)))
 exact GL.jump0 (fun _ _ h => h) () rfl ⟨(by rw [hc113]; rfl), rfl, rfl, rfl, rfl, rfl, trivial⟩
 refine Zk hc113 (Zk hc113 (Zk hc113 (Zn hc113 ?_)))
 exact GL.jump0 (fun _ _ h => h) () rfl ⟨(by rw [hc113]; rfl), rfl, rfl, rfl, rfl, rfl, trivial⟩
 refine Zm ?_
 obtain ⟨J115, h, hR116⟩ := h
 refine GL.cut (α := Bool) 6 J115 (fun b114 => [(145, .bool b114), (11, slv r35), (13, slv r38), (14, .int .i64 r39), (15, slv r63), (16, .int .i64 r64)]) ?_ ?_
 rcases Zb ((b93 && ((r36 : Int) == 0)) && (((Sl.len r35 : Int) : Int) == 1)) with hc117 | hc117
 replace h := h.1 hc117
 refine Zu hc117 (OV.move rfl) ?_
 obtain ⟨p118, ha119, hb120, hc121, hd122, h⟩ := h
 refine Zu hc117 (OV.indexAddr rfl rfl rfl rfl ha119 hb120 hc121 hd122) (Zu hc117 (OV.fieldAddr rfl rfl) ?_)
 obtain ⟨x123, hr124, h⟩ := h
 refine Zu hc117 (OV.load rfl rfl hr124) (Zu hc117 (OV.ibin (v := .bool ((x123 : Int) == 1)) rfl rfl rfl) (Zt hc117 ?_))
 exact GL.jump (fun _ _ h => h) ((x123 : Int) == 1) h ⟨rfl, rfl, rfl, rfl, rfl, rfl, trivial⟩
 replace h := h.2 hc117
 refine Zk hc117 (Zk hc117 (Zk hc117 (Zk hc117 (Zk hc117 (Zn hc117 ?_)))))
 exact GL.jump (fun _ _ h => h) false h ⟨rfl, rfl, rfl, rfl, rfl, rfl, trivial⟩
 intro b114 H125 h
 replace h := hR116 b114 H125 h
 refine Zm ?_
 obtain ⟨J127, h, hR128⟩ := h
 refine GL.cut (α := Bool) 9 J127 (fun b126 => [(155, .bool b126), (13, slv r38), (14, .int .i64 r39), (15, slv r63), (16, .int .i64 r64)]) ?_ ?_
 rcases Bool.eq_false_or_eq_true b114 with hc129 | hc129
 replace h := h.1 hc129
 refine Zu hc129 (OV.move rfl) ?_
 obtain ⟨p130, ha131, hb132, hc133, hd134, h⟩ := h
 refine Zu hc129 (OV.indexAddr rfl rfl rfl rfl ha131 hb132 hc133 hd134) (Zu hc129 (OV.fieldAddr rfl rfl) ?_)
 obtain ⟨x135, hr136, h⟩ := h
 refine Zu hc129 (OV.load rfl rfl hr136) ?_
 obtain ⟨p137, ha138, hb139, hc140, hd141, h⟩ := h
 refine Zu hc129 (OV.indexAddr rfl rfl rfl rfl ha138 hb139 hc140 hd141) (Zu hc129 (OV.fieldAddr rfl rfl) ?_)
 obtain ⟨x142, hr143, h⟩ := h
 refine Zu hc129 (OV.load rfl rfl hr143) (Zu hc129 (OV.ibin (v := .bool ((x142 : Int) == 2)) rfl rfl rfl) (Zt hc129 ?_))
 exact GL.jump (fun _ _ h => h) ((x142 : Int) == 2) h ⟨rfl, rfl, rfl, rfl, rfl, trivial⟩
 replace h := h.2 hc129
 refine Zk hc129 (Zk hc129 (Zk hc129 (Zk hc129 (Zk hc129 (Zk hc129 (Zk hc129 (Zk hc129 (Zn hc129 ?_))))))))
 exact GL.jump (fun _ _ h => h) false h ⟨rfl, rfl, rfl, rfl, rfl, trivial⟩
 intro b126 H144 h
 replace h := hR128 b126 H144 h
 refine Zm ?_
 refine GL.cut0 3 [(159, .bool (b126 && ((r39 : Int) == 0))), (13, slv r38), (15, slv r63), (16, .int .i64 r64)] ?_ ?_
 rcases Bool.eq_false_or_eq_true b126 with hc145 | hc145
 refine Zu hc145 (OV.move rfl) (Zu hc145 (OV.ibin (v := .bool ((r39 : Int) == 0)) rfl rfl rfl) (Zt hc145 ?_))
 exact GL.jump0 (fun _ _ h => h) () rfl ⟨(by rw [hc145]; rfl), rfl, rfl, rfl, trivial⟩
 refine Zk hc145 (Zk hc145 (Zn hc145 ?_))
 exact GL.jump0 (fun _ _ h => h) () rfl ⟨(by rw [hc145]; rfl), rfl, rfl, rfl, trivial⟩
 refine Zm ?_
 refine GL.cut0 4 [(164, .bool ((b126 && ((r39 : Int) == 0)) && (((Sl.len r38 : Int) : Int) == 1))), (13, slv r38), (15, slv r63), (16, .int .i64 r64)] ?_ ?_
 rcases Zb (b126 && ((r39 : Int) == 0)) with hc146 | hc146
 refine Zu hc146 (OV.move rfl) (Zu hc146 (OV.lenSl rfl rfl) (Zu hc146 (OV.ibin (v := .bool (((Sl.len r38 : Int) : Int) == 1)) rfl rfl rfl) (Zt hc146 ?_)))
 exact GL.jump0 (fun _ _ h => h) () rfl ⟨(by rw [hc146]; rfl), rfl, rfl, rfl, trivial⟩
 refine Zk hc146 (Zk hc146 (Zk hc146 (Zn hc146 ?_)))
 exact GL.jump0 (fun _ _ h => h) () rfl ⟨(by rw [hc146]; rfl), rfl, rfl, rfl, trivial⟩
 refine Zm ?_
 obtain ⟨J148, h, hR149⟩ := h
 refine GL.cut (α := Bool) 6 J148 (fun b147 => [(171, .bool b147), (15, slv r63), (16, .int .i64 r64)]) ?_ ?_
 rcases Zb ((b126 && ((r39 : Int) == 0)) && (((Sl.len r38 : Int) : Int) == 1)) with hc150 | hc150
 replace h := h.1 hc150
 refine Zu hc150 (OV.move rfl) ?_
 obtain ⟨p151, ha152, hb153, hc154, hd155, h⟩ := h
 refine Zu hc150 (OV.indexAddr rfl rfl rfl rfl ha152 hb153 hc154 hd155) (Zu hc150 (OV.fieldAddr rfl rfl) ?_)
 obtain ⟨x156, hr157, h⟩ := h
 refine Zu hc150 (OV.load rfl rfl hr157) (Zu hc150 (OV.ibin (v := .bool ((x156 : Int) == (-1))) rfl rfl rfl) (Zt hc150 ?_))
 exact GL.jump (fun _ _ h => h) ((x156 : Int) == (-1)) h ⟨rfl, rfl, rfl, trivial⟩
 replace h := h.2 hc150
 refine Zk hc150 (Zk hc150 (Zk hc150 (Zk hc150 (Zk hc150 (Zn hc150 ?_)))))
 exact GL.jump (fun _ _ h => h) false h ⟨rfl, rfl, rfl, trivial⟩
 intro b147 H158 h
 replace h := hR149 b147 H158 h
 refine Zm ?_
 refine GL.cut0 3 [(175, .bool (b147 && ((r64 : Int) == 0))), (15, slv r63)] ?_ ?_
 rcases Bool.eq_false_or_eq_true b147 with hc159 | hc159
 refine Zu hc159 (OV.move rfl) (Zu hc159 (OV.ibin (v := .bool ((r64 : Int) == 0)) rfl rfl rfl) (Zt hc159 ?_))
 exact GL.jump0 (fun _ _ h => h) () rfl ⟨(by rw [hc159]; rfl), rfl, trivial⟩
 refine Zk hc159 (Zk hc159 (Zn hc159 ?_))
 exact GL.jump0 (fun _ _ h => h) () rfl ⟨(by rw [hc159]; rfl), rfl, trivial⟩
 refine Zm ?_
 refine GL.cut0 4 [(180, .bool ((b147 && ((r64 : Int) == 0)) && (((Sl.len r63 : Int) : Int) == 2))), (15, slv r63)] ?_ ?_
 rcases Zb (b147 && ((r64 : Int) == 0)) with hc160 | hc160
 refine Zu hc160 (OV.move rfl) (Zu hc160 (OV.lenSl rfl rfl) (Zu hc160 (OV.ibin (v := .bool (((Sl.len r63 : Int) : Int) == 2)) rfl rfl rfl) (Zt hc160 ?_)))
 exact GL.jump0 (fun _ _ h => h) () rfl ⟨(by rw [hc160]; rfl), rfl, trivial⟩
 refine Zk hc160 (Zk hc160 (Zk hc160 (Zn hc160 ?_)))
 exact GL.jump0 (fun _ _ h => h) () rfl ⟨(by rw [hc160]; rfl), rfl, trivial⟩
 refine Zm ?_
 obtain ⟨J162, h, hR163⟩ := h
 refine GL.cut (α := Bool) 6 J162 (fun b161 => [(187, .bool b161), (15, slv r63)]) ?_ ?_
 rcases Zb ((b147 && ((r64 : Int) == 0)) && (((Sl.len r63 : Int) : Int) == 2)) with hc164 | hc164
 replace h := h.1 hc164
 refine Zu hc164 (OV.move rfl) ?_
 obtain ⟨p165, ha166, hb167, hc168, hd169, h⟩ := h
 refine Zu hc164 (OV.indexAddr rfl rfl rfl rfl ha166 hb167 hc168 hd169) (Zu hc164 (OV.fieldAddr rfl rfl) ?_)
 obtain ⟨x170, hr171, h⟩ := h
 refine Zu hc164 (OV.load rfl rfl hr171) (Zu hc164 (OV.ibin (v := .bool ((x170 : Int) == (-1))) rfl rfl rfl) (Zt hc164 ?_))
 exact GL.jump (fun _ _ h => h) ((x170 : Int) == (-1)) h ⟨rfl, rfl, trivial⟩
 replace h := h.2 hc164
 refine Zk hc164 (Zk hc164 (Zk hc164 (Zk hc164 (Zk hc164 (Zn hc164 ?_)))))
 exact GL.jump (fun _ _ h => h) false h ⟨rfl, rfl, trivial⟩
 intro b161 H172 h
 replace h := hR163 b161 H172 h
 refine Zm ?_
 obtain ⟨J174, h, hR175⟩ := h
 refine GL.cut (α := Bool) 6 J174 (fun b173 => [(194, .bool b173)]) ?_ ?_
 rcases Bool.eq_false_or_eq_true b161 with hc176 | hc176
 replace h := h.1 hc176
 refine Zu hc176 (OV.move rfl) ?_
 obtain ⟨p177, ha178, hb179, hc180, hd181, h⟩ := h
 refine Zu hc176 (OV.indexAddr rfl rfl rfl rfl ha178 hb179 hc180 hd181) (Zu hc176 (OV.fieldAddr rfl rfl) ?_)
 obtain ⟨x182, hr183, h⟩ := h
 refine Zu hc176 (OV.load rfl rfl hr183) (Zu hc176 (OV.ibin (v := .bool ((x182 : Int) == 1)) rfl rfl rfl) (Zt hc176 ?_))
 exact GL.jump (fun _ _ h => h) ((x182 : Int) == 1) h ⟨rfl, trivial⟩
 replace h := h.2 hc176
 refine Zk hc176 (Zk hc176 (Zk hc176 (Zk hc176 (Zk hc176 (Zn hc176 ?_)))))
 exact GL.jump (fun _ _ h => h) false h ⟨rfl, trivial⟩
 intro b173 H184 h
 replace h := hR175 b173 H184 h
 refine Za (GL.nil ?_)
 exact GC.ret (fun _ _ hf hs => post_tmp1 rfl rfl hf hs ⟨b173, rfl, h⟩)
def sh_law24_given (C : Ctx) (p_l : Sl) (K : Sl → Heap → Prop) (H : Heap) : Prop :=
 lp (α := Sl × Int) (Sl.nil, 0) H (fun x1 J2 H3 =>
 ift (decide ((x1.2 : Int) < (Sl.len p_l : Int)))
 (dr H3 fun Hs5 =>
 ixa p_l x1.2 fun p7 =>
 ldL Hs5 ((p7.1, p7.2 + (x1.2 : Int).toNat * 2).1, (p7.1, p7.2 + (x1.2 : Int).toNat * 2).2 + 0) fun x12 =>
 ixa p_l x1.2 fun p14 =>
 ldI Hs5 .i64 ((p14.1, p14.2 + (x1.2 : Int).toNat * 2).1, (p14.1, p14.2 + (x1.2 : Int).toNat * 2).2 + 1) fun x19 =>
 c_ref02_Own C x12 (fun r22 H23 =>
 Heap.le Hs5 H23 ∧
 nw ((T_zset_Entry.c (⟨r22, x19⟩ : T_zset_Entry)) ++ []) (fun b25 H26 =>
 Heap.le Hs5 H26 ∧
 apS (T_zset_Entry.c T_zset_Entry.zero) 32 x1.1 (Sl.of (some (b25, 0)) 1 1) (fun r28 H29 =>
 Heap.le Hs5 H29 ∧
 J2 (r28, (w .i64 (x1.2 + 1))) H29) H26) H23) H3)
 (K x1.1 H3))
theorem ad_law24_given (C : Ctx) (p_l : Sl) (K : Sl → Heap → Prop) (H : Heap) (h : sh_law24_given C p_l K H) : c_law24_given C p_l K H := by
 refine Spec.enter Tryz.func10 rfl Tryz.ntmps10 rfl (GC.sub [(0, slv p_l)] ⟨rfl, trivial⟩ (Zo (Za (GL.nil (Zo (Za (GL.nil (GC.seq (Zo (Za (GL.nil ?_)))))))))))
 refine GC.block (GC.loop (α := Sl × Int) h (fun x1 => [(3, slv x1.1), (4, .int .i64 x1.2), (0, slv p_l)]) ⟨rfl, rfl, rfl, trivial⟩ ?_)
 intro x1 H3 J2 h
 refine GC.seq (Zo (Zm (Zm (Zq (Zi (.bool (decide ((x1.2 : Int) < (Sl.len p_l : Int)))) (GL.nil ?_))))))
 refine Zd (fun hc4 => ?_) fun hc4 => ?_
 replace h := h.1 hc4
 refine GC.skip (GC.seq (GC.block ?_))
 obtain ⟨Hs5, hle6, h⟩ := h
 refine GC.any (Hs := Hs5) (by kernel_rfl) hle6 (Zp 0 rfl (OV.move rfl) (Zp 1 rfl (OV.move rfl) (Zp 2 rfl (OV.move rfl) ?_)))
 obtain ⟨p7, ha8, hb9, hc10, hd11, h⟩ := h
 refine Zp 3 rfl (OV.indexAddr rfl rfl rfl rfl ha8 hb9 hc10 hd11) (Zp 4 rfl (OV.fieldAddr rfl rfl) ?_)
 obtain ⟨x12, hr13, h⟩ := h
 refine Zp 5 rfl (OV.load rfl rfl hr13) (Zp 7 rfl (OV.move rfl) (Zp 8 rfl (OV.move rfl) ?_))
 obtain ⟨p14, ha15, hb16, hc17, hd18, h⟩ := h
 refine Zp 9 rfl (OV.indexAddr rfl rfl rfl rfl ha15 hb16 hc17 hd18) (Zp 10 rfl (OV.fieldAddr rfl rfl) ?_)
 obtain ⟨x19, hr20, h⟩ := h
 refine Zp 11 rfl (OV.load rfl rfl hr20) (GA.eff 6 rfl (by kernel_rfl) (Zc h ok_ref02_Own ?_))
 rintro _ H23 ⟨r22, rfl, h⟩
 obtain ⟨hle21, h⟩ := h
 refine GA.back hle21 (Zp 12 rfl (OV.build (vs := [(0, slv r22), (1, .int .i64 x19)]) (v := .agg (T_zset_Entry.c (⟨r22, x19⟩ : T_zset_Entry)).toArray) rfl (fun _ => by kernel_rfl)) (GA.eff 13 rfl (by kernel_rfl) (GL.buildSlice (cs := (T_zset_Entry.c (⟨r22, x19⟩ : T_zset_Entry)) ++ []) h trivial rfl (vs := [(0, .agg (T_zset_Entry.c (⟨r22, x19⟩ : T_zset_Entry)).toArray)]) rfl ⟨47, fun _ => by kernel_rfl⟩ ?_)))
 intro b25 H26 h
 obtain ⟨hle24, h⟩ := h
 refine GA.back hle24 (GA.eff 14 rfl (by kernel_rfl) (GL.appendS (s := x1.1) (s2 := (Sl.of (some (b25, 0)) 1 1)) (zc := T_zset_Entry.c T_zset_Entry.zero) (bytes := 32) h trivial rfl rfl rfl ⟨⟨_, _, _, rfl, rfl, rfl, rfl, rfl, rfl⟩⟩ rfl ?_))
 intro r28 H29 h
 obtain ⟨hle27, h⟩ := h
 refine GA.back hle27 (Zp 15 rfl (OV.assign rfl) (GA.done (by kernel_rfl) (GL.nil_to (fun _ _ h => h) (GC.region (Zm (Zi (.int .i64 (w .i64 (x1.2 + 1))) (Za ?_)))))))
 exact GL.jump (fun _ _ h => h) (r28, (w .i64 (x1.2 + 1))) h ⟨rfl, rfl, rfl, trivial⟩
 replace h := h.2 hc4
 refine GC.exit_to (fun _ _ h => h) (Zo (Zm (Za (GL.nil ?_))))
 exact GC.ret (fun _ _ hf hs => post_tmp1 rfl rfl hf hs ⟨x1.1, rfl, h⟩)
def sh_law24_pairs (C : Ctx) (p_l : Sl) (K : Sl → Heap → Prop) (H : Heap) : Prop :=
 lp (α := Sl × Int) (Sl.nil, 0) H (fun x1 J2 H3 =>
 ift (decide ((x1.2 : Int) < (Sl.len p_l : Int)))
 (dr H3 fun Hs5 =>
 ixa p_l x1.2 fun p7 =>
 ldI Hs5 .i64 ((p7.1, p7.2 + (x1.2 : Int).toNat * 2).1, (p7.1, p7.2 + (x1.2 : Int).toNat * 2).2 + 0) fun x12 =>
 ixa p_l x1.2 fun p14 =>
 ldI Hs5 .i64 ((p14.1, p14.2 + (x1.2 : Int).toNat * 2).1, (p14.1, p14.2 + (x1.2 : Int).toNat * 2).2 + 1) fun x19 =>
 nw ((T_delta_Pair.c (⟨x12, x19⟩ : T_delta_Pair)) ++ []) (fun b22 H23 =>
 Heap.le Hs5 H23 ∧
 apS (T_delta_Pair.c T_delta_Pair.zero) 16 x1.1 (Sl.of (some (b22, 0)) 1 1) (fun r25 H26 =>
 Heap.le Hs5 H26 ∧
 J2 (r25, (w .i64 (x1.2 + 1))) H26) H23) H3)
 (K x1.1 H3))
theorem ad_law24_pairs (C : Ctx) (p_l : Sl) (K : Sl → Heap → Prop) (H : Heap) (h : sh_law24_pairs C p_l K H) : c_law24_pairs C p_l K H := by
 refine Spec.enter Tryz.func11 rfl Tryz.ntmps11 rfl (GC.sub [(0, slv p_l)] ⟨rfl, trivial⟩ (Zo (Za (GL.nil (Zo (Za (GL.nil (GC.seq (Zo (Za (GL.nil ?_)))))))))))
 refine GC.block (GC.loop (α := Sl × Int) h (fun x1 => [(3, slv x1.1), (4, .int .i64 x1.2), (0, slv p_l)]) ⟨rfl, rfl, rfl, trivial⟩ ?_)
 intro x1 H3 J2 h
 refine GC.seq (Zo (Zm (Zm (Zq (Zi (.bool (decide ((x1.2 : Int) < (Sl.len p_l : Int)))) (GL.nil ?_))))))
 refine Zd (fun hc4 => ?_) fun hc4 => ?_
 replace h := h.1 hc4
 refine GC.skip (GC.seq (GC.block ?_))
 obtain ⟨Hs5, hle6, h⟩ := h
 refine GC.any (Hs := Hs5) (by kernel_rfl) hle6 (Zp 0 rfl (OV.move rfl) (Zp 1 rfl (OV.move rfl) (Zp 2 rfl (OV.move rfl) ?_)))
 obtain ⟨p7, ha8, hb9, hc10, hd11, h⟩ := h
 refine Zp 3 rfl (OV.indexAddr rfl rfl rfl rfl ha8 hb9 hc10 hd11) (Zp 4 rfl (OV.fieldAddr rfl rfl) ?_)
 obtain ⟨x12, hr13, h⟩ := h
 refine Zp 5 rfl (OV.load rfl rfl hr13) (Zp 6 rfl (OV.move rfl) (Zp 7 rfl (OV.move rfl) ?_))
 obtain ⟨p14, ha15, hb16, hc17, hd18, h⟩ := h
 refine Zp 8 rfl (OV.indexAddr rfl rfl rfl rfl ha15 hb16 hc17 hd18) (Zp 9 rfl (OV.fieldAddr rfl rfl) ?_)
 obtain ⟨x19, hr20, h⟩ := h
 refine Zp 10 rfl (OV.load rfl rfl hr20) (Zp 11 rfl (OV.build (vs := [(0, .int .i64 x12), (1, .int .i64 x19)]) (v := .agg (T_delta_Pair.c (⟨x12, x19⟩ : T_delta_Pair)).toArray) rfl (fun _ => by kernel_rfl)) (GA.eff 12 rfl (by kernel_rfl) (GL.buildSlice (cs := (T_delta_Pair.c (⟨x12, x19⟩ : T_delta_Pair)) ++ []) h trivial rfl (vs := [(0, .agg (T_delta_Pair.c (⟨x12, x19⟩ : T_delta_Pair)).toArray)]) rfl ⟨50, fun _ => by kernel_rfl⟩ ?_)))
 intro b22 H23 h
 obtain ⟨hle21, h⟩ := h
 refine GA.back hle21 (GA.eff 13 rfl (by kernel_rfl) (GL.appendS (s := x1.1) (s2 := (Sl.of (some (b22, 0)) 1 1)) (zc := T_delta_Pair.c T_delta_Pair.zero) (bytes := 16) h trivial rfl rfl rfl ⟨⟨_, _, _, rfl, rfl, rfl, rfl, rfl, rfl⟩⟩ rfl ?_))
 intro r25 H26 h
 obtain ⟨hle24, h⟩ := h
 refine GA.back hle24 (Zp 14 rfl (OV.assign rfl) (GA.done (by kernel_rfl) (GL.nil_to (fun _ _ h => h) (GC.region (Zm (Zi (.int .i64 (w .i64 (x1.2 + 1))) (Za ?_)))))))
 exact GL.jump (fun _ _ h => h) (r25, (w .i64 (x1.2 + 1))) h ⟨rfl, rfl, rfl, trivial⟩
 replace h := h.2 hc4
 refine GC.exit_to (fun _ _ h => h) (Zo (Zm (Za (GL.nil ?_))))
 exact GC.ret (fun _ _ hf hs => post_tmp1 rfl rfl hf hs ⟨x1.1, rfl, h⟩)
def sh_delta_JoinChange (C : Ctx) (p_a : Sl) (p_da : Sl) (p_b : Sl) (p_db : Sl) (p_on : Sl) (K : Sl → Int → Heap → Prop) (H : Heap) : Prop :=
 c_delta_parts C p_a p_da p_b p_db (fun r1 r2 r3 H4 =>
 nw (T_delta_part.c T_delta_part.zero) (fun b5 H6 =>
 nw (T_delta_part.c T_delta_part.zero) (fun b7 H8 =>
 stT (b5, 0) (T_delta_part.c r1) (fun H9 =>
 stT (b7, 0) (T_delta_part.c r2) (fun H10 =>
 ift ((r3 : Int) != 0)
 (K Sl.nil r3 H10)
 (ldL H10 ((b5, 0).1, (b5, 0).2 + 0) fun x12 =>
 ldL H10 ((b7, 0).1, (b7, 0).2 + 0) fun x14 =>
 c_delta_pair C x12 x14 p_on (fun r16 H17 =>
 c_zset_Clean C r16 (fun r18 r19 H20 =>
 ift ((r19 : Int) != 0)
 (K Sl.nil r19 H20)
 (ldL H20 ((b5, 0).1, (b5, 0).2 + 2) fun x22 =>
 ldL H20 ((b7, 0).1, (b7, 0).2 + 2) fun x24 =>
 c_delta_pair C x22 x24 p_on (fun r26 H27 =>
 c_zset_Clean C r26 (fun r28 r29 H30 =>
 ift ((r29 : Int) != 0)
 (K Sl.nil r29 H30)
 (c_zset_Less C r28 r18 (fun r32 r33 H34 =>
 K r32 r33 H34) H30)) H27) H20)) H17) H10)) H9) H8) H6) H4) H
theorem ad_delta_JoinChange (C : Ctx) (p_a : Sl) (p_da : Sl) (p_b : Sl) (p_db : Sl) (p_on : Sl) (K : Sl → Int → Heap → Prop) (H : Heap) (h : sh_delta_JoinChange C p_a p_da p_b p_db p_on K H) : c_delta_JoinChange C p_a p_da p_b p_db p_on K H := by
 refine Spec.enter Tryz.func12 rfl Tryz.ntmps12 rfl (GC.sub [(0, slv p_a), (1, slv p_da), (2, slv p_b), (3, slv p_db), (4, slv p_on)] ⟨rfl, rfl, rfl, rfl, rfl, trivial⟩ (Zo (Za (Za (GL.nil (Zo (Zm (Zm (Zm (Zm (Zc h ok_delta_parts ?_)))))))))))
 rintro _ H4 ⟨r1, r2, r3, rfl, h⟩
 refine Zm (Zv (OV.extract (v := .agg (T_delta_part.c r1).toArray) rfl rfl) (Zv (OV.extract (v := .agg (T_delta_part.c r2).toArray) rfl rfl) (Zv (OV.extract (v := .int .i64 r3) rfl rfl) (GL.alloc (cs := T_delta_part.c T_delta_part.zero) h trivial rfl rfl rfl ?_))))
 intro b5 H6 h
 refine GL.alloc (cs := T_delta_part.c T_delta_part.zero) h trivial rfl rfl rfl ?_
 intro b7 H8 h
 refine GL.storeT (p := (b5, 0)) (vs := T_delta_part.c r1) h trivial rfl rfl rfl rfl ?_
 intro H9 h
 refine GL.storeT (p := (b7, 0)) (vs := T_delta_part.c r2) h trivial rfl rfl rfl rfl ?_
 intro H10 h
 refine Za (GL.nil (GC.seq (Zo (Zm (Zi (.bool ((r3 : Int) != 0)) (GL.nil ?_))))))
 refine Zd (fun hc11 => ?_) fun hc11 => ?_
 replace h := h.1 hc11
 refine Zo (Zm (Za (Za (GL.nil ?_))))
 exact GC.ret (fun _ _ hf hs => post_tmp2 rfl rfl rfl hf hs ⟨Sl.nil, r3, rfl, h⟩)
 replace h := h.2 hc11
 refine GC.skip (Zo (Zf ?_))
 obtain ⟨x12, hr13, h⟩ := h
 refine Zl hr13 (Zf ?_)
 obtain ⟨x14, hr15, h⟩ := h
 refine Zl hr15 (Zm (Zc h ok_delta_pair ?_))
 rintro _ H17 ⟨r16, rfl, h⟩
 refine Zc h ok_zset_Clean ?_
 rintro _ H20 ⟨r18, r19, rfl, h⟩
 refine Zm (Zv (OV.extract (v := slv r18) rfl rfl) (Zv (OV.extract (v := .int .i64 r19) rfl rfl) (Za (Za (GL.nil (GC.seq (Zo (Zm (Zi (.bool ((r19 : Int) != 0)) (GL.nil ?_))))))))))
 refine Zd (fun hc21 => ?_) fun hc21 => ?_
 replace h := h.1 hc21
 refine Zo (Zm (Za (Za (GL.nil ?_))))
 exact GC.ret (fun _ _ hf hs => post_tmp2 rfl rfl rfl hf hs ⟨Sl.nil, r19, rfl, h⟩)
 replace h := h.2 hc21
 refine GC.skip (Zo (Zf ?_))
 obtain ⟨x22, hr23, h⟩ := h
 refine Zl hr23 (Zf ?_)
 obtain ⟨x24, hr25, h⟩ := h
 refine Zl hr25 (Zm (Zc h ok_delta_pair ?_))
 rintro _ H27 ⟨r26, rfl, h⟩
 refine Zc h ok_zset_Clean ?_
 rintro _ H30 ⟨r28, r29, rfl, h⟩
 refine Zm (Zv (OV.extract (v := slv r28) rfl rfl) (Zv (OV.extract (v := .int .i64 r29) rfl rfl) (Za (Za (GL.nil (GC.seq (Zo (Zm (Zi (.bool ((r29 : Int) != 0)) (GL.nil ?_))))))))))
 refine Zd (fun hc31 => ?_) fun hc31 => ?_
 replace h := h.1 hc31
 refine Zo (Zm (Za (Za (GL.nil ?_))))
 exact GC.ret (fun _ _ hf hs => post_tmp2 rfl rfl rfl hf hs ⟨Sl.nil, r29, rfl, h⟩)
 replace h := h.2 hc31
 refine GC.skip (Zo (Zm (Zm (Zc h ok_zset_Less ?_))))
 rintro _ H34 ⟨r32, r33, rfl, h⟩
 refine Zv (OV.extract (v := slv r32) rfl rfl) (Zv (OV.extract (v := .int .i64 r33) rfl rfl) (Za (Za (GL.nil ?_))))
 exact GC.ret (fun _ _ hf hs => post_tmp2 rfl rfl rfl hf hs ⟨r32, r33, rfl, h⟩)
def sh_delta_AntiChange (C : Ctx) (p_a : Sl) (p_da : Sl) (p_b : Sl) (p_db : Sl) (p_on : Sl) (K : Sl → Int → Heap → Prop) (H : Heap) : Prop :=
 c_delta_parts C p_a p_da p_b p_db (fun r1 r2 r3 H4 =>
 nw (T_delta_part.c T_delta_part.zero) (fun b5 H6 =>
 nw (T_delta_part.c T_delta_part.zero) (fun b7 H8 =>
 stT (b5, 0) (T_delta_part.c r1) (fun H9 =>
 stT (b7, 0) (T_delta_part.c r2) (fun H10 =>
 ift ((r3 : Int) != 0)
 (K Sl.nil r3 H10)
 (ldL H10 ((b7, 0).1, (b7, 0).2 + 0) fun x12 =>
 c_zset_Distinct C x12 (fun r14 r15 H16 =>
 ift ((r15 : Int) != 0)
 (K Sl.nil r15 H16)
 (ldL H16 ((b7, 0).1, (b7, 0).2 + 2) fun x18 =>
 c_zset_Distinct C x18 (fun r20 r21 H22 =>
 ift ((r21 : Int) != 0)
 (K Sl.nil r21 H22)
 (dr H22 fun Hs24 =>
 ldL Hs24 ((b5, 0).1, (b5, 0).2 + 2) fun x26 =>
 ldL Hs24 ((b5, 0).1, (b5, 0).2 + 0) fun x28 =>
 c_delta_none C x26 r20 p_on (fun r31 H32 =>
 Heap.le Hs24 H32 ∧
 c_delta_none C x28 r14 p_on (fun r34 H35 =>
 Heap.le Hs24 H35 ∧
 c_delta_less C r34 (fun r37 H38 =>
 Heap.le Hs24 H38 ∧
 apS (T_zset_Entry.c T_zset_Entry.zero) 32 r31 r37 (fun r40 H41 =>
 Heap.le Hs24 H41 ∧
 c_zset_Clean C r40 (fun r43 r44 H45 =>
 Heap.le Hs24 H45 ∧
 K r43 r44 H45) H41) H38) H35) H32) H22)) H16)) H10)) H9) H8) H6) H4) H
theorem ad_delta_AntiChange (C : Ctx) (p_a : Sl) (p_da : Sl) (p_b : Sl) (p_db : Sl) (p_on : Sl) (K : Sl → Int → Heap → Prop) (H : Heap) (h : sh_delta_AntiChange C p_a p_da p_b p_db p_on K H) : c_delta_AntiChange C p_a p_da p_b p_db p_on K H := by
 refine Spec.enter Tryz.func15 rfl Tryz.ntmps15 rfl (GC.sub [(0, slv p_a), (1, slv p_da), (2, slv p_b), (3, slv p_db), (4, slv p_on)] ⟨rfl, rfl, rfl, rfl, rfl, trivial⟩ (Zo (Za (Za (GL.nil (Zo (Zm (Zm (Zm (Zm (Zc h ok_delta_parts ?_)))))))))))
 rintro _ H4 ⟨r1, r2, r3, rfl, h⟩
 refine Zm (Zv (OV.extract (v := .agg (T_delta_part.c r1).toArray) rfl rfl) (Zv (OV.extract (v := .agg (T_delta_part.c r2).toArray) rfl rfl) (Zv (OV.extract (v := .int .i64 r3) rfl rfl) (GL.alloc (cs := T_delta_part.c T_delta_part.zero) h trivial rfl rfl rfl ?_))))
 intro b5 H6 h
 refine GL.alloc (cs := T_delta_part.c T_delta_part.zero) h trivial rfl rfl rfl ?_
 intro b7 H8 h
 refine GL.storeT (p := (b5, 0)) (vs := T_delta_part.c r1) h trivial rfl rfl rfl rfl ?_
 intro H9 h
 refine GL.storeT (p := (b7, 0)) (vs := T_delta_part.c r2) h trivial rfl rfl rfl rfl ?_
 intro H10 h
 refine Za (GL.nil (GC.seq (Zo (Zm (Zi (.bool ((r3 : Int) != 0)) (GL.nil ?_))))))
 refine Zd (fun hc11 => ?_) fun hc11 => ?_
 replace h := h.1 hc11
 refine Zo (Zm (Za (Za (GL.nil ?_))))
 exact GC.ret (fun _ _ hf hs => post_tmp2 rfl rfl rfl hf hs ⟨Sl.nil, r3, rfl, h⟩)
 replace h := h.2 hc11
 refine GC.skip (Zo (Zf ?_))
 obtain ⟨x12, hr13, h⟩ := h
 refine Zl hr13 (Zc h ok_zset_Distinct ?_)
 rintro _ H16 ⟨r14, r15, rfl, h⟩
 refine Zm (Zv (OV.extract (v := slv r14) rfl rfl) (Zv (OV.extract (v := .int .i64 r15) rfl rfl) (Za (Za (GL.nil (GC.seq (Zo (Zm (Zi (.bool ((r15 : Int) != 0)) (GL.nil ?_))))))))))
 refine Zd (fun hc17 => ?_) fun hc17 => ?_
 replace h := h.1 hc17
 refine Zo (Zm (Za (Za (GL.nil ?_))))
 exact GC.ret (fun _ _ hf hs => post_tmp2 rfl rfl rfl hf hs ⟨Sl.nil, r15, rfl, h⟩)
 replace h := h.2 hc17
 refine GC.skip (Zo (Zf ?_))
 obtain ⟨x18, hr19, h⟩ := h
 refine Zl hr19 (Zc h ok_zset_Distinct ?_)
 rintro _ H22 ⟨r20, r21, rfl, h⟩
 refine Zm (Zv (OV.extract (v := slv r20) rfl rfl) (Zv (OV.extract (v := .int .i64 r21) rfl rfl) (Za (Za (GL.nil (GC.seq (Zo (Zm (Zi (.bool ((r21 : Int) != 0)) (GL.nil ?_))))))))))
 refine Zd (fun hc23 => ?_) fun hc23 => ?_
 replace h := h.1 hc23
 refine Zo (Zm (Za (Za (GL.nil ?_))))
 exact GC.ret (fun _ _ hf hs => post_tmp2 rfl rfl rfl hf hs ⟨Sl.nil, r21, rfl, h⟩)
 replace h := h.2 hc23
 refine GC.skip (GC.seq ?_)
 obtain ⟨Hs24, hle25, h⟩ := h
 refine GC.any (Hs := Hs24) (by kernel_rfl) hle25 (Zp 0 rfl (OV.fieldAddr rfl rfl) ?_)
 obtain ⟨x26, hr27, h⟩ := h
 refine Zp 1 rfl (OV.load rfl rfl hr27) (Zp 2 rfl (OV.move rfl) (Zp 3 rfl (OV.move rfl) (Zp 5 rfl (OV.fieldAddr rfl rfl) ?_)))
 obtain ⟨x28, hr29, h⟩ := h
 refine Zp 6 rfl (OV.load rfl rfl hr29) (Zp 7 rfl (OV.move rfl) (Zp 8 rfl (OV.move rfl) (GA.eff 4 rfl (by kernel_rfl) (Zc h ok_delta_none ?_))))
 rintro _ H32 ⟨r31, rfl, h⟩
 obtain ⟨hle30, h⟩ := h
 refine GA.back hle30 (GA.eff 9 rfl (by kernel_rfl) (Zc h ok_delta_none ?_))
 rintro _ H35 ⟨r34, rfl, h⟩
 obtain ⟨hle33, h⟩ := h
 refine GA.back hle33 (GA.eff 10 rfl (by kernel_rfl) (Zc h ok_delta_less ?_))
 rintro _ H38 ⟨r37, rfl, h⟩
 obtain ⟨hle36, h⟩ := h
 refine GA.back hle36 (GA.eff 11 rfl (by kernel_rfl) (GL.appendS (s := r31) (s2 := r37) (zc := T_zset_Entry.c T_zset_Entry.zero) (bytes := 32) h trivial rfl rfl rfl ⟨⟨_, _, _, rfl, rfl, rfl, rfl, rfl, rfl⟩⟩ rfl ?_))
 intro r40 H41 h
 obtain ⟨hle39, h⟩ := h
 refine GA.back hle39 (GA.eff 12 rfl (by kernel_rfl) (Zc h ok_zset_Clean ?_))
 rintro _ H45 ⟨r43, r44, rfl, h⟩
 obtain ⟨hle42, h⟩ := h
 refine GA.back hle42 (Zp 13 rfl (OV.extract (v := slv r43) rfl rfl) (Zp 14 rfl (OV.extract (v := .int .i64 r44) rfl rfl) (Zp 15 rfl (OV.assign rfl) (Zp 16 rfl (OV.assign rfl) (GA.done (by kernel_rfl) (GL.nil ?_))))))
 exact GC.ret (fun _ _ hf hs => post_tmp2 rfl rfl rfl hf hs ⟨r43, r44, rfl, h⟩)
end Sx
end

