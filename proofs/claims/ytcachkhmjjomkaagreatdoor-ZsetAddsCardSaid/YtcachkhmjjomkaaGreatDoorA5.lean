/-
  Texts of this family, one behind the other: SortE, ValN2, ValH, Zs1, Zs2, Zs3, Zs4, ZsQ, Zs5, Zs6, Zs7, Zs8, Zs9, Zs10, Zs11, Zs12, Zs13, Zs14, Zs15, Zs16, Zs17, Zs18, Zs19, Zs20, Zs21, Zs22, ZsG, ZsH, ZsD, ZsE.
-/
import Derived.Test.YtcachkhmjjomkaaGreatDoorA4
noncomputable section
set_option linter.unusedVariables false
set_option linter.unusedSimpArgs false
namespace Sx.SE
open Go Go.Proofs Sx
abbrev TE := T_zset_Entry
abbrev cE (x : TE) : List Value := T_zset_Entry.c x
abbrev argE (x : TE) : Value := .agg (T_zset_Entry.c x).toArray
abbrev LDX (H : Heap) (p : Nat × Nat) (K : TE → Prop) : Prop := ldT H T_zset_Entry.c p K
def enc {G : Type} (e : TE × G) : List Value := cE e.1
section
variable {G : Type}
def arr (H0 : Heap) (b : Nat) (sp : List Value) (L : List (TE × G)) : Heap := H0.put b (.row (L.flatMap enc ++ sp))
structure Sls (s : Sl) (b n : Nat) : Prop where
 p : s.p = some (b, 0)
 x : s.x = none
 len : s.len = n
 small : n ≤ 140737488355328
theorem enc_len (e : TE × G) : (enc e).length = 2 := rfl
theorem flat_len : ∀ A : List (TE × G), (A.flatMap enc).length = A.length * 2
 | [] => rfl
 | e :: A => by rw [List.flatMap_cons, List.length_append, enc_len, flat_len A, List.length_cons]; omega
theorem cell_at {A R : List (TE × G)} {x : TE × G} {sp : List Value} {j : Nat} (hj : j < 2) : ((A ++ x :: R).flatMap enc ++ sp)[A.length * 2 + j]? = (cE x.1)[j]? := by
 have hl := flat_len A
 have e : (cE x.1).length = 2 := rfl
 have h : (A ++ x :: R).flatMap enc ++ sp = A.flatMap enc ++ (cE x.1 ++ (R.flatMap enc ++ sp)) := by
  rw [List.flatMap_append, List.flatMap_cons]; simp only [enc, List.append_assoc]
 rw [h, List.getElem?_append_right (by omega), List.getElem?_append_left (by omega)]
 congr 1; omega
variable {H0 R : Heap} {b n : Nat} {sp : List Value} {s : Sl} {C : Ctx} {L A D : List (TE × G)} {x y : TE × G} {i : Int}
theorem ixp {K : Nat × Nat → Prop} {k : Nat} (hs : Sls s b n) (hi : i = (k : Int)) (hk : k < n) (h : K (b, 0)) : ixa s i K :=
 ⟨(b, 0), hs.p, hs.x, by omega, by rw [hs.len]; omega, h⟩
theorem ldx {K : TE → Prop} (hL : L = A ++ x :: D) (hi : i = (A.length : Int)) (k : K x.1) : LDX (arr H0 b sp L) ((b, 0).1, (b, 0).2 + i.toNat * 2) K := by
 subst hL; subst hi
 rw [Int.toNat_natCast]
 exact ⟨x.1, rds_row (Heap.put_same ..) fun j v hj => by
  have hjl : j < 2 := (List.getElem?_eq_some_iff.1 hj).1
  rw [Nat.zero_add, cell_at hjl]; exact hj, k⟩
theorem stx0 {K : Heap → Prop} (hL : L = A ++ x :: D) (hi : i = (A.length : Int)) (k : K (arr H0 b sp (A ++ y :: D))) : stT ((b, 0).1, (b, 0).2 + i.toNat * 2) (cE y.1) K (arr H0 b sp L) := by
 subst hL; subst hi
 rw [Int.toNat_natCast]
 have hl := flat_len A
 have e2 : (cE x.1).length = 2 := rfl
 have e3 : (cE y.1).length = 2 := rfl
 have h : ∀ z : TE × G, (A ++ z :: D).flatMap enc ++ sp = A.flatMap enc ++ (cE z.1 ++ (D.flatMap enc ++ sp)) := fun z => by
  rw [List.flatMap_append, List.flatMap_cons]; simp only [enc, List.append_assoc]
 refine ⟨_, Heap.put_same .., ?_, ?_⟩
 ·rw [h]; simp only [List.length_append, hl, e2]; show 0 + A.length * 2 + (cE y.1).length ≤ _; rw [e3]; omega
 ·have e : (arr H0 b sp (A ++ x :: D)).put b (.row (splice ((A ++ x :: D).flatMap enc ++ sp) (0 + A.length * 2) (cE y.1))) = arr H0 b sp (A ++ y :: D) := by
   unfold arr
   rw [Heap.put_put, h x, h y, Nat.zero_add]
   congr 2
   unfold splice
   rw [← hl, List.take_left, ← List.drop_drop, List.drop_left, e3, ← e2, List.drop_left, List.append_assoc]
  exact e.symm ▸ k
theorem stx {K : Heap → Prop} (hL : L = A ++ x :: D) (hi : i = (A.length : Int)) (k : K (arr H0 b sp (A ++ y :: D))) : stT ((b, 0).1, (b, 0).2 + i.toNat * 2) (cE y.1) K (arr H0 b sp L) := stx0 hL hi k
theorem nole (B : Heap) : Heap.le (fun _ => none) B := fun _ _ h => by cases h
/-- data[lo], data[hi] = data[hi], data[lo] -/
theorem swp1 {B : List (TE × G)} {lo hi : Int} {J : Unit → Heap → Prop} (hs : Sls s b n) (hn : A.length + 1 + B.length < n) (hL : L = A ++ x :: (B ++ y :: D)) (hlo : lo = (A.length : Int)) (hhi : hi = ((A.length + 1 + B.length : Nat) : Int)) (k : J () (arr H0 b sp (A ++ y :: (B ++ x :: D)))) :
 dr (arr H0 b sp L) fun Hs => ixa s hi fun p => ixa s lo fun q =>
  (LDX (arr H0 b sp L) (p.1, p.2 + hi.toNat * 2) fun u => Heap.le Hs (arr H0 b sp L) ∧ LDX (arr H0 b sp L) (q.1, q.2 + lo.toNat * 2) fun v => Heap.le Hs (arr H0 b sp L) ∧
   ixa s lo fun p27 => stT (p27.1, p27.2 + lo.toNat * 2) (cE u)  (fun H33 => Heap.le Hs H33 ∧ ixa s hi fun p34 => stT (p34.1, p34.2 + hi.toNat * 2) (cE v)  (fun H39 => J () H39) H33) (arr H0 b sp L)) ∧
  (LDX (arr H0 b sp L) (q.1, q.2 + lo.toNat * 2) fun v => Heap.le Hs (arr H0 b sp L) ∧ LDX (arr H0 b sp L) (p.1, p.2 + hi.toNat * 2) fun u => Heap.le Hs (arr H0 b sp L) ∧
   ixa s lo fun p27 => stT (p27.1, p27.2 + lo.toNat * 2) (cE u)  (fun H33 => Heap.le Hs H33 ∧ ixa s hi fun p34 => stT (p34.1, p34.2 + hi.toNat * 2) (cE v)  (fun H39 => J () H39) H33) (arr H0 b sp L)) := by
 have e : L = (A ++ x :: B) ++ y :: D := by rw [hL]; simp
 have e' : A ++ y :: (B ++ y :: D) = (A ++ y :: B) ++ y :: D := by simp
 have hh : hi = (((A ++ x :: B).length : Nat) : Int) := by rw [hhi]; simp; omega
 have hh' : hi = (((A ++ y :: B).length : Nat) : Int) := by rw [hhi]; simp; omega
 have k' : J () (arr H0 b sp ((A ++ y :: B) ++ x :: D)) := by simpa using k
 have fin : ixa s lo fun p27 => (fun (u v : TE) => stT (p27.1, p27.2 + lo.toNat * 2) (cE u)  (fun H33 => Heap.le (fun _ => none) H33 ∧ ixa s hi fun p34 => stT (p34.1, p34.2 + hi.toNat * 2) (cE v)  (fun H39 => J () H39) H33) (arr H0 b sp L)) y.1 x.1 :=
  ixp hs hlo (by omega) (stx hL hlo ⟨nole _, ixp hs hhi (by omega) (stx e' hh' k')⟩)
 exact ⟨fun _ => none, nole _, ixp hs hhi (by omega) (ixp hs hlo (by omega) ⟨ldx e hh ⟨nole _, ldx hL hlo ⟨nole _, fin⟩⟩, ldx hL hlo ⟨nole _, ldx e hh ⟨nole _, fin⟩⟩⟩)⟩
/-- data[hi], data[lo] = data[lo], data[hi] -/
theorem swp2 {B : List (TE × G)} {lo hi : Int} {J : Unit → Heap → Prop} (hs : Sls s b n) (hn : A.length + 1 + B.length < n) (hL : L = A ++ x :: (B ++ y :: D)) (hlo : lo = (A.length : Int)) (hhi : hi = ((A.length + 1 + B.length : Nat) : Int)) (k : J () (arr H0 b sp (A ++ y :: (B ++ x :: D)))) :
 dr (arr H0 b sp L) fun Hs => ixa s lo fun p => ixa s hi fun q =>
  (LDX (arr H0 b sp L) (p.1, p.2 + lo.toNat * 2) fun u => Heap.le Hs (arr H0 b sp L) ∧ LDX (arr H0 b sp L) (q.1, q.2 + hi.toNat * 2) fun v => Heap.le Hs (arr H0 b sp L) ∧
   ixa s hi fun p27 => stT (p27.1, p27.2 + hi.toNat * 2) (cE u)  (fun H33 => Heap.le Hs H33 ∧ ixa s lo fun p34 => stT (p34.1, p34.2 + lo.toNat * 2) (cE v)  (fun H39 => J () H39) H33) (arr H0 b sp L)) ∧
  (LDX (arr H0 b sp L) (q.1, q.2 + hi.toNat * 2) fun v => Heap.le Hs (arr H0 b sp L) ∧ LDX (arr H0 b sp L) (p.1, p.2 + lo.toNat * 2) fun u => Heap.le Hs (arr H0 b sp L) ∧
   ixa s hi fun p27 => stT (p27.1, p27.2 + hi.toNat * 2) (cE u)  (fun H33 => Heap.le Hs H33 ∧ ixa s lo fun p34 => stT (p34.1, p34.2 + lo.toNat * 2) (cE v)  (fun H39 => J () H39) H33) (arr H0 b sp L)) := by
 have e : L = (A ++ x :: B) ++ y :: D := by rw [hL]; simp
 have e' : (A ++ x :: B) ++ x :: D = A ++ x :: (B ++ x :: D) := by simp
 have hh : hi = (((A ++ x :: B).length : Nat) : Int) := by rw [hhi]; simp; omega
 have fin : ixa s hi fun p27 => (fun (u v : TE) => stT (p27.1, p27.2 + hi.toNat * 2) (cE u)  (fun H33 => Heap.le (fun _ => none) H33 ∧ ixa s lo fun p34 => stT (p34.1, p34.2 + lo.toNat * 2) (cE v)  (fun H39 => J () H39) H33) (arr H0 b sp L)) x.1 y.1 :=
  ixp hs hhi (by omega) (stx e hh ⟨nole _, ixp hs hlo (by omega) (stx e' hlo k)⟩)
 exact ⟨fun _ => none, nole _, ixp hs hlo (by omega) (ixp hs hhi (by omega) ⟨ldx hL hlo ⟨nole _, ldx e hh ⟨nole _, fin⟩⟩, ldx e hh ⟨nole _, ldx hL hlo ⟨nole _, fin⟩⟩⟩)⟩
/-- what compares -/
structure CmpF (C : Ctx) (R : Heap) (f : Value) (P : TE × G → Prop) (κ : TE × G → TE × G → Int) : Prop where
 ok : ∀ A : Heap, R.le A → ∀ x y, P x → P y → ∀ Φ : Value → Heap → Prop, Φ (.int .i64 (κ x y)) A → callU Tryz.prog C f [argE x.1, argE y.1] A Φ
/-- where it is sorted -/
structure Where (C : Ctx) (H0 R : Heap) (s : Sl) (b n : Nat) (f : Value) (P : TE × G → Prop) (κ : TE × G → TE × G → Int) : Prop where
 s : Sls s b n
 le : R.le H0
 rb : R b = none
 f : CmpF C R f P κ
 lin : Lin κ P
variable {f : Value} {P : TE × G → Prop} {κ : TE × G → TE × G → Int} {ι : TE × G → Nat}
theorem Where.arr (h : Where C H0 R s b n f P κ) (sp : List Value) (L : List (TE × G)) : R.le (arr H0 b sp L) := fun z e hz => by
 have : z ≠ b := fun e' => by rw [e', h.rb] at hz; cases hz
 unfold SE.arr
 rw [Heap.put_ne _ _ _ this]; exact h.le _ _ hz
theorem cmp0 {A2 D2 : List (TE × G)} {j : Int} {Ψ : Int → Heap → Prop} (h : Where C H0 R s b n f P κ) (hl : L.length = n) (h1 : L = A ++ x :: D) (hi : i = (A.length : Int)) (h2 : L = A2 ++ y :: D2) (hj : j = (A2.length : Int)) (hx : P x) (hy : P y) (k : Ψ (κ x y) (arr H0 b sp L)) :
 ixa s i fun p => LDX (arr H0 b sp L) (p.1, p.2 + i.toNat * 2) fun u => ixa s j fun q => LDX (arr H0 b sp L) (q.1, q.2 + j.toNat * 2) fun v =>
  callU Tryz.prog C f [argE u, argE v] (arr H0 b sp L) (fun v H => ∃ r : Int, v = .int .i64 r ∧ Heap.le (arr H0 b sp L) H ∧ Ψ r H) := by
 have l1 : A.length < n := by rw [← hl, h1]; simp
 have l2 : A2.length < n := by rw [← hl, h2]; simp
 exact ixp h.s hi l1 (ldx h1 hi (ixp h.s hj l2 (ldx h2 hj (h.f.ok _ (h.arr sp L) x y hx hy _ ⟨_, rfl, Heap.le.refl _, k⟩))))
theorem ins_ok {X : List (TE × G)} {a e : Int} {K : Heap → Prop} (h : Where C H0 R s b n f P κ) (ha : a = (A.length : Int)) (he : e = ((A.length + X.length : Nat) : Int)) (hn : A.length + X.length + D.length = n) (hP : ∀ x ∈ X, P x) (hι : X.Pairwise fun x y => ι x < ι y)
 (k : ∀ Z : List (TE × G), Z.Perm X → Z.Pairwise (Bf κ ι) → K (arr H0 b sp (A ++ Z ++ D))) : c_slices_insertionSortCmpFunc_zset_Entry C s a e f K (arr H0 b sp (A ++ X ++ D)) := by
 have hsm := h.s.small
 subst ha; subst he
 apply ad_slices_insertionSortCmpFunc_zset_Entry
 unfold sh_slices_insertionSortCmpFunc_zset_Entry
 rw [w_i64 (by omega) (by omega)]
 by_cases hX : X = []
 ·subst hX
  refine ⟨fun x B => x = (A.length : Int) + 1 ∧ B = arr H0 b sp (A ++ [] ++ D), fun _ _ => 0, ⟨rfl, rfl⟩, ?_⟩
  rintro x B ⟨rfl, rfl⟩
  exact ift_neg (decide_eq_false (by simp; omega)) (k [] (.refl _) .nil)
 obtain ⟨x0, X', rfl⟩ := List.exists_cons_of_ne_nil hX
 refine ⟨fun x B => ∃ Z Y0 Y : List (TE × G), x0 :: X' = Y0 ++ Y ∧ Z.Perm Y0 ∧ Z.Pairwise (Bf κ ι) ∧ 1 ≤ Z.length ∧ x = ((A.length + Z.length : Nat) : Int) ∧ B = arr H0 b sp (A ++ Z ++ Y ++ D), fun x _ => A.length + (x0 :: X').length - x.toNat,
  ⟨[x0], [x0], X', rfl, .refl _, List.pairwise_singleton _ _, by simp, by simp, by simp⟩, ?_⟩
 rintro x B ⟨Z, Y0, Y, hX, hp, hz, h1, rfl, rfl⟩
 have hpl := hp.length_eq
 have hxl : (x0 :: X').length = Y0.length + Y.length := by rw [hX, List.length_append]
 have hιY : Y0.Pairwise (fun x y => ι x < ι y) ∧ Y.Pairwise (fun x y => ι x < ι y) ∧ ∀ x ∈ Y0, ∀ y ∈ Y, ι x < ι y := by rw [hX] at hι; exact List.pairwise_append.1 hι
 refine ift.of (fun hc => ?_) (fun hc => ?_)
 ·have hc := of_decide_eq_true hc
  cases Y with
  | nil => simp only [List.length_nil] at hxl; omega
  | cons y Y' =>
  have hPZ : ∀ z ∈ Z, P z := fun z hz => hP z (by rw [hX]; exact List.mem_append_left _ (hp.mem_iff.1 hz))
  have hPy : P y := hP y (by rw [hX]; simp)
  have hιz : ∀ z ∈ Z, ι z < ι y := fun z hz => hιY.2.2 z (hp.mem_iff.1 hz) y (List.mem_cons_self ..)
  refine ⟨fun j B => ∃ Z1 Z2 : List (TE × G), Z = Z1 ++ Z2 ∧ (∀ z ∈ Z2, κ y z < 0) ∧ j = ((A.length + Z1.length : Nat) : Int) ∧ B = arr H0 b sp (A ++ Z1 ++ y :: (Z2 ++ Y' ++ D)), fun j _ => j.toNat,
   ⟨Z, [], by simp, fun z hz => (by cases hz), rfl, by simp⟩, ?_⟩
  rintro j B ⟨Z1, Z2, hZ, hy2, rfl, rfl⟩
  have hZl : Z.length = Z1.length + Z2.length := by rw [hZ, List.length_append]
  simp only [List.length_cons] at hxl hn
  refine ⟨fun c B => B = arr H0 b sp (A ++ Z1 ++ y :: (Z2 ++ Y' ++ D)) ∧ (c = true → ∃ Z1' z, Z1 = Z1' ++ [z] ∧ κ y z < 0) ∧ (c = false → Z1 = [] ∨ ∃ Z1' z, Z1 = Z1' ++ [z] ∧ ¬ κ y z < 0), ⟨_, Heap.le.refl _, ift.of (fun hj => ?_) (fun hj => ?_)⟩, ?_⟩
  ·have hj := of_decide_eq_true hj
   have hne : Z1 ≠ [] := fun e => by subst e; simp at hj
   obtain ⟨Z1', z, rfl⟩ := snoc_of hne
   have hzl1 : (Z1' ++ [z]).length = Z1'.length + 1 := by simp
   rw [hzl1] at hZl
   have ew : w .i64 (((A.length + (Z1' ++ [z]).length : Nat) : Int) - 1) = ((A.length + Z1'.length : Nat) : Int) := by
    rw [hzl1, w_i64 (by omega) (by omega)]; omega
   rw [ew]
   refine cmp0 h ?_ (A := A ++ (Z1' ++ [z])) (x := y) (D := Z2 ++ Y' ++ D) rfl (by simp) (A2 := A ++ Z1') (y := z) (D2 := y :: (Z2 ++ Y' ++ D)) (by simp) (by simp) hPy (hPZ z (by rw [hZ]; simp)) ⟨rfl, fun hd => ⟨_, _, rfl, of_decide_eq_true hd⟩, fun hd => .inr ⟨_, _, rfl, of_decide_eq_false hd⟩⟩
   simp only [List.length_append, List.length_cons, List.length_nil] at hZl ⊢
   omega
  ·have hj := of_decide_eq_false hj
   have hz1 : Z1 = [] := List.length_eq_zero_iff.1 (by omega)
   exact ⟨rfl, fun hd => (by cases hd), fun _ => .inl hz1⟩
  ·rintro c B ⟨rfl, ht, hff⟩
   refine ift.of (fun hc => ?_) (fun hc => ?_)
   ·obtain ⟨Z1', z, rfl, hlt⟩ := ht hc
    have hzl1 : (Z1' ++ [z]).length = Z1'.length + 1 := by simp
    rw [hzl1] at hZl
    have ew : w .i64 (((A.length + (Z1' ++ [z]).length : Nat) : Int) - 1) = ((A.length + Z1'.length : Nat) : Int) := by
     rw [hzl1, w_i64 (by omega) (by omega)]; omega
    rw [ew]
    refine ⟨fun _ B => B = arr H0 b sp ((A ++ Z1') ++ y :: ([] ++ z :: (Z2 ++ Y' ++ D))), ?_, ?_⟩
    ·show dr _ _
     refine swp2 (J := fun _ B => B = arr H0 b sp ((A ++ Z1') ++ y :: ([] ++ z :: (Z2 ++ Y' ++ D)))) h.s (A := A ++ Z1') (x := z) (B := []) (y := y) (D := Z2 ++ Y' ++ D) ?_ ?_ ?_ ?_ ?_
     ·simp only [List.length_append, List.length_nil]; omega
     ·simp
     ·simp
     ·simp; omega
     ·rfl
    rintro _ B rfl
    refine ⟨⟨Z1', z :: Z2, by rw [hZ]; simp, fun u hu => ?_, rfl, by simp⟩, ?_⟩
    ·rcases List.mem_cons.1 hu with rfl | hu
     ·exact hlt
     ·exact hy2 u hu
    ·simp only [List.length_append, List.length_singleton]; omega
   ·rw [w_i64 (by omega) (by omega)]
    have hz' : (Z1 ++ Z2).Pairwise (Bf κ ι) := hZ ▸ hz
    refine ⟨⟨Z1 ++ y :: Z2, Y0 ++ [y], Y', by rw [hX]; simp, ?_, ?_, by simp; omega, by simp; omega, by simp⟩, by simp only [List.length_cons]; omega⟩
    ·have : (Z1 ++ y :: Z2).Perm (y :: (Z1 ++ Z2)) := List.perm_middle
     refine this.trans ?_
     rw [← hZ]
     exact (List.Perm.cons y hp).trans (List.perm_append_comm (l₁ := [y]))
    ·refine ins2 h.lin hz' hPy (fun x hx => hPZ x (by rw [hZ]; exact hx)) ?_ hy2 (fun x hx => hιz x (by rw [hZ]; exact hx))
     rcases hff hc with rfl | ⟨Z1', z, rfl, hnl⟩
     ·intro x hx; cases hx
     ·intro x hx
      rcases List.mem_append.1 hx with hx | hx
      ·have hm1 : x ∈ Z := by rw [hZ]; simp [hx]
       have hm2 : z ∈ Z := by rw [hZ]; simp
       have hb : Bf κ ι x z := (List.pairwise_append.1 (List.pairwise_append.1 hz').1).2.2 x hx z (List.mem_singleton.2 rfl)
       have a1 := h.lin.anti y z hPy (hPZ z hm2)
       have a2 := h.lin.anti y x hPy (hPZ x hm1)
       have := (h.lin.tr x z y (hPZ x hm1) (hPZ z hm2) hPy hb.le (by omega)).1
       omega
      ·rw [List.mem_singleton.1 hx]; exact hnl
 ·have hc := of_decide_eq_false hc
  simp only [List.length_cons] at hxl hc
  have hY : Y = [] := List.length_eq_zero_iff.1 (by omega)
  subst hY
  rw [List.append_nil] at hX ⊢
  exact k Z (hX ▸ hp) hz
theorem swap_ok {X M Y : List (TE × G)} {a c m : Int} {K : Heap → Prop} (h : Sls s b n) (hn : A.length + X.length + M.length + Y.length + D.length = n) (hxy : X.length = Y.length) (ha : a = (A.length : Int)) (hc : c = ((A.length + X.length + M.length : Nat) : Int)) (hm : m = (X.length : Int))
 (k : K (arr H0 b sp (A ++ Y ++ M ++ X ++ D))) : c_slices_swapRangeCmpFunc_zset_Entry C s a c m f K (arr H0 b sp (A ++ X ++ M ++ Y ++ D)) := by
 have hsm := h.small
 subst ha; subst hc; subst hm
 apply ad_slices_swapRangeCmpFunc_zset_Entry
 unfold sh_slices_swapRangeCmpFunc_zset_Entry
 refine ⟨fun x B => ∃ i : Nat, x = (i : Int) ∧ i ≤ X.length ∧ B = arr H0 b sp (A ++ (Y.take i ++ X.drop i) ++ M ++ (X.take i ++ Y.drop i) ++ D), fun x _ => X.length - x.toNat, ⟨0, rfl, Nat.zero_le _, by simp⟩, ?_⟩
 rintro x B ⟨i, rfl, hi, rfl⟩
 refine ift.of (fun hlt => ?_) (fun hlt => ?_)
 ·have hlt : i < X.length := by have := of_decide_eq_true hlt; omega
  have hlt2 : i < Y.length := by omega
  have w1 : w .i64 (((A.length + X.length + M.length : Nat) : Int) + (i : Int)) = ((A.length + X.length + M.length + i : Nat) : Int) := by rw [w_i64 (by omega) (by omega)]; omega
  have w2 : w .i64 ((A.length : Int) + (i : Int)) = ((A.length + i : Nat) : Int) := by rw [w_i64 (by omega) (by omega)]; omega
  rw [w1, w2]
  have dx := List.drop_eq_getElem_cons hlt
  have dy := List.drop_eq_getElem_cons hlt2
  have tx : X.take (i + 1) = X.take i ++ [X[i]] := by rw [List.take_add_one, List.getElem?_eq_getElem hlt]; rfl
  have ty : Y.take (i + 1) = Y.take i ++ [Y[i]] := by rw [List.take_add_one, List.getElem?_eq_getElem hlt2]; rfl
  have l1 : (Y.take i).length = i := by rw [List.length_take]; omega
  have l2 : (X.take i).length = i := by rw [List.length_take]; omega
  have l3 : (X.drop (i + 1)).length = X.length - (i + 1) := List.length_drop ..
  have l4 : (Y.drop (i + 1)).length = Y.length - (i + 1) := List.length_drop ..
  refine ⟨fun _ B => B = arr H0 b sp ((A ++ Y.take i) ++ Y[i] :: ((X.drop (i + 1) ++ M ++ X.take i) ++ X[i] :: (Y.drop (i + 1) ++ D))), ?_, ?_⟩
  ·show dr _ _
   refine swp1 (J := fun _ B => B = arr H0 b sp ((A ++ Y.take i) ++ Y[i] :: ((X.drop (i + 1) ++ M ++ X.take i) ++ X[i] :: (Y.drop (i + 1) ++ D)))) h (A := A ++ Y.take i) (x := X[i]) (y := Y[i]) (B := X.drop (i + 1) ++ M ++ X.take i) (D := Y.drop (i + 1) ++ D) ?_ ?_ ?_ ?_ rfl
   ·simp only [List.length_append, l1, l2, l3]; omega
   ·rw [dx, dy]; simp only [List.append_assoc, List.cons_append]
   ·simp only [List.length_append, l1]
   ·simp only [List.length_append, l1, l2, l3]; omega
  rintro _ B rfl
  rw [w_i64 (by omega) (by omega)]
  refine ⟨⟨i + 1, by omega, by omega, ?_⟩, by first | omega | (dsimp only; omega)⟩
  rw [tx, ty]; simp only [List.append_assoc, List.cons_append, List.nil_append, List.singleton_append]
 ·have hie : i = X.length := by have := of_decide_eq_false hlt; omega
  subst hie
  rw [List.take_length, List.drop_length, hxy, List.take_length, List.drop_length, List.append_nil, List.append_nil]
  exact k
theorem rot_ok {X Y : List (TE × G)} {a m e : Int} {K : Heap → Prop} (h : Sls s b n) (hn : A.length + X.length + Y.length + D.length = n) (hX : X ≠ []) (hY : Y ≠ []) (ha : a = (A.length : Int)) (hm : m = ((A.length + X.length : Nat) : Int)) (he : e = ((A.length + X.length + Y.length : Nat) : Int))
 (k : K (arr H0 b sp (A ++ Y ++ X ++ D))) : c_slices_rotateCmpFunc_zset_Entry C s a m e f K (arr H0 b sp (A ++ X ++ Y ++ D)) := by
 have hsm := h.small
 have px : 0 < X.length := List.length_pos_iff.2 hX
 have py : 0 < Y.length := List.length_pos_iff.2 hY
 subst ha; subst hm; subst he
 apply ad_slices_rotateCmpFunc_zset_Entry
 unfold sh_slices_rotateCmpFunc_zset_Entry
 have w1 : w .i64 (((A.length + X.length : Nat) : Int) - (A.length : Int)) = ((X.length : Nat) : Int) := by rw [w_i64 (by omega) (by omega)]; omega
 have w2 : w .i64 (((A.length + X.length + Y.length : Nat) : Int) - ((A.length + X.length : Nat) : Int)) = ((Y.length : Nat) : Int) := by rw [w_i64 (by omega) (by omega)]; omega
 rw [w1, w2]
 refine ⟨fun x B => ∃ P U V S : List (TE × G), x = (((U.length : Nat) : Int), ((V.length : Nat) : Int)) ∧ B = arr H0 b sp (P ++ U ++ V ++ S) ∧ A ++ Y ++ X ++ D = P ++ V ++ U ++ S ∧ P.length + U.length = A.length + X.length ∧ P.length + U.length + V.length + S.length = n ∧ 0 < U.length ∧ 0 < V.length,
  fun x _ => x.1.toNat + x.2.toNat, ⟨A, X, Y, D, rfl, rfl, rfl, rfl, by omega, px, py⟩, ?_⟩
 rintro x B ⟨P, U, V, S, rfl, rfl, hT, hl, hl2, pu, pv⟩
 have w3 : w .i64 (((A.length + X.length : Nat) : Int) - ((U.length : Nat) : Int)) = ((P.length : Nat) : Int) := by rw [w_i64 (by omega) (by omega)]; omega
 dsimp only
 rw [w3]
 refine ift.of (fun hne => ?_) (fun heq => ?_)
 ·have hne : U.length ≠ V.length := fun e => by rw [e] at hne; simp at hne
  refine ift.of (fun hgt => ?_) (fun hgt => ?_)
  ·have hgt : V.length < U.length := by have := of_decide_eq_true hgt; omega
   -- U = U1 ++ U2
   have hU : U = U.take V.length ++ U.drop V.length := (List.take_append_drop ..).symm
   have l1 : (U.take V.length).length = V.length := by rw [List.length_take]; omega
   have l2 : (U.drop V.length).length = U.length - V.length := List.length_drop ..
   generalize U.take V.length = U1 at *
   generalize U.drop V.length = U2 at *
   subst hU
   simp only [List.length_append] at hl hl2 pu hne hgt
   have e0 : P ++ (U1 ++ U2) ++ V ++ S = P ++ U1 ++ U2 ++ V ++ S := by simp only [List.append_assoc]
   rw [e0]
   refine swap_ok h (A := P) (X := U1) (M := U2) (Y := V) (D := S) (by omega) (by omega) rfl (by omega) (by omega) ?_
   rw [w_i64 (by simp only [List.length_append]; omega) (by simp only [List.length_append]; omega)]
   refine ⟨⟨P ++ V, U2, U1, S, ?_, by simp only [List.append_assoc], by rw [hT]; simp only [List.append_assoc], by simp only [List.length_append]; omega, by simp only [List.length_append]; omega, by omega, by omega⟩, ?_⟩
   ·simp only [List.length_append, Prod.mk.injEq]; omega
   ·simp only [List.length_append]; omega
  ·have hgt : U.length < V.length := by have := of_decide_eq_false hgt; omega
   have hV : V = V.take (V.length - U.length) ++ V.drop (V.length - U.length) := (List.take_append_drop ..).symm
   have l1 : (V.take (V.length - U.length)).length = V.length - U.length := by rw [List.length_take]; omega
   have l2 : (V.drop (V.length - U.length)).length = U.length := by rw [List.length_drop]; omega
   have w4 : w .i64 (w .i64 (((A.length + X.length : Nat) : Int) + ((V.length : Nat) : Int)) - ((U.length : Nat) : Int)) = ((P.length + U.length + (V.length - U.length) : Nat) : Int) := by
    rw [w_i64 (x := ((A.length + X.length : Nat) : Int) + ((V.length : Nat) : Int)) (by omega) (by omega), w_i64 (by omega) (by omega)]; omega
   rw [w4]
   generalize V.take (V.length - U.length) = V1 at *
   generalize V.drop (V.length - U.length) = V2 at *
   have l3 : V.length = V1.length + V2.length := by omega
   have e0 : P ++ U ++ V ++ S = P ++ U ++ V1 ++ V2 ++ S := by rw [hV]; simp only [List.append_assoc]
   rw [e0]
   refine swap_ok h (A := P) (X := U) (M := V1) (Y := V2) (D := S) (by omega) (by omega) rfl (by omega) rfl ?_
   rw [w_i64 (by omega) (by omega)]
   refine ⟨⟨P, V2, V1, U ++ S, ?_, by simp only [List.append_assoc], by rw [hT, hV]; simp only [List.append_assoc], by omega, by simp only [List.length_append]; omega, by omega, by omega⟩, ?_⟩
   ·simp only [Prod.mk.injEq]; omega
   ·first | omega | (dsimp only; omega)
 ·have heq : U.length = V.length := by
   have : ((U.length : Nat) : Int) = ((V.length : Nat) : Int) := by simpa using heq
   omega
  have e0 : P ++ U ++ V ++ S = P ++ U ++ [] ++ V ++ S := by simp only [List.append_assoc, List.nil_append]
  rw [e0]
  refine swap_ok h (A := P) (X := U) (M := []) (Y := V) (D := S) (by simp only [List.length_nil]; omega) heq rfl (by simp only [List.length_nil]; omega) rfl ?_
  rw [hT] at k
  simpa only [List.append_assoc, List.nil_append] using k
theorem pr {a b c d : Int} (h1 : a = c) (h2 : b = d) : (a, b) = (c, d) := by rw [h1, h2]
theorem idx_ok {a f x c : Nat} (hc : c < f) (h1 : a + x ≤ 281474976710656) (h2 : f ≤ 281474976710656) : w .i64 (((a + f + (a + x) - 1 : Nat) : Int) - ((a + c : Nat) : Int)) = ((a + x + (f - 1 - c) : Nat) : Int) := by
 have e1 : a + f + (a + x) - 1 = a + x + (f - 1 - c) + (a + c) := by omega
 rw [e1, w_i64 (by omega) (by omega)]; omega
/-- what is found by halving -/
theorem sym_key (h : Where C H0 R s b n f P κ) : ∀ (N : Nat) {X Y A D : List (TE × G)} {a m e : Int} {K : Heap → Prop}, X.length + Y.length ≤ N → X ≠ [] → Y ≠ [] → a = (A.length : Int) → m = ((A.length + X.length : Nat) : Int) → e = ((A.length + X.length + Y.length : Nat) : Int) → A.length + X.length + Y.length + D.length = n →
 (∀ x ∈ X ++ Y, P x) → X.Pairwise (Bf κ ι) → Y.Pairwise (Bf κ ι) → (∀ x ∈ X, ∀ y ∈ Y, ι x < ι y) → (∀ Z : List (TE × G), Z.Perm (X ++ Y) → Z.Pairwise (Bf κ ι) → K (arr H0 b sp (A ++ Z ++ D))) → c_slices_symMergeCmpFunc_zset_Entry C s a m e f K (arr H0 b sp (A ++ X ++ Y ++ D)) := by
 have hsm := h.s.small
 intro N
 induction N with
 | zero => intro X Y A D a m e K hN hX; have := List.length_pos_iff.2 hX; omega
 | succ N ih =>
 intro X Y A D a m e K hN hX hY ha hm he hn hP sX sY hι k
 have px : 0 < X.length := List.length_pos_iff.2 hX
 have py : 0 < Y.length := List.length_pos_iff.2 hY
 have hPX : ∀ x ∈ X, P x := fun x hx => hP x (List.mem_append_left _ hx)
 have hPY : ∀ y ∈ Y, P y := fun y hy => hP y (List.mem_append_right _ hy)
 subst ha; subst hm; subst he
 apply ad_slices_symMergeCmpFunc_zset_Entry
 unfold sh_slices_symMergeCmpFunc_zset_Entry
 have w1 : w .i64 (((A.length + X.length : Nat) : Int) - (A.length : Int)) = ((X.length : Nat) : Int) := by rw [w_i64 (by omega) (by omega)]; omega
 have w2 : w .i64 (((A.length + X.length + Y.length : Nat) : Int) - ((A.length + X.length : Nat) : Int)) = ((Y.length : Nat) : Int) := by rw [w_i64 (by omega) (by omega)]; omega
 rw [w1, w2]
 refine ift.of (fun hone => ?_) (fun hone => ?_)
 ·-- one ahead of many
  have hx1 : X.length = 1 := by
   have : ((X.length : Nat) : Int) = 1 := by simpa using hone
   omega
  obtain ⟨x, rfl⟩ := List.length_eq_one_iff.1 hx1
  have hPx : P x := hPX x (List.mem_cons_self ..)
  refine ⟨fun y B => B = arr H0 b sp (A ++ [x] ++ Y ++ D) ∧ ∃ i j : Nat, y = (((A.length + 1 + i : Nat) : Int), ((A.length + 1 + j : Nat) : Int)) ∧ i ≤ j ∧ j ≤ Y.length ∧ (∀ y ∈ Y.take i, κ y x < 0) ∧ (∀ y ∈ Y.drop j, ¬ κ y x < 0), fun y _ => (y.2 - y.1).toNat,
   ⟨rfl, 0, Y.length, by simp, Nat.zero_le _, Nat.le_refl _, fun y hy => by simp at hy, fun y hy => by simp at hy⟩, ?_⟩
  rintro _ B ⟨rfl, i, j, rfl, hij, hj, hlo, hhi⟩
  dsimp only
  refine ift.of (fun hlt => ?_) (fun hlt => ?_)
  ·have hlt : i < j := by have := of_decide_eq_true hlt; omega
   rw [half_ok (by omega)]
   have hh : (A.length + 1 + i + (A.length + 1 + j)) / 2 = A.length + 1 + (i + j) / 2 := by omega
   rw [hh]
   have hc1 : i ≤ (i + j) / 2 := by omega
   have hc2 : (i + j) / 2 < j := by omega
   generalize (i + j) / 2 = c at *
   have hcl : c < Y.length := by omega
   have hPc := hPY _ (List.getElem_mem hcl)
   have hpm := pw_mid sY hcl
   have eY := eq_mid hcl
   have lt : (Y.take c).length = c := by rw [List.length_take]; omega
   refine ⟨_, Heap.le.refl _, ?_⟩
   refine cmp0 h (by simp only [List.length_append]; omega) (A := A ++ [x] ++ Y.take c) (x := Y[c]) (D := Y.drop (c + 1) ++ D) ?_ ?_ (A2 := A) (y := x) (D2 := Y ++ D) (by simp) rfl hPc hPx ?_
   ·conv => lhs; rw [eY]
    simp only [List.append_assoc, List.cons_append]
   ·simp only [List.length_append, List.length_singleton, lt]
   refine ift.of (fun hd => ?_) (fun hd => ?_)
   ·have hd := of_decide_eq_true hd
    rw [w_i64 (by omega) (by omega)]
    refine ⟨⟨rfl, c + 1, j, pr (by omega) (by omega), by omega, hj, fun y hy => ?_, hhi⟩, by first | omega | (dsimp only; omega)⟩
    rw [List.take_add_one, List.getElem?_eq_getElem hcl, Option.toList_some] at hy
    rcases List.mem_append.1 hy with hy | hy
    ·exact (h.lin.tr y Y[c] x (hPY y (mem_take hy)) hPc hPx (hpm.1 y hy).le (by omega)).2 (.inr hd)
    ·rw [List.mem_singleton.1 hy]; exact hd
   ·have hd := of_decide_eq_false hd
    refine ⟨⟨rfl, i, c, rfl, hc1, by omega, hlo, fun y hy => ?_⟩, by first | omega | (dsimp only; omega)⟩
    rw [List.drop_eq_getElem_cons hcl] at hy
    rcases List.mem_cons.1 hy with rfl | hy
    ·exact hd
    ·intro hyx
     have hb := (hpm.2 y hy).le
     exact hd ((h.lin.tr Y[c] y x hPc (hPY y (mem_drop hy)) hPx hb (by omega)).2 (.inr hyx))
  ·have hij : i = j := by have := of_decide_eq_false hlt; omega
   subst hij
   have w3 : w .i64 (((A.length + 1 + i : Nat) : Int) - 1) = ((A.length + i : Nat) : Int) := by rw [w_i64 (by omega) (by omega)]; omega
   have hY12 : Y = Y.take i ++ Y.drop i := (List.take_append_drop ..).symm
   have l1 : (Y.take i).length = i := by rw [List.length_take]; omega
   have l2 : (Y.drop i).length = Y.length - i := List.length_drop ..
   have fin : K (arr H0 b sp (A ++ (Y.take i ++ x :: Y.drop i) ++ D)) := by
    refine k _ ?_ (ins1 h.lin (by rw [← hY12]; exact sY) hPx (by rw [← hY12]; exact hPY) hlo hhi (by rw [← hY12]; exact fun y hy => hι x (List.mem_cons_self ..) y hy))
    have p1 : (Y.take i ++ x :: Y.drop i).Perm (x :: (Y.take i ++ Y.drop i)) := List.perm_middle
    rw [← hY12] at p1
    exact p1
   generalize Y.take i = Y1 at *
   generalize Y.drop i = Y2 at *
   subst hY12
   rw [w3]
   refine ⟨fun y B => ∃ U V : List (TE × G), Y1 = U ++ V ∧ y = ((A.length + U.length : Nat) : Int) ∧ B = arr H0 b sp (A ++ U ++ x :: (V ++ Y2 ++ D)), fun y _ => A.length + i - y.toNat, ⟨[], Y1, rfl, by simp, by simp only [List.append_assoc, List.cons_append, List.nil_append, List.append_nil, List.singleton_append]⟩, ?_⟩
   rintro y B ⟨U, V, rfl, rfl, rfl⟩
   simp only [List.length_append] at l1 hn hj
   refine ift.of (fun hlt => ?_) (fun hlt => ?_)
   ·have hlt := of_decide_eq_true hlt
    cases V with
    | nil => simp only [List.length_nil] at l1; omega
    | cons v V =>
    simp only [List.length_cons] at l1 hn
    have w4 : w .i64 (((A.length + U.length : Nat) : Int) + 1) = ((A.length + U.length + 1 : Nat) : Int) := by rw [w_i64 (by omega) (by omega)]; omega
    rw [w4]
    refine ⟨fun _ B => B = arr H0 b sp ((A ++ U) ++ v :: ([] ++ x :: (V ++ Y2 ++ D))), ?_, ?_⟩
    ·show dr _ _
     refine swp1 (J := fun _ B => B = arr H0 b sp ((A ++ U) ++ v :: ([] ++ x :: (V ++ Y2 ++ D)))) h.s (A := A ++ U) (x := x) (B := []) (y := v) (D := V ++ Y2 ++ D) ?_ ?_ ?_ ?_ rfl
     ·first | (simp only [List.length_append, List.length_nil]; done) | (simp only [List.length_append, List.length_nil]; omega)
     ·simp only [List.append_assoc, List.cons_append, List.nil_append]
     ·simp only [List.length_append]
     ·first | (simp only [List.length_append, List.length_nil]; done) | (simp only [List.length_append, List.length_nil]; omega)
    rintro _ B rfl
    refine ⟨⟨U ++ [v], V, by simp, by simp only [List.length_append, List.length_singleton]; omega, by simp only [List.append_assoc, List.cons_append, List.nil_append, List.singleton_append]⟩, by first | omega | (dsimp only; omega)⟩
   ·have hlt := of_decide_eq_false hlt
    have hV : V = [] := List.length_eq_zero_iff.1 (by omega)
    subst hV
    simpa only [List.append_assoc, List.cons_append, List.nil_append, List.append_nil] using fin
 refine ift.of (fun hone2 => ?_) (fun hone2 => ?_)
 ·-- many ahead of one
  have hy1 : Y.length = 1 := by
   have : ((Y.length : Nat) : Int) = 1 := by simpa using hone2
   omega
  obtain ⟨y, rfl⟩ := List.length_eq_one_iff.1 hy1
  have hPy : P y := hPY y (List.mem_cons_self ..)
  refine ⟨fun z B => B = arr H0 b sp (A ++ X ++ [y] ++ D) ∧ ∃ i j : Nat, z = (((A.length + i : Nat) : Int), ((A.length + j : Nat) : Int)) ∧ i ≤ j ∧ j ≤ X.length ∧ (∀ x ∈ X.take i, ¬ κ y x < 0) ∧ (∀ x ∈ X.drop j, κ y x < 0), fun z _ => (z.2 - z.1).toNat,
   ⟨rfl, 0, X.length, by simp, Nat.zero_le _, Nat.le_refl _, fun y hy => by simp at hy, fun y hy => by simp at hy⟩, ?_⟩
  rintro _ B ⟨rfl, i, j, rfl, hij, hj, hlo, hhi⟩
  dsimp only
  refine ift.of (fun hlt => ?_) (fun hlt => ?_)
  ·have hlt : i < j := by have := of_decide_eq_true hlt; omega
   rw [half_ok (by omega)]
   have hh : (A.length + i + (A.length + j)) / 2 = A.length + (i + j) / 2 := by omega
   rw [hh]
   have hc1 : i ≤ (i + j) / 2 := by omega
   have hc2 : (i + j) / 2 < j := by omega
   generalize (i + j) / 2 = c at *
   have hcl : c < X.length := by omega
   have hPc := hPX _ (List.getElem_mem hcl)
   have hpm := pw_mid sX hcl
   have eX := eq_mid hcl
   have lt : (X.take c).length = c := by rw [List.length_take]; omega
   refine ⟨_, Heap.le.refl _, ?_⟩
   refine cmp0 h (by simp only [List.length_append]; omega) (A := A ++ X) (x := y) (D := D) (by simp) (by simp) (A2 := A ++ X.take c) (y := X[c]) (D2 := X.drop (c + 1) ++ [y] ++ D) ?_ ?_ hPy hPc ?_
   ·conv => lhs; rw [eX]
    simp only [List.append_assoc, List.cons_append]
   ·simp only [List.length_append, lt]
   refine ift.of (fun hd => ?_) (fun hd => ?_)
   ·have hd : ¬ κ y X[c] < 0 := by simpa using hd
    rw [w_i64 (by omega) (by omega)]
    refine ⟨⟨rfl, c + 1, j, pr (by omega) (by omega), by omega, hj, fun x hx => ?_, hhi⟩, by first | omega | (dsimp only; omega)⟩
    rw [List.take_add_one, List.getElem?_eq_getElem hcl, Option.toList_some] at hx
    rcases List.mem_append.1 hx with hx | hx
    ·intro hyx
     exact hd ((h.lin.tr y x X[c] hPy (hPX x (mem_take hx)) hPc (by omega) (hpm.1 x hx).le).2 (.inl hyx))
    ·rw [List.mem_singleton.1 hx]; exact hd
   ·have hd : κ y X[c] < 0 := by simpa using hd
    refine ⟨⟨rfl, i, c, rfl, hc1, by omega, hlo, fun x hx => ?_⟩, by first | omega | (dsimp only; omega)⟩
    rw [List.drop_eq_getElem_cons hcl] at hx
    rcases List.mem_cons.1 hx with rfl | hx
    ·exact hd
    ·exact (h.lin.tr y X[c] x hPy hPc (hPX x (mem_drop hx)) (by omega) (hpm.2 x hx).le).2 (.inl hd)
  ·have hij : i = j := by have := of_decide_eq_false hlt; omega
   subst hij
   have hX12 : X = X.take i ++ X.drop i := (List.take_append_drop ..).symm
   have l1 : (X.take i).length = i := by rw [List.length_take]; omega
   have fin : K (arr H0 b sp (A ++ (X.take i ++ y :: X.drop i) ++ D)) := by
    refine k _ ?_ (ins2 h.lin (by rw [← hX12]; exact sX) hPy (by rw [← hX12]; exact hPX) hlo hhi (by rw [← hX12]; exact fun x hx => hι x hx y (List.mem_cons_self ..)))
    have p1 : (X.take i ++ y :: X.drop i).Perm (y :: (X.take i ++ X.drop i)) := List.perm_middle
    rw [← hX12] at p1
    exact p1.trans (List.perm_append_comm (l₁ := [y]))
   generalize X.take i = X1 at *
   generalize X.drop i = X2 at *
   subst hX12
   refine ⟨fun z B => ∃ U V : List (TE × G), X2 = U ++ V ∧ z = ((A.length + i + U.length : Nat) : Int) ∧ B = arr H0 b sp (A ++ X1 ++ U ++ y :: (V ++ D)), fun z _ => z.toNat, ⟨X2, [], by simp, by simp only [List.length_append]; omega, by simp only [List.append_assoc, List.cons_append, List.nil_append, List.append_nil, List.singleton_append]⟩, ?_⟩
   rintro z B ⟨U, V, rfl, rfl, rfl⟩
   simp only [List.length_append, List.length_singleton] at l1 hn hj
   refine ift.of (fun hlt => ?_) (fun hlt => ?_)
   ·have hlt := of_decide_eq_true hlt
    have hne : U ≠ [] := fun e => by subst e; simp at hlt
    obtain ⟨U', u, rfl⟩ := snoc_of hne
    simp only [List.length_append, List.length_singleton] at hn hlt ⊢
    have w4 : w .i64 (((A.length + i + (U'.length + 1) : Nat) : Int) - 1) = ((A.length + i + U'.length : Nat) : Int) := by rw [w_i64 (by omega) (by omega)]; omega
    rw [w4]
    refine ⟨fun _ B => B = arr H0 b sp ((A ++ X1 ++ U') ++ y :: ([] ++ u :: (V ++ D))), ?_, ?_⟩
    ·show dr _ _
     refine swp2 (J := fun _ B => B = arr H0 b sp ((A ++ X1 ++ U') ++ y :: ([] ++ u :: (V ++ D)))) h.s (A := A ++ X1 ++ U') (x := u) (B := []) (y := y) (D := V ++ D) ?_ ?_ ?_ ?_ rfl
     ·first | (simp only [List.length_append, List.length_nil]; done) | (simp only [List.length_append, List.length_nil]; omega)
     ·simp only [List.append_assoc, List.cons_append, List.nil_append]
     ·simp only [List.length_append]; omega
     ·first | (simp only [List.length_append, List.length_nil]; done) | (simp only [List.length_append, List.length_nil]; omega)
    rintro _ B rfl
    refine ⟨⟨U', u :: V, by simp, rfl, by simp only [List.append_assoc, List.cons_append, List.nil_append]⟩, by first | omega | (dsimp only; omega)⟩
   ·have hlt := of_decide_eq_false hlt
    have hU : U = [] := List.length_eq_zero_iff.1 (by omega)
    subst hU
    simpa only [List.append_assoc, List.cons_append, List.nil_append, List.append_nil] using fin
 -- many and many
 have hx2 : X.length ≠ 1 := fun e => by rw [e] at hone; simp at hone
 have hy2 : Y.length ≠ 1 := fun e => by rw [e] at hone2; simp at hone2
 clear hone hone2
 have hmid : w .i64 (sShr .u64 (w .u64 (w .i64 ((A.length : Int) + ((A.length + X.length + Y.length : Nat) : Int)))) 1) = ((A.length + (X.length + Y.length) / 2 : Nat) : Int) := by
  rw [half_ok (by omega)]; omega
 rw [hmid]
 have hf1 : 2 ≤ (X.length + Y.length) / 2 := by omega
 have hf2 : 2 * ((X.length + Y.length) / 2) ≤ X.length + Y.length := by omega
 have hf3 : X.length + Y.length ≤ 2 * ((X.length + Y.length) / 2) + 1 := by omega
 generalize (X.length + Y.length) / 2 = F at *
 have wn : w .i64 (((A.length + F : Nat) : Int) + ((A.length + X.length : Nat) : Int)) = ((A.length + F + (A.length + X.length) : Nat) : Int) := by rw [w_i64 (by omega) (by omega)]; omega
 have wp : w .i64 (((A.length + F + (A.length + X.length) : Nat) : Int) - 1) = ((A.length + F + (A.length + X.length) - 1 : Nat) : Int) := by rw [w_i64 (by omega) (by omega)]; omega
 rw [wn, wp]
 have ws : w .i64 (((A.length + F + (A.length + X.length) : Nat) : Int) - ((A.length + X.length + Y.length : Nat) : Int)) = ((A.length + F : Nat) : Int) - ((Y.length : Nat) : Int) := by rw [w_i64 (by omega) (by omega)]; omega
 rw [ws]
 -- from where to where
 refine ⟨fun x B => B = arr H0 b sp (A ++ X ++ Y ++ D) ∧ ∃ lo hi : Nat, x = (((A.length + lo : Nat) : Int), ((A.length + hi : Nat) : Int)) ∧ lo ≤ hi ∧ hi ≤ X.length ∧ hi ≤ F ∧ F ≤ lo + Y.length ∧ (lo = 0 ∨ F = lo + Y.length) ∧ (hi = X.length ∨ hi = F), ift.of (fun hgt => ?_) (fun hgt => ?_), ?_⟩
 ·have hgt := of_decide_eq_true hgt
  exact ⟨rfl, F - Y.length, F, pr (by omega) (by omega), by omega, by omega, by omega, by omega, .inr (by omega), .inr rfl⟩
 ·have hgt := of_decide_eq_false hgt
  exact ⟨rfl, 0, X.length, pr (by omega) (by omega), by omega, by omega, by omega, by omega, .inl rfl, .inl rfl⟩
 rintro _ B ⟨rfl, lo, hi, rfl, hlh, hhX, hhF, hFl, hlo, hhi⟩
 have idx : ∀ c : Nat, c < X.length → c < F → F < c + 1 + Y.length → F - 1 - c < Y.length := fun c _ _ _ => by omega
 refine ⟨fun x B => B = arr H0 b sp (A ++ X ++ Y ++ D) ∧ ∃ i j : Nat, x = (((A.length + i : Nat) : Int), ((A.length + j : Nat) : Int)) ∧ lo ≤ i ∧ i ≤ j ∧ j ≤ hi ∧
  (lo < i → ∃ x y, X[i - 1]? = some x ∧ Y[F - i]? = some y ∧ ¬ κ y x < 0) ∧ (j < hi → ∃ x y, X[j]? = some x ∧ Y[F - 1 - j]? = some y ∧ κ y x < 0), fun x _ => (x.2 - x.1).toNat,
  ⟨rfl, lo, hi, rfl, Nat.le_refl _, hlh, Nat.le_refl _, fun hh => absurd hh (Nat.lt_irrefl _), fun hh => absurd hh (Nat.lt_irrefl _)⟩, ?_⟩
 rintro _ B ⟨rfl, i, j, rfl, hli, hij, hjh, hA, hB⟩
 dsimp only
 refine ift.of (fun hlt => ?_) (fun hlt => ?_)
 ·have hlt : i < j := by have := of_decide_eq_true hlt; omega
  rw [half_ok (by omega)]
  have hh : (A.length + i + (A.length + j)) / 2 = A.length + (i + j) / 2 := by omega
  rw [hh]
  have hc1 : i ≤ (i + j) / 2 := by omega
  have hc2 : (i + j) / 2 < j := by omega
  generalize (i + j) / 2 = c at *
  have hcX : c < X.length := by omega
  have hcY : F - 1 - c < Y.length := by omega
  have wq : w .i64 (((A.length + F + (A.length + X.length) - 1 : Nat) : Int) - ((A.length + c : Nat) : Int)) = ((A.length + X.length + (F - 1 - c) : Nat) : Int) := by
   have hcF : c < F := by omega
   exact idx_ok hcF (by omega) (by omega)
  rw [wq]
  have eX := eq_mid hcX
  have eY := eq_mid hcY
  have ltX : (X.take c).length = c := by rw [List.length_take]; omega
  have ltY : (Y.take (F - 1 - c)).length = F - 1 - c := by rw [List.length_take]; omega
  refine ⟨_, Heap.le.refl _, ?_⟩
  refine cmp0 h (by simp only [List.length_append]; omega) (A := A ++ X ++ Y.take (F - 1 - c)) (x := Y[F - 1 - c]) (D := Y.drop (F - 1 - c + 1) ++ D) ?_ ?_ (A2 := A ++ X.take c) (y := X[c]) (D2 := X.drop (c + 1) ++ Y ++ D) ?_ ?_ (hPY _ (List.getElem_mem hcY)) (hPX _ (List.getElem_mem hcX)) ?_
  ·conv => lhs; rw [eY]
   simp only [List.append_assoc, List.cons_append]
  ·simp only [List.length_append, ltY]
  ·conv => lhs; rw [eX]
   simp only [List.append_assoc, List.cons_append]
  ·simp only [List.length_append, ltX]
  refine ift.of (fun hd => ?_) (fun hd => ?_)
  ·have hd : ¬ κ Y[F - 1 - c] X[c] < 0 := by simpa using hd
   rw [w_i64 (by omega) (by omega)]
   refine ⟨⟨rfl, c + 1, j, pr (by omega) (by omega), by omega, by omega, hjh, fun _ => ⟨X[c], Y[F - 1 - c], List.getElem?_eq_getElem hcX, ?_, hd⟩, hB⟩, by first | omega | (dsimp only; omega)⟩
   rw [show F - (c + 1) = F - 1 - c by omega]; exact List.getElem?_eq_getElem hcY
  ·have hd : κ Y[F - 1 - c] X[c] < 0 := by simpa using hd
   exact ⟨⟨rfl, i, c, rfl, hli, hc1, by omega, hA, fun _ => ⟨X[c], Y[F - 1 - c], List.getElem?_eq_getElem hcX, List.getElem?_eq_getElem hcY, hd⟩⟩, by first | omega | (dsimp only; omega)⟩
 ·have hij : i = j := by have := of_decide_eq_false hlt; omega
  subst hij
  have we : w .i64 (((A.length + F + (A.length + X.length) : Nat) : Int) - ((A.length + i : Nat) : Int)) = ((A.length + X.length + (F - i) : Nat) : Int) := by rw [w_i64 (by omega) (by omega)]; omega
  rw [we]
  have hFi : F - i ≤ Y.length := by omega
  have spX := pw_split sX i
  have spY := pw_split sY (F - i)
  have eX : X = X.take i ++ X.drop i := (List.take_append_drop ..).symm
  have eY : Y = Y.take (F - i) ++ Y.drop (F - i) := (List.take_append_drop ..).symm
  have l1 : (X.take i).length = i := by rw [List.length_take]; omega
  have l2 : (X.drop i).length = X.length - i := List.length_drop ..
  have l3 : (Y.take (F - i)).length = F - i := by rw [List.length_take]; omega
  have l4 : (Y.drop (F - i)).length = Y.length - (F - i) := List.length_drop ..
  -- what is ahead stands ahead
  have c1 : ∀ x ∈ X.take i, ∀ y ∈ Y.drop (F - i), Bf κ ι x y := by
   intro x hx y hy
   rcases Nat.lt_or_ge lo i with hlt | hge
   ·obtain ⟨x0, y0, hx0, hy0, hn0⟩ := hA hlt
    have hx0l : i - 1 < X.length := by omega
    obtain ⟨hy0l, hy0e⟩ := List.getElem?_eq_some_iff.1 hy0
    obtain ⟨_, hx0e⟩ := List.getElem?_eq_some_iff.1 hx0
    have m1 : x0 ∈ X := hx0e ▸ List.getElem_mem hx0l
    have m2 : y0 ∈ Y := hy0e ▸ List.getElem_mem hy0l
    have a1 : κ x x0 ≤ 0 := by
     have hx' : x ∈ X.take (i - 1 + 1) := by rw [show i - 1 + 1 = i by omega]; exact hx
     rw [List.take_add_one, hx0, Option.toList_some] at hx'
     rcases List.mem_append.1 hx' with hx' | hx'
     ·have := ((pw_mid sX hx0l).1 x hx').le; rw [hx0e] at this; exact this
     ·rw [List.mem_singleton.1 hx', h.lin.refl (hPX x0 m1)]; omega
    have a2 : κ y0 y ≤ 0 := by
     rw [List.drop_eq_getElem_cons hy0l, hy0e] at hy
     rcases List.mem_cons.1 hy with rfl | hy
     ·rw [h.lin.refl (hPY y m2)]; omega
     ·have := ((pw_mid sY hy0l).2 y hy).le; rw [hy0e] at this; exact this
    have a3 := h.lin.anti y0 x0 (hPY y0 m2) (hPX x0 m1)
    have a4 := (h.lin.tr x x0 y0 (hPX x (mem_take hx)) (hPX x0 m1) (hPY y0 m2) a1 (by omega)).1
    have a5 := (h.lin.tr x y0 y (hPX x (mem_take hx)) (hPY y0 m2) (hPY y (mem_drop hy)) a4 a2).1
    exact Bf.of a5 (hι x (mem_take hx) y (mem_drop hy))
   ·rcases hlo with h0 | h0
    ·have : i = 0 := by omega
     rw [this] at hx; simp at hx
    ·have : (Y.drop (F - i)).length = 0 := by omega
     rw [List.length_eq_zero_iff.1 this] at hy; cases hy
  have c2 : ∀ y ∈ Y.take (F - i), ∀ x ∈ X.drop i, Bf κ ι y x := by
   intro y hy x hx
   rcases Nat.lt_or_ge i hi with hlt | hge
   ·obtain ⟨x0, y0, hx0, hy0, hn0⟩ := hB hlt
    obtain ⟨hy0l, hy0e⟩ := List.getElem?_eq_some_iff.1 hy0
    obtain ⟨hx0l, hx0e⟩ := List.getElem?_eq_some_iff.1 hx0
    have m1 : x0 ∈ X := hx0e ▸ List.getElem_mem hx0l
    have m2 : y0 ∈ Y := hy0e ▸ List.getElem_mem hy0l
    have a1 : κ y y0 ≤ 0 := by
     have hy' : y ∈ Y.take (F - 1 - i + 1) := by rw [show F - 1 - i + 1 = F - i by omega]; exact hy
     rw [List.take_add_one, hy0, Option.toList_some] at hy'
     rcases List.mem_append.1 hy' with hy' | hy'
     ·have := ((pw_mid sY hy0l).1 y hy').le; rw [hy0e] at this; exact this
     ·rw [List.mem_singleton.1 hy', h.lin.refl (hPY y0 m2)]; omega
    have a2 : κ x0 x ≤ 0 := by
     rw [List.drop_eq_getElem_cons hx0l, hx0e] at hx
     rcases List.mem_cons.1 hx with rfl | hx
     ·rw [h.lin.refl (hPX x m1)]; omega
     ·have := ((pw_mid sX hx0l).2 x hx).le; rw [hx0e] at this; exact this
    have a4 := (h.lin.tr y y0 x0 (hPY y (mem_take hy)) (hPY y0 m2) (hPX x0 m1) a1 (by omega)).2 (.inr hn0)
    exact .inl ((h.lin.tr y x0 x (hPY y (mem_take hy)) (hPX x0 m1) (hPX x (mem_drop hx)) (by omega) a2).2 (.inl a4))
   ·rcases hhi with h0 | h0
    ·have : (X.drop i).length = 0 := by omega
     rw [List.length_eq_zero_iff.1 this] at hx; cases hx
    ·have : F - i = 0 := by omega
     rw [this] at hy; simp at hy
  have hP1 : ∀ x ∈ X.take i ++ Y.take (F - i), P x := fun x hx => by
   rcases List.mem_append.1 hx with hx | hx
   ·exact hPX x (mem_take hx)
   ·exact hPY x (mem_take hx)
  have hP2 : ∀ x ∈ X.drop i ++ Y.drop (F - i), P x := fun x hx => by
   rcases List.mem_append.1 hx with hx | hx
   ·exact hPX x (mem_drop hx)
   ·exact hPY x (mem_drop hx)
  have ι1 : ∀ x ∈ X.take i, ∀ y ∈ Y.take (F - i), ι x < ι y := fun x hx y hy => hι x (mem_take hx) y (mem_take hy)
  have ι2 : ∀ x ∈ X.drop i, ∀ y ∈ Y.drop (F - i), ι x < ι y := fun x hx y hy => hι x (mem_drop hx) y (mem_drop hy)
  have k2 : ∀ Z1 Z2 : List (TE × G), Z1.Perm (X.take i ++ Y.take (F - i)) → Z1.Pairwise (Bf κ ι) → Z2.Perm (X.drop i ++ Y.drop (F - i)) → Z2.Pairwise (Bf κ ι) → K (arr H0 b sp (A ++ (Z1 ++ Z2) ++ D)) := by
   intro Z1 Z2 p1 s1 p2 s2
   refine k _ ?_ (List.pairwise_append.2 ⟨s1, s2, fun u hu v hv => ?_⟩)
   ·have p3 := p1.append p2
    refine p3.trans ?_
    conv => rhs; rw [eX, eY]
    simp only [List.append_assoc]
    refine List.Perm.append_left _ ?_
    rw [← List.append_assoc, ← List.append_assoc]
    exact List.Perm.append_right _ List.perm_append_comm
   ·rcases List.mem_append.1 (p1.mem_iff.1 hu) with hu | hu
    ·rcases List.mem_append.1 (p2.mem_iff.1 hv) with hv | hv
     ·exact spX.2.2 u hu v hv
     ·exact c1 u hu v hv
    ·rcases List.mem_append.1 (p2.mem_iff.1 hv) with hv | hv
     ·exact c2 u hu v hv
     ·exact spY.2.2 u hu v hv
  generalize X.take i = X1 at *
  generalize X.drop i = X2 at *
  generalize Y.take (F - i) = Y1 at *
  generalize Y.drop (F - i) = Y2 at *
  have hlX : X.length = X1.length + X2.length := by rw [eX, List.length_append]
  have hlY : Y.length = Y1.length + Y2.length := by rw [eY, List.length_append]
  refine ⟨fun _ B => B = arr H0 b sp (A ++ X1 ++ Y1 ++ X2 ++ Y2 ++ D), ift.of (fun hr => ?_) (fun hr => ?_), ?_⟩
  ·simp only [Bool.and_eq_true, decide_eq_true_eq] at hr
   have e0 : A ++ X ++ Y ++ D = (A ++ X1) ++ X2 ++ Y1 ++ (Y2 ++ D) := by rw [eX, eY]; simp only [List.append_assoc]
   rw [e0]
   refine rot_ok h.s (A := A ++ X1) (X := X2) (Y := Y1) (D := Y2 ++ D) (by simp only [List.length_append]; omega) (fun e => by rw [e] at hlX; simp only [List.length_nil] at hlX; omega) (fun e => by rw [e] at l3; simp only [List.length_nil] at l3; omega) (by simp only [List.length_append]; omega) (by simp only [List.length_append]; omega) (by simp only [List.length_append]; omega) ?_
   simp only [List.append_assoc]
  ·simp only [Bool.and_eq_false_iff, decide_eq_false_iff_not] at hr
   rw [eX, eY]
   rcases hr with hr | hr
   ·have : X2 = [] := List.length_eq_zero_iff.1 (by omega)
    subst this
    simp only [List.append_assoc, List.nil_append, List.append_nil]
   ·have : Y1 = [] := List.length_eq_zero_iff.1 (by omega)
    subst this
    simp only [List.append_assoc, List.nil_append, List.append_nil]
  rintro _ B rfl
  refine ⟨fun _ B => ∃ Z1 : List (TE × G), Z1.Perm (X1 ++ Y1) ∧ Z1.Pairwise (Bf κ ι) ∧ B = arr H0 b sp (A ++ Z1 ++ X2 ++ Y2 ++ D), ift.of (fun hr => ?_) (fun hr => ?_), ?_⟩
  ·simp only [Bool.and_eq_true, decide_eq_true_eq] at hr
   have e0 : A ++ X1 ++ Y1 ++ X2 ++ Y2 ++ D = A ++ X1 ++ Y1 ++ (X2 ++ Y2 ++ D) := by simp only [List.append_assoc]
   rw [e0]
   refine ih (X := X1) (Y := Y1) (A := A) (D := X2 ++ Y2 ++ D) (by omega) (fun e => by rw [e] at l1; simp only [List.length_nil] at l1; omega) (fun e => by rw [e] at l3; simp only [List.length_nil] at l3; omega) rfl (by omega) (by omega) (by simp only [List.length_append]; omega) hP1 spX.1 spY.1 ι1 fun Z p1 s1 => ⟨Z, p1, s1, by simp only [List.append_assoc]⟩
  ·simp only [Bool.and_eq_false_iff, decide_eq_false_iff_not] at hr
   refine ⟨X1 ++ Y1, .refl _, ?_, by simp only [List.append_assoc]⟩
   rcases hr with hr | hr
   ·have : X1 = [] := List.length_eq_zero_iff.1 (by omega)
    subst this
    exact spY.1
   ·have : Y1 = [] := List.length_eq_zero_iff.1 (by omega)
    subst this
    rw [List.append_nil]; exact spX.1
  rintro _ B ⟨Z1, p1, s1, rfl⟩
  have hz1 := p1.length_eq
  rw [List.length_append] at hz1
  refine ift.of (fun hr => ?_) (fun hr => ?_)
  ·simp only [Bool.and_eq_true, decide_eq_true_eq] at hr
   have e0 : A ++ Z1 ++ X2 ++ Y2 ++ D = (A ++ Z1) ++ X2 ++ Y2 ++ D := by simp only [List.append_assoc]
   rw [e0]
   refine ih (X := X2) (Y := Y2) (A := A ++ Z1) (D := D) (by omega) (fun e => by rw [e] at hlX; simp only [List.length_nil] at hlX; omega) (fun e => by rw [e] at l4; simp only [List.length_nil] at l4; omega) (by simp only [List.length_append]; omega) (by simp only [List.length_append]; omega) (by simp only [List.length_append]; omega) (by simp only [List.length_append]; omega) hP2 spX.2.1 spY.2.1 ι2 fun Z p2 s2 => ?_
   have := k2 Z1 Z p1 s1 p2 s2
   simpa only [List.append_assoc] using this
  ·simp only [Bool.and_eq_false_iff, decide_eq_false_iff_not] at hr
   have s2 : (X2 ++ Y2).Pairwise (Bf κ ι) := by
    rcases hr with hr | hr
    ·have : X2 = [] := List.length_eq_zero_iff.1 (by omega)
     subst this
     exact spY.2.1
    ·have : Y2 = [] := List.length_eq_zero_iff.1 (by omega)
     subst this
     rw [List.append_nil]; exact spX.2.1
   have := k2 Z1 (X2 ++ Y2) p1 s1 (.refl _) s2
   simpa only [List.append_assoc] using this
theorem sym_ok (h : Where C H0 R s b n f P κ) {X Y A D : List (TE × G)} {a m e : Int} {K : Heap → Prop} (hX : X ≠ []) (hY : Y ≠ []) (ha : a = (A.length : Int)) (hm : m = ((A.length + X.length : Nat) : Int)) (he : e = ((A.length + X.length + Y.length : Nat) : Int)) (hn : A.length + X.length + Y.length + D.length = n)
 (hP : ∀ x ∈ X ++ Y, P x) (sX : X.Pairwise (Bf κ ι)) (sY : Y.Pairwise (Bf κ ι)) (hι : ∀ x ∈ X, ∀ y ∈ Y, ι x < ι y)
 (k : ∀ Z : List (TE × G), Z.Perm (X ++ Y) → Z.Pairwise (Bf κ ι) → K (arr H0 b sp (A ++ Z ++ D))) : c_slices_symMergeCmpFunc_zset_Entry C s a m e f K (arr H0 b sp (A ++ X ++ Y ++ D)) :=
 sym_key h _ (Nat.le_refl _) hX hY ha hm he hn hP sX sY hι k
theorem stb_ok (h : Where C H0 R s b n f P κ) {L0 : List (TE × G)} {K : Heap → Prop} (hn : L0.length = n) (hP : ∀ x ∈ L0, P x) (hι : L0.Pairwise fun x y => ι x < ι y)
 (k : ∀ Z : List (TE × G), Z.Perm L0 → Z.Pairwise (Bf κ ι) → K (arr H0 b sp Z)) : c_slices_stableCmpFunc_zset_Entry C s (n : Int) f K (arr H0 b sp L0) := by
 have hsm := h.s.small
 apply ad_slices_stableCmpFunc_zset_Entry
 unfold sh_slices_stableCmpFunc_zset_Entry
 refine ⟨fun x B => ∃ D0 R0 D : List (TE × G), L0 = D0 ++ R0 ∧ D.length = D0.length ∧ x = (((D.length : Nat) : Int), ((D.length + 20 : Nat) : Int)) ∧ B = arr H0 b sp (D ++ R0) ∧ ∀ Z', Ch κ ι 20 Z' R0 → Ch κ ι 20 (D ++ Z') L0, fun x _ => n - x.1.toNat,
  ⟨[], L0, [], rfl, rfl, rfl, rfl, fun Z' hz => hz⟩, ?_⟩
 rintro _ B ⟨D0, R0, D, hL, hD, rfl, rfl, hc⟩
 have hl : D.length + R0.length = n := by rw [← hn, hL, List.length_append, hD]
 have hP0 : ∀ x ∈ R0, P x := fun x hx => hP x (by rw [hL]; exact List.mem_append_right _ hx)
 have hι0 : R0.Pairwise fun x y => ι x < ι y := by rw [hL] at hι; exact (List.pairwise_append.1 hι).2.1
 dsimp only
 refine ift.of (fun hle => ?_) (fun hle => ?_)
 ·have hle := of_decide_eq_true hle
  have hR : R0 = R0.take 20 ++ R0.drop 20 := (List.take_append_drop ..).symm
  have l1 : (R0.take 20).length = 20 := by rw [List.length_take]; omega
  have hι1 := (pw_split hι0 20).1
  have hP1 : ∀ x ∈ R0.take 20, P x := fun x hx => hP0 x (mem_take hx)
  generalize R0.take 20 = X at *
  generalize R0.drop 20 = R1 at *
  subst hR
  rw [List.length_append] at hl
  rw [w_i64 (by omega) (by omega)]
  have e0 : D ++ (X ++ R1) = D ++ X ++ R1 := by simp only [List.append_assoc]
  rw [e0]
  refine ins_ok h (A := D) (X := X) (D := R1) rfl (by omega) (by omega) hP1 hι1 fun Z p1 s1 => ?_
  have hz := p1.length_eq
  refine ⟨⟨D0 ++ X, R1, D ++ Z, by rw [hL]; simp only [List.append_assoc], by simp only [List.length_append]; omega, ?_, rfl, fun Z' hz' => ?_⟩, ?_⟩
  ·exact pr (by simp only [List.length_append]; omega) (by simp only [List.length_append]; omega)
  ·rw [List.append_assoc]
   exact hc _ (.cons l1 p1 s1 hz')
  ·first | omega | (dsimp only; omega)
 ·have hle := of_decide_eq_false hle
  have e0 : D ++ R0 = D ++ R0 ++ [] := by simp only [List.append_nil]
  rw [e0]
  refine ins_ok h (A := D) (X := R0) (D := []) rfl (by omega) (by simp only [List.length_nil]; omega) hP0 hι0 fun Z p1 s1 => ?_
  rw [List.append_nil]
  have hch := hc Z (.last (by omega) p1 s1)
  clear hc e0 hle hι0 hP0 hl hD hL
  generalize D ++ Z = Z at hch
  refine ⟨fun x B => ∃ (bs : Nat) (Z : List (TE × G)), x = (bs : Int) ∧ 1 ≤ bs ∧ bs ≤ 281474976710656 ∧ B = arr H0 b sp Z ∧ Ch κ ι bs Z L0, fun x _ => n - x.toNat, ⟨20, Z, rfl, by omega, by omega, rfl, hch⟩, ?_⟩
  rintro _ B ⟨bs, Z, rfl, hb1, hb2, rfl, hch⟩
  refine ift.of (fun hlt => ?_) (fun hlt => ?_)
  ·have hlt : bs < n := by have := of_decide_eq_true hlt; omega
   have w2 : w .i64 (2 * (bs : Int)) = ((2 * bs : Nat) : Int) := by rw [w_i64 (by omega) (by omega)]; omega
   rw [w2]
   refine ⟨fun x B => ∃ D R D0 R0 : List (TE × G), L0 = D0 ++ R0 ∧ D.length = D0.length ∧ x = (((D.length : Nat) : Int), ((D.length + 2 * bs : Nat) : Int)) ∧ B = arr H0 b sp (D ++ R) ∧ Ch κ ι bs R R0 ∧ ∀ Z', Ch κ ι (2 * bs) Z' R0 → Ch κ ι (2 * bs) (D ++ Z') L0, fun x _ => n - x.1.toNat,
    ⟨[], Z, [], L0, rfl, rfl, pr rfl (by simp), rfl, hch, fun Z' hz => hz⟩, ?_⟩
   rintro _ B ⟨D, R, D0, R0, hL, hD, rfl, rfl, hR, hc⟩
   have hl : D.length + R0.length = n := by rw [← hn, hL, List.length_append, hD]
   have hP0 : ∀ x ∈ R0, P x := fun x hx => hP x (by rw [hL]; exact List.mem_append_right _ hx)
   have hι0 : R0.Pairwise fun x y => ι x < ι y := by rw [hL] at hι; exact (List.pairwise_append.1 hι).2.1
   have hrl := hR.perm.length_eq
   dsimp only
   have wa : w .i64 ((D.length : Int) + (bs : Int)) = ((D.length + bs : Nat) : Int) := by rw [w_i64 (by omega) (by omega)]; omega
   rw [wa]
   refine ift.of (fun hle => ?_) (fun hle => ?_)
   ·have hle := of_decide_eq_true hle
    obtain ⟨X, R1, X0, R2, rfl, rfl, lx, px, sx, hR2⟩ := hR.big (by omega)
    rw [List.length_append] at hl
    obtain ⟨Y, R1, Y0, R2, rfl, rfl, ly, py, sy, hR3⟩ := hR2.big (by omega)
    rw [List.length_append] at hl
    have hxl := px.length_eq
    have hyl := py.length_eq
    have hr3 := hR3.perm.length_eq
    have wb : w .i64 (((D.length + 2 * bs : Nat) : Int) + ((2 * bs : Nat) : Int)) = ((D.length + 2 * bs + 2 * bs : Nat) : Int) := by rw [w_i64 (by omega) (by omega)]; omega
    rw [wb]
    have e0 : D ++ (X ++ (Y ++ R1)) = D ++ X ++ Y ++ R1 := by simp only [List.append_assoc]
    rw [e0]
    have hιx := List.pairwise_append.1 hι0
    refine sym_ok h (A := D) (X := X) (Y := Y) (D := R1) (fun e => by rw [e] at hxl; simp only [List.length_nil] at hxl; omega) (fun e => by rw [e] at hyl; simp only [List.length_nil] at hyl; omega) rfl (by omega) (by omega) (by omega) (fun x hx => ?_) sx sy (fun x hx y hy => hιx.2.2 x (px.mem_iff.1 hx) y (List.mem_append_left _ (py.mem_iff.1 hy))) fun Z1 p1 s1 => ?_
    ·rcases List.mem_append.1 hx with hx | hx
     ·exact hP0 x (List.mem_append_left _ (px.mem_iff.1 hx))
     ·exact hP0 x (List.mem_append_right _ (List.mem_append_left _ (py.mem_iff.1 hx)))
    ·have hz := p1.length_eq
     rw [List.length_append] at hz
     refine ⟨⟨D ++ Z1, R1, D0 ++ X0 ++ Y0, R2, by rw [hL]; simp only [List.append_assoc], by simp only [List.length_append]; omega, ?_, rfl, hR3, fun Z' hz' => ?_⟩, ?_⟩
     ·exact pr (by simp only [List.length_append]; omega) (by simp only [List.length_append]; omega)
     ·rw [List.append_assoc]
      refine hc _ ?_
      rw [← List.append_assoc]
      exact .cons (by rw [List.length_append]; omega) (p1.trans (px.append py)) s1 hz'
     ·first | omega | (dsimp only; omega)
   ·have hle := of_decide_eq_false hle
    refine ⟨fun _ B => ∃ Z : List (TE × G), B = arr H0 b sp Z ∧ Ch κ ι (2 * bs) Z L0, ift.of (fun hlt2 => ?_) (fun hlt2 => ?_), ?_⟩
    ·have hlt2 := of_decide_eq_true hlt2
     obtain ⟨X, Y, X0, Y0, rfl, rfl, lx, px, sx, hR2⟩ := hR.big (by omega)
     rw [List.length_append] at hl
     have hxl := px.length_eq
     have hyl := hR2.perm.length_eq
     have sy := hR2.small (by omega)
     have hιx := List.pairwise_append.1 hι0
     have e0 : D ++ (X ++ Y) = D ++ X ++ Y ++ [] := by simp only [List.append_assoc, List.append_nil]
     rw [e0]
     refine sym_ok h (A := D) (X := X) (Y := Y) (D := []) (fun e => by rw [e] at hxl; simp only [List.length_nil] at hxl; omega) (fun e => by rw [e] at hyl; simp only [List.length_nil] at hyl; omega) rfl (by omega) (by omega) (by simp only [List.length_nil]; omega) (fun x hx => ?_) sx sy (fun x hx y hy => hιx.2.2 x (px.mem_iff.1 hx) y (hR2.perm.mem_iff.1 hy)) fun Z1 p1 s1 => ?_
     ·rcases List.mem_append.1 hx with hx | hx
      ·exact hP0 x (List.mem_append_left _ (px.mem_iff.1 hx))
      ·exact hP0 x (List.mem_append_right _ (hR2.perm.mem_iff.1 hx))
     ·refine ⟨D ++ Z1, by rw [List.append_nil], hc _ (.last (by rw [List.length_append]; omega) (p1.trans (px.append hR2.perm)) s1)⟩
    ·have hlt2 := of_decide_eq_false hlt2
     exact ⟨D ++ R, rfl, hc _ (.last (by omega) hR.perm (hR.all (by omega) (by omega)))⟩
    ·rintro _ B ⟨Z, rfl, hz⟩
     rw [w_i64 (by omega) (by omega)]
     exact ⟨⟨2 * bs, Z, by omega, by omega, by omega, rfl, hz⟩, by omega⟩
  ·have hlt : n ≤ bs := by have := of_decide_eq_false hlt; omega
   exact k Z hch.perm (hch.all (by omega) (by omega))
theorem sort_ok (h : Where C H0 R s b n f P κ) {L0 : List (TE × G)} {K : Heap → Prop} (hn : L0.length = n) (hP : ∀ x ∈ L0, P x) (hι : L0.Pairwise fun x y => ι x < ι y)
 (k : ∀ Z : List (TE × G), Z.Perm L0 → Z.Pairwise (Bf κ ι) → K (arr H0 b sp Z)) : c_slices_SortStableFunc_zset_Entry_zset_Entry C s f K (arr H0 b sp L0) := by
 apply ad_slices_SortStableFunc_zset_Entry_zset_Entry
 unfold sh_slices_SortStableFunc_zset_Entry_zset_Entry
 rw [h.s.len]
 exact stb_ok h hn hP hι k
end
end Sx.SE
end

noncomputable section
set_option linter.unusedVariables false
set_option linter.unusedSimpArgs false
namespace Sx
open Go Go.Proofs
section
variable {C : Ctx} {H : Heap}
theorem Own_ok {A : Heap} {l : List V} {t : Sl} {H : Heap} {K : Sl → Heap → Prop} (hv : VRow A t l) (hle : A.le H) (hz : vsizes l ≤ 1000000) (k : ∀ t2 H2, Made H H2 l t2 → K t2 H2) : c_ref02_Own C t K H := by
 have main : ∀ v : V, ∀ (A : Heap) (t : Sl) (H : Heap) (K : Sl → Heap → Prop), VRow A t v.l → A.le H → vsizes v.l ≤ 1000000 → (∀ t2 H2, Made H H2 v.l t2 → K t2 H2) → c_ref02_Own C t K H := by
  refine fun v => V.rec_ (P := fun v => ∀ (A : Heap) (t : Sl) (H : Heap) (K : Sl → Heap → Prop), VRow A t v.l → A.le H → vsizes v.l ≤ 1000000 → (∀ t2 H2, Made H H2 v.l t2 → K t2 H2) → c_ref02_Own C t K H) (fun v ih => ?_) v
  intro A t H K hv hle hz k
  apply ad_ref02_Own
  unfold sh_ref02_Own
  have hl := hv.len
  have hll := vsizes_len v.l
  refine ⟨fun x D => ∃ (s : Sl) (ys : List TV), x = (s, (ys.length : Int)) ∧ Od H D v.l s ys, fun x _ => v.l.length - x.2.toNat,
   ⟨Sl.nil, [], rfl, Od.nil⟩, ?_⟩
  rintro _ D ⟨s, ys, rfl, ho⟩
  rw [hl]
  refine ift.of (fun h => ?_) (fun h => ?_)
  ·have hlt : ys.length < v.l.length := by have := of_decide_eq_true h; dsimp only at this; omega
   have hleD := hle.trans ho.own.le
   refine hv.ld hleD rfl hlt fun x hx => ?_
   have hmem := List.getElem_mem hlt
   have hsz := vsize_mem hmem
   have hszl : vsize v.l[ys.length] = vsizes v.l[ys.length].l + 1 := by cases v.l[ys.length]; rfl
   have hxi := VIs_iff.1 hx
   intro b12 n12
   refine ⟨_, Heap.put_same .., by simp [T_api_Value.c], ?_⟩
   rw [Heap.put_put]
   have hc : splice (T_api_Value.c T_api_Value.zero) (b12, 0).2 (T_api_Value.c x) = T_api_Value.c x := rfl
   rw [hc]
   show ldL (D.put b12 (.row (T_api_Value.c x))) _ _
   refine ⟨x.L, by rw [rd_same]; rfl, ?_⟩
   refine ih _ hmem A _ _ _ hxi.2.2.2 (hleD.trans (Heap.le_put n12)) (by omega) fun t2 H2 hm => ?_
   refine ⟨_, hm.le _ _ (Heap.put_same ..), by show 0 + 3 < 4; omega, ?_⟩
   show ldT (H2.put b12 (.row ((T_api_Value.c x).set (0 + 3) (slv t2)))) T_api_Value.c (b12, 0) _
   have hc2 : (T_api_Value.c x).set (0 + 3) (slv t2) = T_api_Value.c { x with L := t2 } := rfl
   rw [hc2]
   refine ⟨{ x with L := t2 }, rds_row (Heap.put_same ..) fun j v hj => by simpa using hj, ?_⟩
   have hown : Own (H2.put b12 (.row (T_api_Value.c { x with L := t2 }))) 4 s (ys.flatMap T_api_Value.c) := by
    obtain ⟨q1, q2, q3, q4⟩ := ho.own.own
    refine ⟨q1, q2, q3, q4.imp id fun ⟨b, sp, p1, p2, p3⟩ => ⟨b, sp, p1, ?_, p3⟩⟩
    have hne : b ≠ b12 := fun e => by rw [e, n12] at p2; cases p2
    rw [Heap.put_ne _ _ _ hne]
    exact hm.le _ _ (by rw [Heap.put_ne _ _ _ hne]; exact p2)
   have hf := flat4 ys
   have hsl : s.len = ys.length := by have := ho.own.own.1; omega
   refine apd_ownF (zc := T_api_Value.c T_api_Value.zero) hown.off rfl (by dsimp only; omega) (by dsimp only; omega) fun r H3 h4 hr => ?_
   rw [w_i64 (by omega) (by omega)]
   have hs := ho.step n12 hlt hm (x := { x with L := t2 }) ⟨hxi.1, hxi.2.1, hxi.2.2.1⟩ rfl (fun z e hz he => by rw [Heap.put_ne _ _ _ hz]; exact he) h4
   refine ⟨⟨r, ys ++ [{ x with L := t2 }], ?_, hs⟩, by first | omega | (dsimp only; omega)⟩
   rw [List.length_append, List.length_singleton]; rfl
  ·have hn : ys.length = v.l.length := by
    have := of_decide_eq_false h; dsimp only at this
    have := ho.le
    omega
   exact k _ _ (ho.fin hn (by omega))
 exact main (.mk 0 0 [] l) A t H K hv hle hz k
/-- what writes over: all that is not N's stays, and what may be written over may still be -/
theorem spoil_ok {N : Nat → Prop} {k : Nat} {t : Sl} {H : Heap} {K : Heap → Prop} (h : Sp N H k t)
 (hk : ∀ H2, (∀ c, ¬ N c → H2 c = H c) → (∀ k t, Sp N H k t → Sp N H2 k t) → K H2) : c_law16_spoil C t K H := by
 have nil : ∀ {t : Sl} {H : Heap} {K : Heap → Prop}, t.len = 0 → K H → c_law16_spoil C t K H := by
  intro t H K h0 hk
  apply ad_law16_spoil
  unfold sh_law16_spoil
  rw [h0]
  refine ⟨fun x D => x = 0 ∧ D = H, fun _ _ => 0, ⟨rfl, rfl⟩, ?_⟩
  rintro _ _ ⟨rfl, rfl⟩
  exact ift_neg rfl hk
 induction k generalizing t H K with
 | zero => exact nil h (hk H (fun _ _ => rfl) fun _ _ h => h)
 | succ k ih =>
  by_cases h0 : t.len = 0
  ·exact nil h0 (hk H (fun _ _ => rfl) fun _ _ h => h)
  have cells : ∀ {D : Heap}, Sp N D (k + 1) t → ∃ (b : Nat) (xs : List TV) (sp : List Value), N b ∧ t.p = some (b, 0) ∧ t.x = none ∧ D b = some (true, .row (xs.flatMap T_api_Value.c ++ sp)) ∧ (t.len ≤ xs.length ∧ xs.length ≤ 1000000) ∧ ∀ x ∈ xs, Sp N D k x.L := fun h => h.elim (fun h => absurd h h0) id
  have hlen : t.len ≤ 1000000 := by obtain ⟨b, xs, sp, _, _, _, _, h5, _⟩ := cells h; omega
  apply ad_law16_spoil
  unfold sh_law16_spoil
  refine ⟨fun x D => ∃ i : Nat, x = (i : Int) ∧ i ≤ t.len ∧ (∀ c, ¬ N c → D c = H c) ∧ ∀ k t, Sp N H k t → Sp N D k t, fun x _ => t.len - x.toNat, ⟨0, rfl, Nat.zero_le _, fun _ _ => rfl, fun _ _ h => h⟩, ?_⟩
  rintro _ D ⟨i, rfl, hi, hD, hS⟩
  refine ift.of (fun hlt => ?_) (fun hlt => hk D hD hS)
  have hlt : i < t.len := by have := of_decide_eq_true hlt; omega
  obtain ⟨b, xs, sp, h1, h2, h3, h4, h5, h6⟩ := cells (hS _ _ h)
  have hix : i < xs.length := by omega
  have e0 : 0 + ((i : Int).toNat) * 4 + 3 = i * 4 + 3 := by omega
  have hf := flat4 xs
  refine ⟨(b, 0), h2, h3, by omega, by omega, xs[i].L, ?_, ?_⟩
  ·show rd _ (b, 0 + ((i : Int).toNat) * 4 + 3) = _
   rw [e0]
   simp only [rd, h4, GO.cells?]
   show (List.flatMap T_api_Value.c xs ++ sp)[i * 4 + 3]? = _
   rw [List.getElem?_append_left (by omega)]
   exact flat_get T_api_Value.c 4 TV.c_len xs i _ (List.getElem?_eq_getElem hix) 3 _ rfl
  refine ih (h6 _ (List.getElem_mem hix)) fun D2 hD2 hS2 => ?_
  obtain ⟨b', xs2, sp2, g1, g2, g3, g4, g5, g6⟩ := cells (hS2 _ _ (hS _ _ h))
  have hb : b' = b := by rw [h2] at g2; injection g2 with g2; injection g2 with g2; exact g2.symm
  subst hb
  have hf2 := flat4 xs2
  have e1 : 0 + ((i : Int).toNat) * 4 = i * 4 := by omega
  refine ⟨(b', 0), h2, h3, by omega, by omega, _, g4, ?_, ?_⟩
  ·show 0 + ((i : Int).toNat) * 4 + (T_api_Value.c _).length ≤ _
   rw [e1, TV.c_len, List.length_append, hf2]; omega
  rw [w_i64 (by omega) (by omega)]
  refine ⟨⟨i + 1, by omega, by omega, fun c hc => ?_, fun k t hs => ?_⟩, by first | omega | (dsimp only; omega)⟩
  ·have hne : c ≠ b' := fun e => hc (e ▸ g1)
   rw [Heap.put_ne _ _ _ hne, hD2 c hc, hD c hc]
  ·show Sp N (D2.put b' (.row (splice _ (0 + ((i : Int).toNat) * 4) _))) k t
   rw [e1]
   exact Sp.put g4 rfl (hS2 _ _ (hS _ _ hs))
end
end Sx
end

noncomputable section
set_option linter.unusedVariables false
set_option linter.unusedSimpArgs false
namespace Sx
open Go Go.Proofs
theorem vsizes_take {l : List V} {i : Nat} (h : i < l.length) : vsizes (l.take (i + 1)) = vsizes (l.take i) + vsize l[i] := by
 have e : ∀ a b : List V, vsizes (a ++ b) = vsizes a + vsizes b := by
  intro a
  induction a with
  | nil => intro b; simp [vsizes]
  | cons v a ih => intro b; simp only [List.cons_append, vsizes, ih]; omega
 rw [List.take_add_one, List.getElem?_eq_getElem h, Option.toList_some, e]; simp [vsizes]
section
variable {C : Ctx} {H : Heap}
theorem div50 {n : Nat} (h : n ≤ 140737488355328) : w .i64 (1 + w .i64 (Int.tdiv (n : Int) 50)) = ((1 + n / 50 : Nat) : Int) := by
 have e : Int.tdiv (n : Int) 50 = ((n / 50 : Nat) : Int) := by
  rw [Int.tdiv_eq_ediv_of_nonneg (by omega)]; omega
 rw [e, w_i64 (x := ((n / 50 : Nat) : Int)) (by omega) (by omega), w_i64 (by omega) (by omega)]; omega
theorem weight_ok {v : V} {x : TV} {H : Heap} {m : Nat} {K : Int → Heap → Prop} (hv : VIs H v x) (hB : VB v) (h0 : 1 ≤ m) (hm : m ≤ 1000000) (k : ∀ r : Nat, 1 ≤ r → r ≤ 8796093022208 + m → (r < m → vsize v ≤ r) → K r H) : c_law16_weight C x m K H := by
 refine V.rec_ (P := fun v => ∀ {x H} {m : Nat} {K : Int → Heap → Prop}, VIs H v x → VB v → 1 ≤ m → m ≤ 1000000 → (∀ r : Nat, 1 ≤ r → r ≤ 8796093022208 + m → (r < m → vsize v ≤ r) → K r H) → c_law16_weight C x m K H) (fun v ih => ?_) v hv hB h0 hm k
 clear hv hB h0 hm k m
 intro x H m K hv hB h0 hm k
 apply c_law16_weight.gh
 apply ad_law16_weight
 unfold sh_law16_weight
 intro b1 n1
 have hr := hv.row
 have hl := hr.len
 have hbl := hB.l
 have hbs := hB.s
 have hsz : vsize v = vsizes v.l + 1 := by obtain ⟨k, n, s, l⟩ := v; rfl
 have hb1 : (H.put b1 (.row (T_api_Value.c x))) b1 = some (true, .row (T_api_Value.c x)) := Heap.put_same ..
 have hle1 := Heap.le_put n1 (g := .row (T_api_Value.c x)) (m := true)
 generalize H.put b1 (.row (T_api_Value.c x)) = H1 at *
 refine bxS hb1 ?_
 rw [hv.txt, div50 hbs]
 have hd : v.s.length / 50 ≤ 2814749767107 := by omega
 refine ⟨fun y A => A = H1 ∧ ∃ i n : Nat, y = ((n : Int), (i : Int)) ∧ i ≤ v.l.length ∧ 1 ≤ n ∧ n ≤ 8796093022208 + m ∧ (n < m → 1 + vsizes (v.l.take i) ≤ n), fun y _ => v.l.length - y.2.toNat,
  ⟨rfl, 0, _, rfl, Nat.zero_le _, by omega, by omega, fun _ => by simp [vsizes]⟩, ?_⟩
 rintro _ A ⟨rfl, i, n, rfl, hi, hn1, hn2, hn3⟩
 refine bxL hb1 ?_
 rw [hl]
 refine ift.of (fun h => ?_) (fun h => ?_)
 ·simp only [Bool.and_eq_true, decide_eq_true_eq] at h
  have hlt : i < v.l.length := by omega
  have hnm : n < m := by omega
  have hmem := List.getElem_mem hlt
  refine bxL hb1 ?_
  refine hr.ld hle1 rfl hlt fun y hy => ?_
  rw [w_i64 (x := (m : Int) - n) (by omega) (by omega), show (m : Int) - n = ((m - n : Nat) : Int) by omega]
  refine ih _ hmem (hy.le hle1) (hB.ls.mem hmem) (by omega) (by omega) fun r r1 r2 r3 => ?_
  rw [w_i64 (by omega) (by omega), w_i64 (by omega) (by omega)]
  refine ⟨⟨rfl, i + 1, n + r, by simp, by omega, by omega, by omega, fun hh => ?_⟩, by first | omega | (dsimp only; omega)⟩
  rw [vsizes_take hlt]
  have := r3 (by omega)
  have := hn3 hnm
  omega
 ·refine ⟨H, Gh.le hle1, k n hn1 hn2 fun hh => ?_⟩
  have hie : i = v.l.length := by
   have hnm := hh
   simp only [Bool.and_eq_false_iff, decide_eq_false_iff_not] at h
   omega
  have := hn3 hh
  rw [hie, List.take_length] at this
  omega
end
end Sx
end

noncomputable section
set_option linter.unusedVariables false
set_option linter.unusedSimpArgs false
set_option maxRecDepth 10000
namespace Sx
open Go Go.Proofs
/-- an entry: a row, and a number -/
abbrev En := List V × Int
def EnIs (A : Heap) (v : En) (x : T_zset_Entry) : Prop := VRow A x.Row v.1 ∧ VBs v.1 ∧ v.1.length ≤ 140737488355328 ∧ x.N = v.2 ∧ -9223372036854775808 ≤ v.2 ∧ v.2 < 9223372036854775808
abbrev EnL (A : Heap) := SlIs (EnIs A) T_zset_Entry.c A
theorem EnIs.le {A B : Heap} (hle : A.le B) {v : En} {x : T_zset_Entry} (h : EnIs A v x) : EnIs B v x := ⟨h.1.le hle, h.2⟩
/-- beyond what may be -/
def outE (n : Int) : Bool := decide (n < -2147483647) || decide (n > 2147483647)
section
variable {C : Ctx} {H A : Heap}
theorem out_ok {n : Int} {K : Bool → Heap → Prop} (k : K (outE n) H) : c_zset_out C n K H := by
 apply ad_zset_out; exact k
theorem as_ok {n : Int} {K : Int → Heap → Prop} (k : K n H) : c_zset_as C n K H := by
 apply ad_zset_as; exact k
theorem turn_ok {n : Int} {K : Int → Heap → Prop} (k : K (w .i64 (0 - n)) H) : c_zset_turn C n K H := by
 apply ad_zset_turn; exact k
theorem sums1_ok {v : V} {x : TV} {K : Bool → Heap → Prop} (hv : VIs H v x) (hB : VB v) (k : K (!(mayV v)) H) : c_zset_sums_1 C x K H := by
 apply c_zset_sums_1.gh
 apply ad_zset_sums_1
 unfold sh_zset_sums_1
 intro b1 n1
 have hle := Heap.le_put n1 (g := .row (T_api_Value.c x)) (m := true)
 have h1 : (H.put b1 (.row (T_api_Value.c x))) b1 = some (true, .row (T_api_Value.c x)) := Heap.put_same ..
 generalize H.put b1 (.row (T_api_Value.c x)) = H2 at *
 refine bxV h1 (value_Check_ok (hv.le hle) hB ⟨H, Gh.le hle, ?_⟩)
 have : ((checkV v : Int) != 0) = !(mayV v) := by unfold mayV; rfl
 rw [this]; exact k
end
end Sx
end

noncomputable section
set_option linter.unusedVariables false
set_option linter.unusedSimpArgs false
set_option maxRecDepth 10000
namespace Sx
open Go Go.Proofs
theorem VLs {A : Heap} {t : Sl} {l : List V} (h : VRow A t l) (hb : l.length ≤ 140737488355328) : SlIs (VIs A) T_api_Value.c A t l := by
 obtain ⟨xs, h1, h2, h3⟩ := h
 exact ⟨xs, h1, h2, h3.len, hb, fun i v x hv hx => h3.get i v x hv hx⟩
def fnv (b : Bool) : Value := .func (.func (if b then 31 else 27)) (List.toArray []) (List.toArray [])
def doE (b : Bool) (n : Int) : Int := if b then w .i64 (0 - n) else n
section
variable {C : Ctx} {H A : Heap}
theorem fnv_ok {b : Bool} {n : Int} {Φ : Value → Heap → Prop} (k : Φ (.int .i64 (doE b n)) H) : callU Tryz.prog C (fnv b) [.int .i64 n] H Φ := by
 cases b with
 | true => exact ⟨31, [], [], rfl, ok_zset_turn, Spec.mono (turn_ok (C := C) (n := n) (K := fun r H2 => Φ (.int .i64 r) H2) k) fun v H2 ⟨r, hv, hr⟩ => by rw [hv]; exact hr⟩
 | false => exact ⟨27, [], [], rfl, ok_zset_as, Spec.mono (as_ok (C := C) (n := n) (K := fun r H2 => Φ (.int .i64 r) H2) k) fun v H2 ⟨r, hv, hr⟩ => by rw [hv]; exact hr⟩
theorem mayC_ok {l : List V} {s : Sl} {K : Bool → Heap → Prop} (hs : VRow H s l) (hB : VBs l) (hl : l.length ≤ 140737488355328) (k : K (!(mayR l)) H) : c_slices_ContainsFunc_api_Value_api_Value C s (.func (.func 46) (List.toArray []) (List.toArray []) : Value) K H := by
 apply ad_slices_ContainsFunc_api_Value_api_Value
 unfold sh_slices_ContainsFunc_api_Value_api_Value
 apply ad_slices_IndexFunc_api_Value_api_Value
 unfold sh_slices_IndexFunc_api_Value_api_Value
 have hS := VLs hs hl
 refine ⟨fun x D => D = H ∧ ∃ i : Nat, x = (i : Int) ∧ i ≤ l.length ∧ (l.take i).all mayV = true, fun x _ => l.length - x.toNat, ⟨rfl, 0, rfl, Nat.zero_le _, by simp⟩, ?_⟩
 rintro _ D ⟨rfl, i, rfl, hi, hq⟩
 rw [hS.len]
 refine ift.of (fun h => ?_) (fun h => ?_)
 ·have hlt : i < l.length := by have := of_decide_eq_true h; omega
  refine hS.ld (Heap.le.refl _) (fun _ => rfl) (by omega) rfl hlt fun x hx => cu ok_zset_sums_1 (sums1_ok hx (hB.mem (List.getElem_mem hlt)) ?_)
  refine ift.of (fun h2 => ?_) (fun h2 => ?_)
  ·have h3 : mayV l[i] = false := by simpa using h2
   rw [mayR_no (List.getElem_mem hlt) h3] at k
   show K (decide ((i : Int) ≥ 0)) D
   rw [decide_eq_true (by omega)]; exact k
  ·have h3 : mayV l[i] = true := by simpa using h2
   rw [w_i64 (by omega) (by omega)]
   refine ⟨⟨rfl, i + 1, by omega, by omega, ?_⟩, by first | omega | (dsimp only; omega)⟩
   rw [List.take_add_one, List.getElem?_eq_getElem hlt, List.all_append, hq]
   simp [h3]
 ·have hie : i = l.length := by have := of_decide_eq_false h; omega
  rw [hie, List.take_length] at hq
  have : mayR l = true := by unfold mayR; exact hq
  rw [this] at k
  exact k
end
/-- where all entries so far stand -/
structure SI (A : Heap) (b1 b3 b5 b7 yl : Nat) (S : List (En × Bool)) (E H : Heap) (k : Nat) : Prop where
 leE : E.le H
 off : E b1 = none ∧ E b3 = none ∧ E b5 = none ∧ E b7 = none ∧ E yl = none
 ne : b1 ≠ b3 ∧ b5 ≠ b7 ∧ b5 ≠ b1 ∧ b5 ≠ b3 ∧ b7 ≠ b1 ∧ b7 ≠ b3
 c1 : H b1 = some (true, .row [slv Sl.nil])
 c3 : H b3 = some (true, .row [.int .i64 0])
 c7 : H b7 = some (true, .row [.int .i64 (if (S.take k).any (fun x => outE x.1.2) then 80 else 0)])
 may : ∀ x ∈ S.take k, mayR x.1.1 = true
 ls : ∃ (s : Sl) (L : List (T_zset_Entry × En)), H b5 = some (true, .row [slv s]) ∧ Own H 2 s (L.flatMap fun x => T_zset_Entry.c x.1) ∧ Fresh E s ∧ (∀ p, s.p = some p → p.1 ≠ b1 ∧ p.1 ≠ b3 ∧ p.1 ≠ b5 ∧ p.1 ≠ b7 ∧ p.1 ≠ yl) ∧
  L.map (·.2) = (S.take k).map (fun x => (x.1.1, doE x.2 x.1.2)) ∧ ∀ x ∈ L, (VRow A x.1.Row x.2.1 ∧ VBs x.2.1 ∧ x.2.1.length ≤ 140737488355328) ∧ x.1.N = x.2.2
/-- a row may not be -/
structure SErr (b1 b3 : Nat) (S : List (En × Bool)) (E H : Heap) : Prop where
 leE : E.le H
 c1 : H b1 = some (true, .row [slv Sl.nil])
 c3 : H b3 = some (true, .row [.int .i64 4])
 bad : S.any (fun x => !(mayR x.1.1)) = true
def SY (A : Heap) (b1 b3 b5 b7 yl : Nat) (r : Loop) (S : List (En × Bool)) (us : List Value) (K : Bool → Heap → Prop) (H : Heap) : Prop :=
 ∃ (E : Heap) (k : Nat) (hk : k < S.length) (x : T_zset_Entry), A.le E ∧ SI A b1 b3 b5 b7 yl S E H k ∧ H yl = some (true, Rf.lrec r .ready none) ∧ us = [.agg (T_zset_Entry.c x).toArray, fnv S[k].2] ∧ EnIs A S[k].1 x ∧
  (∀ H', SI A b1 b3 b5 b7 yl S E H' (k + 1) → H' yl = some (true, Rf.lrec r .ready none) → K true H') ∧ (∀ H', SErr b1 b3 S E H' → H' yl = some (true, Rf.lrec r .done (some .ret)) → K false H')
theorem le_put_off {E H : Heap} {b : Nat} {g : GO} (h : E.le H) (hb : E b = none) : E.le (H.put b g) := fun x e hx => by
 have : x ≠ b := fun e' => by subst e'; rw [hb] at hx; cases hx
 rw [Heap.put_ne _ _ _ this]; exact h _ _ hx
theorem Own.put_off {H : Heap} {z : Nat} {s : Sl} {cs : List Value} {b : Nat} {g : GO} (h : Own H z s cs) (hb : ∀ p, s.p = some p → p.1 ≠ b) : Own (H.put b g) z s cs := by
 obtain ⟨h1, h2, h3, h4⟩ := h
 refine ⟨h1, h2, h3, ?_⟩
 rcases h4 with h4 | ⟨c, sp, q1, q2, q3⟩
 ·exact .inl h4
 ·exact .inr ⟨c, sp, q1, by rw [Heap.put_ne _ _ _ (hb _ q1)]; exact q2, q3⟩
theorem stI {H : Heap} {b : Nat} {c v : Value} {K : Heap → Prop} (h : H b = some (true, .row [c])) (k : K (H.put b (.row [v]))) : st (b, 0) v K H := by
 refine ⟨_, h, by simp, ?_⟩
 exact k
end Sx
end

noncomputable section
set_option linter.unusedVariables false
set_option linter.unusedSimpArgs false
set_option maxRecDepth 10000
namespace Sx
open Go Go.Proofs
def rdS (C : Ctx) (b1 b3 b5 b7 : Nat) : Nat → Loop → List Value → (Bool → Heap → Prop) → Heap → Prop :=
 fun yl15 r16 us K19 H20 => ∃ (u12 : T_zset_Entry) (u13 : Value), us = [.agg (T_zset_Entry.c u12).toArray, u13] ∧
 nw (T_zset_Entry.c T_zset_Entry.zero) (fun b38 H39 =>
 stT (b38, 0) (T_zset_Entry.c u12) (fun H40 =>
 H40 yl15 = some (true, Rf.lrec r16 .ready none) ∧
 ldL (Heap.put H40 yl15 (Rf.lrec r16 .busy none)) ((b38, 0).1, (b38, 0).2 + 0) fun x43 =>
 c_slices_ContainsFunc_api_Value_api_Value C x43 (.func (.func 46) (List.toArray []) (List.toArray []) : Value) (fun r45 H46 =>
 ift r45
 (st (b1, 0) (slv Sl.nil) (fun H48 =>
 st (b3, 0) (.int .i64 4) (fun H49 =>
 H49 yl15 = some (true, Rf.lrec r16 .busy none) ∧ K19 false (Heap.put H49 yl15 (Rf.lrec r16 .done (some .ret)))) H48) H46)
 (jn (α := Unit) (fun x51 H52 =>
 dr H52 fun Hs60 =>
 ldL Hs60 (b5, 0) fun x62 =>
 ldL Hs60 ((b38, 0).1, (b38, 0).2 + 0) fun x64 =>
 ldI Hs60 .i64 ((b38, 0).1, (b38, 0).2 + 1) fun x66 =>
 callU Tryz.prog C u13 [.int .i64 x66] H52 (fun v H70 => ∃ (r69 : Int), v = .int .i64 r69 ∧
 Heap.le Hs60 H70 ∧
 nw ((T_zset_Entry.c (⟨x64, r69⟩ : T_zset_Entry)) ++ []) (fun b72 H73 =>
 Heap.le Hs60 H73 ∧
 apS (T_zset_Entry.c T_zset_Entry.zero) 32 x62 (Sl.of (some (b72, 0)) 1 1) (fun r75 H76 =>
 Heap.le Hs60 H76 ∧
 st (b5, 0) (slv r75) (fun H77 =>
 H77 yl15 = some (true, Rf.lrec r16 .busy none) ∧ K19 true (Heap.put H77 yl15 (Rf.lrec r16 .ready none))) H76) H73) H70))
 (fun J50 => ldI H46 .i64 ((b38, 0).1, (b38, 0).2 + 1) fun x54 =>
 c_zset_out C x54 (fun r56 H57 =>
 ift r56
 (st (b7, 0) (.int .i64 80) (fun H59 =>
 J50 () H59) H57)
 (J50 () H57)) H46))) (Heap.put H40 yl15 (Rf.lrec r16 .busy none))) H39) H20
section
variable {A E H : Heap} {b1 b3 b5 b7 yl : Nat} {S : List (En × Bool)} {k : Nat}
theorem SI.here (h : SI A b1 b3 b5 b7 yl S E H k) : H b1 ≠ none ∧ H b3 ≠ none ∧ H b5 ≠ none ∧ H b7 ≠ none := by
 obtain ⟨s, L, g5, _⟩ := h.ls
 exact ⟨by rw [h.c1]; simp, by rw [h.c3]; simp, by rw [g5]; simp, by rw [h.c7]; simp⟩
theorem SI.grow {b : Nat} {g : GO} (h : SI A b1 b3 b5 b7 yl S E H k) (n : H b = none) (hy : yl ≠ b) : SI A b1 b3 b5 b7 yl S (E.put b g) (H.put b g) k := by
 obtain ⟨k1, k3, k5, k7⟩ := h.here
 have q : ∀ c, H c ≠ none → c ≠ b := fun c hc e => hc (by rw [e]; exact n)
 obtain ⟨o1, o3, o5, o7, oy⟩ := h.off
 obtain ⟨s, L, g5, gO, gF, gN, gM, gV⟩ := h.ls
 have sb : ∀ p, s.p = some p → p.1 ≠ b := fun p hp => by
  obtain ⟨g', hg⟩ := gO.mine hp
  exact q _ (by rw [hg]; simp)
 refine ⟨fun x e hx => ?_, ⟨?_, ?_, ?_, ?_, ?_⟩, h.ne, ?_, ?_, ?_, h.may, s, L, ?_, gO.put_off sb, fun p hp => ?_, gN, gM, gV⟩
 ·by_cases hb : x = b
  ·subst hb; rw [Heap.put_same] at hx ⊢; exact hx
  ·rw [Heap.put_ne _ _ _ hb] at hx ⊢; exact h.leE _ _ hx
 ·rw [Heap.put_ne _ _ _ (q _ k1)]; exact o1
 ·rw [Heap.put_ne _ _ _ (q _ k3)]; exact o3
 ·rw [Heap.put_ne _ _ _ (q _ k5)]; exact o5
 ·rw [Heap.put_ne _ _ _ (q _ k7)]; exact o7
 ·rw [Heap.put_ne _ _ _ hy]; exact oy
 ·rw [Heap.put_ne _ _ _ (q _ k1)]; exact h.c1
 ·rw [Heap.put_ne _ _ _ (q _ k3)]; exact h.c3
 ·rw [Heap.put_ne _ _ _ (q _ k7)]; exact h.c7
 ·rw [Heap.put_ne _ _ _ (q _ k5)]; exact g5
 ·rw [Heap.put_ne _ _ _ (sb p hp)]; exact gF p hp
theorem SI.weak {E' : Heap} (h : SI A b1 b3 b5 b7 yl S E H k) (hle : E'.le E) : SI A b1 b3 b5 b7 yl S E' H k := by
 obtain ⟨o1, o3, o5, o7, oy⟩ := h.off
 obtain ⟨s, L, g5, gO, gF, gN, gM, gV⟩ := h.ls
 exact ⟨hle.trans h.leE, ⟨hle.none o1, hle.none o3, hle.none o5, hle.none o7, hle.none oy⟩, h.ne, h.c1, h.c3, h.c7, h.may, s, L, g5, gO, gF.le hle, gN, gM, gV⟩
theorem SI.puty {g : GO} (h : SI A b1 b3 b5 b7 yl S E H k) (hy : yl ≠ b1 ∧ yl ≠ b3 ∧ yl ≠ b5 ∧ yl ≠ b7) : SI A b1 b3 b5 b7 yl S E (H.put yl g) k := by
 obtain ⟨y1, y3, y5, y7⟩ := hy
 obtain ⟨s, L, g5, gO, gF, gN, gM, gV⟩ := h.ls
 refine ⟨le_put_off h.leE h.off.2.2.2.2, h.off, h.ne, ?_, ?_, ?_, h.may, s, L, ?_, gO.put_off fun p hp => (gN p hp).2.2.2.2, gF, gN, gM, gV⟩
 ·rw [Heap.put_ne _ _ _ y1.symm]; exact h.c1
 ·rw [Heap.put_ne _ _ _ y3.symm]; exact h.c3
 ·rw [Heap.put_ne _ _ _ y7.symm]; exact h.c7
 ·rw [Heap.put_ne _ _ _ y5.symm]; exact g5
end
theorem S_round {C : Ctx} {A H2 : Heap} {b1 b3 b5 b7 yl : Nat} {r : Loop} {S : List (En × Bool)} {us : List Value} {K : Bool → Heap → Prop} (hS : S.length ≤ 1000000) (hyb : yl ≠ b1 ∧ yl ≠ b3 ∧ yl ≠ b5 ∧ yl ≠ b7) (h : SY A b1 b3 b5 b7 yl r S us K H2) :
 H2 yl = some (true, Rf.lrec r .ready none) ∧ us.length = 2 ∧ rdS C b1 b3 b5 b7 yl r us K H2 := by
 obtain ⟨E, k, hk, x, hAE, hI, hry, hus, hx, hK, hKe⟩ := h
 refine ⟨hry, by rw [hus]; rfl, x, fnv S[k].2, hus, ?_⟩
 obtain ⟨y1, y3, y5, y7⟩ := hyb
 intro b38 n38
 refine nwT rfl ?_
 have ny : yl ≠ b38 := fun e => by rw [e, n38] at hry; cases hry
 have I40 := hI.grow (g := .row (T_zset_Entry.c x)) n38 ny
 have l40 := Heap.le_put n38 (g := .row (T_zset_Entry.c x)) (m := true)
 have hb : (H2.put b38 (.row (T_zset_Entry.c x))) b38 = some (true, .row (T_zset_Entry.c x)) := Heap.put_same ..
 have hbE : (E.put b38 (.row (T_zset_Entry.c x))) b38 = some (true, .row (T_zset_Entry.c x)) := Heap.put_same ..
 have hEE : E.le (E.put b38 (.row (T_zset_Entry.c x))) := Heap.le_put (hI.leE.none n38)
 have hE38 := hI.leE.none n38
 generalize H2.put b38 (.row (T_zset_Entry.c x)) = H40 at *
 generalize E.put b38 (.row (T_zset_Entry.c x)) = E2 at *
 have hy40 := l40 _ _ hry
 refine ⟨hy40, ?_⟩
 have I41 := I40.puty (g := Rf.lrec r .busy none) ⟨y1, y3, y5, y7⟩
 have hy41 : (H40.put yl (Rf.lrec r .busy none)) yl = some (true, Rf.lrec r .busy none) := Heap.put_same ..
 generalize H40.put yl (Rf.lrec r .busy none) = H41 at *
 have hAE2 := hAE.trans hEE
 have hA41 := hAE2.trans I41.leE
 have hb41 := I41.leE _ _ hbE
 refine fL hb41 rfl (mayC_ok (hx.1.le hA41) hx.2.1 hx.2.2.1 ?_)
 obtain ⟨n13, n57, n51, n53, n71, n73⟩ := I41.ne
 obtain ⟨o1, o3, o5, o7, oy⟩ := hI.off
 refine ift.of (fun h => ?_) (fun h => ?_)
 ·have hbad : mayR S[k].1.1 = false := by simpa using h
  refine stI I41.c1 (stI (c := .int .i64 0) (by rw [Heap.put_ne _ _ _ n13.symm]; exact I41.c3) ⟨?_, hKe _ ⟨?_, ?_, ?_, ?_⟩ (Heap.put_same ..)⟩)
  ·rw [Heap.put_ne _ _ _ y3, Heap.put_ne _ _ _ y1]; exact hy41
  ·exact le_put_off (le_put_off (le_put_off (hEE.trans I41.leE) o1) o3) oy
  ·rw [Heap.put_ne _ _ _ y1.symm, Heap.put_ne _ _ _ n13, Heap.put_same]
  ·rw [Heap.put_ne _ _ _ y3.symm, Heap.put_same]
  ·exact List.any_eq_true.2 ⟨S[k], List.getElem_mem hk, by rw [hbad]; rfl⟩
 have hmay : mayR S[k].1.1 = true := by simpa using h
 have hN : x.N = S[k].1.2 := hx.2.2.2.1
 have htk : S.take (k + 1) = S.take k ++ [S[k]] := by rw [List.take_add_one, List.getElem?_eq_getElem hk]; rfl
 refine ⟨fun _ Hx => Hx b7 = some (true, .row [.int .i64 (if (S.take (k + 1)).any (fun x => outE x.1.2) then 80 else 0)]) ∧ ∀ b, b ≠ b7 → Hx b = H41 b, ?_, ?_⟩
 ·refine fI hb41 rfl (out_ok ?_)
  refine ift.of (fun h => ?_) (fun h => ?_)
  ·refine stI I41.c7 ⟨?_, fun b hb => Heap.put_ne _ _ _ hb⟩
   have h : outE S[k].1.2 = true := by rw [← hN]; exact h
   rw [Heap.put_same, htk, List.any_append, if_pos (by simp [h])]
  ·have h : outE S[k].1.2 = false := by rw [← hN]; exact h
   refine ⟨?_, fun b _ => rfl⟩
   have e : ([S[k]].any fun x => outE x.1.2) = false := by simp [h]
   rw [htk, List.any_append, e, Bool.or_false]; exact I41.c7
 rintro _ Hx ⟨x7, xo⟩
 obtain ⟨s, L, g5, gO, gF, gN, gM, gV⟩ := I41.ls
 have gOx : Own Hx 2 s (L.flatMap fun x => T_zset_Entry.c x.1) := by
  obtain ⟨z1, z2, z3, z4⟩ := gO
  refine ⟨z1, z2, z3, ?_⟩
  rcases z4 with z4 | ⟨c, sp, w1, w2, w3⟩
  ·exact .inl z4
  ·exact .inr ⟨c, sp, w1, by rw [xo _ (gN _ w1).2.2.2.1]; exact w2, w3⟩
 have leEx : E2.le Hx := fun b e hb => by
  have : b ≠ b7 := fun e' => by subst e'; rw [I41.off.2.2.2.1] at hb; cases hb
  rw [xo b this]; exact I41.leE _ _ hb
 have leOff : E2.le (Hx.off s) := Heap.le_off leEx gF
 have at_ : ∀ (b : Nat) (e : Bool × GO), Hx b = some e → (∀ p, s.p = some p → p.1 ≠ b) → (Hx.off s) b = some e := fun b e hb hn => Heap.off_some hb hn
 have x5 := at_ b5 _ (by rw [xo b5 n57]; exact g5) fun p hp => (gN p hp).2.2.1
 have xb := leOff _ _ hbE
 have hlL : L.length = k := by
  have := congrArg List.length gM
  simp only [List.length_map, List.length_take] at this; omega
 have hsl : s.len = L.length := by
  have h1 := gOx.1
  have h2 : (L.flatMap fun x => T_zset_Entry.c x.1).length = L.length * 2 := by
   clear gO gOx gM gV h1 hlL
   induction L with
   | nil => rfl
   | cons y L ih => rw [List.flatMap_cons, List.length_append, ih, List.length_cons, show (T_zset_Entry.c y.1).length = 2 from rfl]; omega
  omega
 refine ⟨Hx.off s, Heap.off_le s Hx, fL (j := 0) x5 rfl (fL xb rfl (fI xb rfl (fnv_ok ⟨_, rfl, Heap.off_le s Hx, ?_⟩)))⟩
 intro b72 n72
 have l73 := Heap.le_put n72 (g := .row (T_zset_Entry.c (⟨x.Row, doE S[k].2 x.N⟩ : T_zset_Entry) ++ [])) (m := true)
 have h72 : (Hx.put b72 (.row (T_zset_Entry.c (⟨x.Row, doE S[k].2 x.N⟩ : T_zset_Entry) ++ []))) b72 = some (true, .row (T_zset_Entry.c (⟨x.Row, doE S[k].2 x.N⟩ : T_zset_Entry) ++ [])) := Heap.put_same ..
 generalize Hx.put b72 (.row (T_zset_Entry.c (⟨x.Row, doE S[k].2 x.N⟩ : T_zset_Entry) ++ [])) = H73 at *
 have l7 := (Heap.off_le s Hx).trans l73
 refine ⟨l7, ?_⟩
 have gO73 := gOx.le l73
 have l7o : (Hx.off s).le (H73.off s) := Heap.le_off l7 (Heap.off_fresh s Hx)
 refine apS_ownF (ys := T_zset_Entry.c (⟨x.Row, doE S[k].2 x.N⟩ : T_zset_Entry)) gO73.off (.inr ⟨rfl, _, rfl, rds_row h72 fun j v hj => by simpa using hj⟩) rfl (by intro u hu; simp [T_zset_Entry.c] at hu; rcases hu with rfl | rfl <;> rfl) (by show (s.len + 1) * 32 ≤ _; omega) (by show s.len + 1 ≤ _; omega) fun r' H76 hO hlen => ?_
 have l76 := l7o.trans hO.le
 refine ⟨l76, stI (l76 _ _ x5) ⟨?_, hK _ ?_ (Heap.put_same ..)⟩⟩
 ·have : (Hx.off s) yl = some (true, Rf.lrec r .busy none) := at_ yl _ (by rw [xo yl y7]; exact hy41) fun p hp => (gN p hp).2.2.2.2
  rw [Heap.put_ne _ _ _ y5]; exact l76 _ _ this
 have rN : ∀ b e, (Hx.off s) b = some e → ∀ p, r'.p = some p → p.1 ≠ b := fun b e hb p hp e' => by
  have := hO.fresh p hp
  rw [e', l7o _ _ hb] at this; cases this
 have x1 := at_ b1 _ (by rw [xo b1 n71.symm]; exact I41.c1) fun p hp => (gN p hp).1
 have x3 := at_ b3 _ (by rw [xo b3 n73.symm]; exact I41.c3) fun p hp => (gN p hp).2.1
 have x7' := at_ b7 _ x7 fun p hp => (gN p hp).2.2.2.1
 have xy := at_ yl _ (by rw [xo yl y7]; exact hy41) fun p hp => (gN p hp).2.2.2.2
 refine ⟨le_put_off (le_put_off ((hEE.trans leOff).trans l76) o5) oy, ⟨o1, o3, o5, o7, oy⟩, ⟨n13, n57, n51, n53, n71, n73⟩, ?_, ?_, ?_, ?_, r', L ++ [((⟨x.Row, doE S[k].2 x.N⟩ : T_zset_Entry), (S[k].1.1, doE S[k].2 S[k].1.2))], ?_, ?_, ?_, ?_, ?_, ?_⟩
 ·rw [Heap.put_ne _ _ _ y1.symm, Heap.put_ne _ _ _ n51.symm]; exact l76 _ _ x1
 ·rw [Heap.put_ne _ _ _ y3.symm, Heap.put_ne _ _ _ n53.symm]; exact l76 _ _ x3
 ·rw [Heap.put_ne _ _ _ y7.symm, Heap.put_ne _ _ _ n57.symm]; exact l76 _ _ x7'
 ·intro z hz
  rw [htk] at hz
  rcases List.mem_append.1 hz with hz | hz
  ·exact hI.may z hz
  ·have : z = S[k] := by simpa using hz
   subst this; exact hmay
 ·rw [Heap.put_ne _ _ _ y5.symm, Heap.put_same]
 ·rw [List.flatMap_append]
  have := hO.own
  refine (Own.put_off (Own.put_off (cs := (L.flatMap fun x => T_zset_Entry.c x.1) ++ T_zset_Entry.c (⟨x.Row, doE S[k].2 x.N⟩ : T_zset_Entry)) this fun p hp => rN b5 _ x5 p hp) fun p hp => rN yl _ xy p hp)
 ·exact hO.fresh.le ((hEE.trans leOff).trans l7o)
 ·exact fun p hp => ⟨rN b1 _ x1 p hp, rN b3 _ x3 p hp, rN b5 _ x5 p hp, rN b7 _ x7' p hp, rN yl _ xy p hp⟩
 ·rw [htk, List.map_append, List.map_append, gM]; rfl
 ·intro z hz
  rcases List.mem_append.1 hz with hz | hz
  ·exact gV z hz
  ·have : z = ((⟨x.Row, doE S[k].2 x.N⟩ : T_zset_Entry), (S[k].1.1, doE S[k].2 S[k].1.2)) := by simpa using hz
   subst this
   exact ⟨⟨hx.1, hx.2.1, hx.2.2.1⟩, by show doE _ x.N = _; rw [hN]⟩
end Sx
end

noncomputable section
set_option linter.unusedVariables false
set_option linter.unusedSimpArgs false
set_option maxRecDepth 10000
namespace Sx
open Go Go.Proofs
/-- a part: entries, and whether they are turned -/
def PtIs (A : Heap) (v : List En × Bool) (x : T_zset_part) : Prop := EnL A x.l_ v.1 ∧ x.do_ = fnv v.2
def seqS (ps : List (List En × Bool)) : List (En × Bool) := ps.flatMap fun p => p.1.map fun e => (e, p.2)
theorem seqS_snoc {ps : List (List En × Bool)} {p : List En × Bool} : seqS (ps ++ [p]) = seqS ps ++ p.1.map fun e => (e, p.2) := by unfold seqS; rw [List.flatMap_append]; simp
theorem seqS_at {ps : List (List En × Bool)} {i j : Nat} (hi : i < ps.length) (hj : j < ps[i].1.length) : (seqS ps)[(seqS (ps.take i)).length + j]? = some (ps[i].1[j], ps[i].2) := by
 have e : ps = ps.take i ++ ps[i] :: ps.drop (i + 1) := by rw [← List.drop_eq_getElem_cons hi, List.take_append_drop]
 have e2 : seqS ps = seqS (ps.take i) ++ ((ps[i].1.map fun e => (e, ps[i].2)) ++ seqS (ps.drop (i + 1))) := by
  conv => lhs; rw [e]
  unfold seqS; rw [List.flatMap_append, List.flatMap_cons]
 rw [e2, List.getElem?_append_right (by omega), Nat.add_sub_cancel_left, List.getElem?_append_left (by simpa using hj), List.getElem?_map, List.getElem?_eq_getElem hj]
 rfl
theorem seqS_take {ps : List (List En × Bool)} {i : Nat} (hi : i < ps.length) : (seqS (ps.take (i + 1))).length = (seqS (ps.take i)).length + ps[i].1.length := by
 rw [List.take_add_one, List.getElem?_eq_getElem hi]
 show (seqS (ps.take i ++ [ps[i]])).length = _
 rw [seqS_snoc, List.length_append, List.length_map]
theorem fnv_one (b : Bool) : (fnv b).oneCell' = true := by cases b <;> rfl
theorem fV {H : Heap} {b j : Nat} {m : Bool} {cs : List Value} {t : Value} {K : Value → Prop} (h : H b = some (m, .row cs)) (hj : cs[j]? = some t) (k : K t) : ldV H ((b, 0).1, (b, 0).2 + j) K := ⟨t, by rw [rd_row h, Nat.zero_add]; exact hj, k⟩
theorem rng_first {C : Ctx} {A H : Heap} {b1 b3 b5 b7 b9 : Nat} {pl : Sl} {ps : List (List En × Bool)} {nx rt : Nat → Heap → Prop} (hP : SlIs (PtIs A) T_zset_part.c A pl ps) (hS : (seqS ps).length ≤ 1000000)
 (hA : A.le H) (h9 : A b9 = some (true, .row [slv pl])) (off : A b1 = none ∧ A b3 = none ∧ A b5 = none ∧ A b7 = none) (ne : b1 ≠ b3 ∧ b5 ≠ b7 ∧ b5 ≠ b1 ∧ b5 ≠ b3 ∧ b7 ≠ b1 ∧ b7 ≠ b3)
 (c1 : H b1 = some (true, .row [slv Sl.nil])) (c3 : H b3 = some (true, .row [.int .i64 0])) (c5 : H b5 = some (true, .row [slv Sl.nil])) (c7 : H b7 = some (true, .row [.int .i64 0]))
 (hn : ∀ D yl E H', A.le E → E D = some (true, .obj (.deferred (some []))) → A D = none → D ≠ b1 → D ≠ b3 → D ≠ b5 → D ≠ b7 → SI A b1 b3 b5 b7 yl (seqS ps) E H' (seqS ps).length → nx D H')
 (hr : ∀ D E H', A.le E → E D = some (true, .obj (.deferred (some []))) → A D = none → D ≠ b1 → D ≠ b3 → SErr b1 b3 (seqS ps) E H' → rt D H') :
 Rf.rng Tryz.prog C (.func (.func 64) (List.toArray []) (List.toArray [pv (some (b9, 0))])) 2 H (rdS C b1 b3 b5 b7) nx rt := by
 refine ⟨64, [pv (some (b9, 0))], rfl, ok_zset_each_1, fun D yl r hD hyl hne => ⟨SY A b1 b3 b5 b7 yl r (seqS ps), fun us K H2 hY => ?_, fun hy => ?_⟩⟩
 all_goals
  have hyb : yl ≠ b1 ∧ yl ≠ b3 ∧ yl ≠ b5 ∧ yl ≠ b7 := ⟨fun e => (by rw [e, c1] at hyl; cases hyl), fun e => (by rw [e, c3] at hyl; cases hyl), fun e => (by rw [e, c5] at hyl; cases hyl), fun e => (by rw [e, c7] at hyl; cases hyl)⟩
  have hDb : D ≠ b1 ∧ D ≠ b3 ∧ D ≠ b5 ∧ D ≠ b7 := ⟨fun e => (by rw [e, c1] at hD; cases hD), fun e => (by rw [e, c3] at hD; cases hD), fun e => (by rw [e, c5] at hD; cases hD), fun e => (by rw [e, c7] at hD; cases hD)⟩
 ·exact S_round hS hyb hY
 have hAD := hA.none hD
 have hAy := hA.none hyl
 have lD := Heap.le_put hAD (g := .obj (.deferred (some []))) (m := true)
 have e0D : (A.put D (.obj (.deferred (some [])))) D = some (true, .obj (.deferred (some []))) := Heap.put_same ..
 have y0 : (A.put D (.obj (.deferred (some [])))) yl = none := by rw [Heap.put_ne _ _ _ hne.symm]; exact hAy
 have hle0 : (A.put D (.obj (.deferred (some [])))).le (H.put D (.obj (.deferred (some [])))) := fun x e hx => by
  by_cases hb : x = D
  ·subst hb; rw [Heap.put_same] at hx ⊢; exact hx
  ·rw [Heap.put_ne _ _ _ hb] at hx ⊢; exact hA _ _ hx
 have I0 : SI A b1 b3 b5 b7 yl (seqS ps) (A.put D (.obj (.deferred (some [])))) ((H.put D (.obj (.deferred (some [])))).put yl (Rf.lrec r .ready none)) 0 := by
  obtain ⟨d1, d3, d5, d7⟩ := hDb
  obtain ⟨y1, y3, y5, y7⟩ := hyb
  obtain ⟨f1, f3, f5, f7⟩ := off
  refine ⟨le_put_off hle0 y0, ⟨?_, ?_, ?_, ?_, y0⟩, ne, ?_, ?_, ?_, fun x hx => (by simp at hx), Sl.nil, [], ?_, Own.nil _ _, Fresh.nil _, fun p hp => (by cases hp), rfl, fun x hx => (by cases hx)⟩
  ·rw [Heap.put_ne _ _ _ d1.symm]; exact f1
  ·rw [Heap.put_ne _ _ _ d3.symm]; exact f3
  ·rw [Heap.put_ne _ _ _ d5.symm]; exact f5
  ·rw [Heap.put_ne _ _ _ d7.symm]; exact f7
  ·rw [Heap.put_ne _ _ _ y1.symm, Heap.put_ne _ _ _ d1.symm]; exact c1
  ·rw [Heap.put_ne _ _ _ y3.symm, Heap.put_ne _ _ _ d3.symm]; exact c3
  ·rw [Heap.put_ne _ _ _ y7.symm, Heap.put_ne _ _ _ d7.symm]; exact c7
  ·rw [Heap.put_ne _ _ _ y5.symm, Heap.put_ne _ _ _ d5.symm]; exact c5
 have hy1 : ((H.put D (.obj (.deferred (some [])))).put yl (Rf.lrec r .ready none)) yl = some (true, Rf.lrec r .ready none) := Heap.put_same ..
 generalize (H.put D (.obj (.deferred (some [])))).put yl (Rf.lrec r .ready none) = H1 at *
 generalize A.put D (.obj (.deferred (some []))) = E0 at *
 clear hle0
 refine Spec.mono (ad_zset_each_1 C hy (b9, 0) (fun H4 => ∃ st pend, H4 yl = some (true, Rf.lrec r st pend) ∧ st ≠ .busy ∧ (pend = none ∧ nx D (H4.put yl (Rf.lrec r .exhausted none)) ∨ pend = some .ret ∧ rt D (H4.put yl (Rf.lrec r .exhausted (some .ret))))) H1 ?_) fun u H4 h => h.2
 unfold sh_zset_each_1
 refine fL (j := 0) (I0.leE _ _ (lD _ _ h9)) rfl ?_
 have hPl := hP.len
 have hPb := hP.bd
 refine ⟨fun x H' => ∃ i : Nat, x = (i : Int) ∧ i ≤ ps.length ∧ SI A b1 b3 b5 b7 yl (seqS ps) E0 H' (seqS (ps.take i)).length ∧ H' yl = some (true, Rf.lrec r .ready none), fun x _ => ps.length - x.toNat, ⟨0, rfl, Nat.zero_le _, I0, hy1⟩, ?_⟩
 rintro _ H5 ⟨i, rfl, hi, I5, hy5⟩
 rw [hPl]
 refine ift.of (fun h => ?_) (fun h => ?_)
 ·have hlt : i < ps.length := by have := of_decide_eq_true h; omega
  refine hP.ld (lD.trans I5.leE) (z := 2) (fun _ => rfl) (by omega) rfl hlt fun x12 hx12 => ?_
  intro b14 n14
  refine ⟨by rw [List.all_eq_true]; intro u hu; simp [T_zset_part.c] at hu; rcases hu with rfl | rfl; · rfl
             ·rw [hx12.2]; exact fnv_one _, nwT rfl ?_⟩
  have ny : yl ≠ b14 := fun e => by rw [e, n14] at hy5; cases hy5
  have I14 := I5.grow (g := .row (T_zset_part.c x12)) n14 ny
  have l14 := Heap.le_put n14 (g := .row (T_zset_part.c x12)) (m := true)
  have e14 : (E0.put b14 (.row (T_zset_part.c x12))) b14 = some (true, .row (T_zset_part.c x12)) := Heap.put_same ..
  have le14 : E0.le (E0.put b14 (.row (T_zset_part.c x12))) := Heap.le_put (I5.leE.none n14)
  have hy14 := l14 _ _ hy5
  generalize H5.put b14 (.row (T_zset_part.c x12)) = H16 at *
  generalize E0.put b14 (.row (T_zset_part.c x12)) = E14 at *
  refine fL (I14.leE _ _ e14) rfl ?_
  have hEl := hx12.1.len
  have hEb := hx12.1.bd
  refine ⟨fun x H' => ∃ j : Nat, x = (j : Int) ∧ j ≤ ps[i].1.length ∧ SI A b1 b3 b5 b7 yl (seqS ps) E14 H' ((seqS (ps.take i)).length + j) ∧ H' yl = some (true, Rf.lrec r .ready none), fun x _ => ps[i].1.length - x.toNat, ⟨0, rfl, Nat.zero_le _, I14, hy14⟩, ?_⟩
  rintro _ H21 ⟨j, rfl, hj, I21, hy21⟩
  rw [hEl]
  refine ift.of (fun h2 => ?_) (fun h2 => ?_)
  ·have hlt2 : j < ps[i].1.length := by have := of_decide_eq_true h2; omega
   have hAE := lD.trans le14
   refine hx12.1.ld (hAE.trans I21.leE) (z := 2) (fun _ => rfl) (by omega) rfl hlt2 fun x28 hx28 => ?_
   intro b30 n30
   refine nwT rfl ?_
   have ny3 : yl ≠ b30 := fun e => by rw [e, n30] at hy21; cases hy21
   have I30 := I21.grow (g := .row (T_zset_Entry.c x28)) n30 ny3
   have l30 := Heap.le_put n30 (g := .row (T_zset_Entry.c x28)) (m := true)
   have e30 : (H21.put b30 (.row (T_zset_Entry.c x28))) b30 = some (true, .row (T_zset_Entry.c x28)) := Heap.put_same ..
   have le30 : E14.le (E14.put b30 (.row (T_zset_Entry.c x28))) := Heap.le_put (I21.leE.none n30)
   have hy30 := l30 _ _ hy21
   generalize H21.put b30 (.row (T_zset_Entry.c x28)) = H32 at *
   generalize E14.put b30 (.row (T_zset_Entry.c x28)) = E30 at *
   have at_ := seqS_at hlt hlt2
   obtain ⟨hk, hgk⟩ := List.getElem?_eq_some_iff.1 at_
   refine bxT e30 (fV (I30.leE _ _ (le30 _ _ e14)) rfl ?_)
   refine ⟨E30, _, hk, x28, hAE.trans le30, I30, hy30, by rw [hgk, hx12.2], by rw [hgk]; exact hx28, fun H' hI' hy' => ?_, fun H' hE' hy' => ?_⟩
   ·refine ift_neg rfl ?_
    rw [w_i64 (by omega) (by omega)]
    exact ⟨⟨j + 1, by omega, by omega, hI'.weak le30, hy'⟩, by first | omega | (dsimp only; omega)⟩
   ·refine ift_pos rfl ⟨.done, some .ret, hy', by decide, .inr ⟨rfl, ?_⟩⟩
    refine hr D E0 _ lD e0D hAD hDb.1 hDb.2.1 ⟨le_put_off ((le14.trans le30).trans hE'.leE) (I5.off.2.2.2.2), ?_, ?_, hE'.bad⟩
    ·rw [Heap.put_ne _ _ _ hyb.1.symm]; exact hE'.c1
    ·rw [Heap.put_ne _ _ _ hyb.2.1.symm]; exact hE'.c3
  ·have hje : j = ps[i].1.length := by have := of_decide_eq_false h2; omega
   rw [w_i64 (by omega) (by omega)]
   refine ⟨⟨i + 1, by omega, by omega, ?_, hy21⟩, by first | omega | (dsimp only; omega)⟩
   rw [seqS_take hlt, ← hje]
   exact I21.weak le14
 ·have hie : i = ps.length := by have := of_decide_eq_false h; omega
  refine ⟨.ready, none, hy5, by decide, .inl ⟨rfl, ?_⟩⟩
  refine hn D yl E0 _ lD e0D hAD hDb.1 hDb.2.1 hDb.2.2.1 hDb.2.2.2 ?_
  have := I5.puty (g := Rf.lrec r .exhausted none) hyb
  rw [hie, List.take_length] at this
  exact this
end Sx
end

noncomputable section
set_option linter.unusedVariables false
set_option linter.unusedSimpArgs false
namespace Sx
open Go
/-- how often a row is there -/
def totE : List (List V × Int) → List V → Int
 | [], _ => 0
 | e :: es, r => (if sameVs e.1 r then e.2 else 0) + totE es r
theorem totE_append (a b : List (List V × Int)) (r : List V) : totE (a ++ b) r = totE a r + totE b r := by
 induction a with
 | nil => simp [totE]
 | cons e a ih => simp only [List.cons_append, totE, ih]; omega
theorem totE_perm {a b : List (List V × Int)} (h : a.Perm b) (r : List V) : totE a r = totE b r := by
 induction h with
 | nil => rfl
 | cons e _ ih => simp only [totE, ih]
 | swap e f l => simp only [totE]; omega
 | trans _ _ h1 h2 => rw [h1, h2]
theorem totE_none {a : List (List V × Int)} {r : List V} (h : ∀ e ∈ a, e.1 ≠ r) : totE a r = 0 := by
 induction a with
 | nil => rfl
 | cons e a ih =>
  have h1 : sameVs e.1 r = false := by
   cases hb : sameVs e.1 r with
   | false => rfl
   | true => exact absurd (sameVs_iff.1 hb) (h e (List.mem_cons_self ..))
  simp only [totE, h1, ih fun e he => h e (List.mem_cons_of_mem _ he)]
  rfl
theorem totE_one {r : List V} {m : Int} : totE [(r, m)] r = m := by
 simp only [totE, sameVs_iff.2 rfl, if_true]; omega
theorem totE_ne {r q : List V} {m : Int} (h : r ≠ q) : totE [(r, m)] q = 0 := totE_none fun e he => by
 have : e = (r, m) := by simpa using he
 subst this; exact h
/-- the rows that are there, rising, each once, with how often -/
structure IsSum (es out : List (List V × Int)) : Prop where
 rise : out.Pairwise fun a b => cmpR a.1 b.1 < 0
 mem : ∀ r n, (r, n) ∈ out ↔ (∃ e ∈ es, e.1 = r) ∧ n = totE es r
theorem IsSum.nil : IsSum [] [] := ⟨List.Pairwise.nil, fun r n => by simp⟩
theorem lt_irr {a : List V} : ¬ cmpR a a < 0 := by have := Lin.row.refl (a := a) trivial; omega
theorem lt_asymm {a b : List V} (h : cmpR a b < 0) : ¬ cmpR b a < 0 := by have := Lin.row.anti a b trivial trivial; omega
theorem rise_ext : ∀ {a b : List (List V × Int)}, a.Pairwise (fun x y => cmpR x.1 y.1 < 0) → b.Pairwise (fun x y => cmpR x.1 y.1 < 0) → (∀ x, x ∈ a ↔ x ∈ b) → a = b
 | [], [], _, _, _ => rfl
 | [], y :: b, _, _, h => absurd ((h y).2 (List.mem_cons_self ..)) (by simp)
 | x :: a, [], _, _, h => absurd ((h x).1 (List.mem_cons_self ..)) (by simp)
 | x :: a, y :: b, ha, hb, h => by
  have ha' := List.pairwise_cons.1 ha
  have hb' := List.pairwise_cons.1 hb
  have e : x = y := by
   have h1 := (h x).1 (List.mem_cons_self ..)
   have h2 := (h y).2 (List.mem_cons_self ..)
   rcases List.mem_cons.1 h1 with h1 | h1
   ·exact h1
   ·rcases List.mem_cons.1 h2 with h2 | h2
    ·exact h2.symm
    ·exact absurd (hb'.1 x h1) (lt_asymm (ha'.1 y h2))
  subst e
  rw [rise_ext ha'.2 hb'.2 fun z => ?_]
  constructor
  ·intro hz
   rcases List.mem_cons.1 ((h z).1 (List.mem_cons_of_mem _ hz)) with h1 | h1
   ·subst h1; exact absurd (ha'.1 z hz) lt_irr
   ·exact h1
  ·intro hz
   rcases List.mem_cons.1 ((h z).2 (List.mem_cons_of_mem _ hz)) with h1 | h1
   ·subst h1; exact absurd (hb'.1 z hz) lt_irr
   ·exact h1
theorem IsSum.uniq {es a b : List (List V × Int)} (h1 : IsSum es a) (h2 : IsSum es b) : a = b :=
 rise_ext h1.rise h2.rise fun x => by obtain ⟨r, n⟩ := x; rw [h1.mem, h2.mem]
theorem IsSum.perm {es fs out : List (List V × Int)} (h : IsSum es out) (hp : es.Perm fs) : IsSum fs out :=
 ⟨h.rise, fun r n => by rw [h.mem, totE_perm hp]; constructor <;> rintro ⟨⟨e, he, hr⟩, hn⟩ <;> refine ⟨⟨e, ?_, hr⟩, hn⟩; exact hp.mem_iff.1 he; exact hp.mem_iff.2 he⟩
/-- a row that is greater than all that are there -/
theorem IsSum.step {es out G : List (List V × Int)} {r : List V} (h : IsSum es out) (h1 : ∀ e ∈ es, cmpR e.1 r < 0) (h2 : ∀ e ∈ G, e.1 = r) (h3 : G ≠ []) : IsSum (es ++ G) (out ++ [(r, totE G r)]) := by
 have hr0 : ∀ e ∈ es, e.1 ≠ r := fun e he e' => by have := h1 e he; rw [e'] at this; exact lt_irr this
 refine ⟨List.pairwise_append.2 ⟨h.rise, by simp, fun a ha b hb => ?_⟩, fun q n => ?_⟩
 ·have : b = (r, totE G r) := by simpa using hb
  subst this
  obtain ⟨⟨e, he, hr⟩, _⟩ := (h.mem a.1 a.2).1 ha
  rw [← hr]; exact h1 e he
 ·rw [List.mem_append, totE_append]
  constructor
  ·rintro (hq | hq)
   ·obtain ⟨⟨e, he, hr⟩, hn⟩ := (h.mem q n).1 hq
    refine ⟨⟨e, List.mem_append_left _ he, hr⟩, ?_⟩
    rw [hn, totE_none (a := G) fun g hg e' => hr0 e he (by rw [hr, ← e', h2 g hg])]; omega
   ·have hq : q = r ∧ n = totE G r := by simpa using hq
    obtain ⟨rfl, rfl⟩ := hq
    obtain ⟨g, hg⟩ := List.exists_mem_of_ne_nil G h3
    refine ⟨⟨g, List.mem_append_right _ hg, h2 g hg⟩, ?_⟩
    rw [totE_none (a := es) hr0]; omega
  ·rintro ⟨⟨e, he, hr⟩, hn⟩
   by_cases hq : q = r
   ·subst hq
    rw [totE_none (a := es) hr0] at hn
    exact .inr (by simp; omega)
   ·have hg0 : totE G q = 0 := totE_none fun g hg e' => hq (by rw [← e', h2 g hg])
    rw [hg0] at hn
    refine .inl ((h.mem q n).2 ⟨⟨e, ?_, hr⟩, by omega⟩)
    rcases List.mem_append.1 he with he | he
    ·exact he
    ·exact absurd (by rw [← hr, h2 e he]) hq
/-- an entry whose row is there already -/
theorem IsSum.add {es A B : List (List V × Int)} {r : List V} {n m : Int} (h : IsSum es (A ++ (r, n) :: B)) : IsSum (es ++ [(r, m)]) (A ++ (r, n + m) :: B) := by
 have hp := List.pairwise_append.1 h.rise
 have hpb := List.pairwise_cons.1 hp.2.1
 refine ⟨List.pairwise_append.2 ⟨hp.1, List.pairwise_cons.2 ⟨hpb.1, hpb.2⟩, fun a ha b hb => ?_⟩, fun q k => ?_⟩
 ·rcases List.mem_cons.1 hb with rfl | hb
  ·exact hp.2.2 a ha (r, n) (List.mem_cons_self ..)
  ·exact hp.2.2 a ha b (List.mem_cons_of_mem _ hb)
 ·have hr := (h.mem r n).1 (List.mem_append_right _ (List.mem_cons_self ..))
  have nA : ∀ k, (r, k) ∉ A := fun k hk => lt_irr (hp.2.2 (r, k) hk (r, n) (List.mem_cons_self ..))
  have nB : ∀ k, (r, k) ∉ B := fun k hk => lt_irr (hpb.1 (r, k) hk)
  rw [totE_append]
  by_cases hq : q = r
  ·subst hq
   rw [totE_one, ← hr.2]
   constructor
   ·intro hk
    rcases List.mem_append.1 hk with hk | hk
    ·exact absurd hk (nA k)
    ·rcases List.mem_cons.1 hk with hk | hk
     ·injection hk with _ hk
      obtain ⟨e, he, hre⟩ := hr.1
      exact ⟨⟨e, List.mem_append_left _ he, hre⟩, hk⟩
     ·exact absurd hk (nB k)
   ·rintro ⟨_, rfl⟩
    exact List.mem_append_right _ (List.mem_cons_self ..)
  ·rw [totE_ne fun e => hq e.symm]
   have e1 : (q, k) ∈ A ++ (r, n + m) :: B ↔ (q, k) ∈ A ++ (r, n) :: B := by
    simp only [List.mem_append, List.mem_cons, Prod.mk.injEq, hq, false_and, false_or]
   rw [e1, h.mem]
   constructor
   ·rintro ⟨⟨e, he, hre⟩, hn⟩; exact ⟨⟨e, List.mem_append_left _ he, hre⟩, by omega⟩
   ·rintro ⟨⟨e, he, hre⟩, hn⟩
    refine ⟨⟨e, ?_, hre⟩, by omega⟩
    rcases List.mem_append.1 he with he | he
    ·exact he
    ·have : e = (r, m) := by simpa using he
     subst this; exact absurd hre.symm hq
/-- an entry whose row is new -/
theorem IsSum.ins {es A B : List (List V × Int)} {r : List V} {m : Int} (h : IsSum es (A ++ B)) (hA : ∀ a ∈ A, cmpR a.1 r < 0) (hB : ∀ b ∈ B, cmpR r b.1 < 0) : IsSum (es ++ [(r, m)]) (A ++ (r, m) :: B) := by
 have hp := List.pairwise_append.1 h.rise
 have nr : ∀ e ∈ es, e.1 ≠ r := fun e he e' => by
  have := (h.mem r (totE es r)).2 ⟨⟨e, he, e'⟩, rfl⟩
  rcases List.mem_append.1 this with this | this
  ·exact lt_irr (hA _ this)
  ·exact lt_irr (hB _ this)
 refine ⟨List.pairwise_append.2 ⟨hp.1, List.pairwise_cons.2 ⟨hB, hp.2.1⟩, fun a ha b hb => ?_⟩, fun q k => ?_⟩
 ·rcases List.mem_cons.1 hb with rfl | hb
  ·exact hA a ha
  ·exact hp.2.2 a ha b hb
 ·have e1 : (q, k) ∈ A ++ (r, m) :: B ↔ (q = r ∧ k = m) ∨ (q, k) ∈ A ++ B := by
   simp only [List.mem_append, List.mem_cons, Prod.mk.injEq]
   constructor
   ·rintro (h | h | h)
    ·exact .inr (.inl h)
    ·exact .inl h
    ·exact .inr (.inr h)
   ·rintro (h | h | h)
    ·exact .inr (.inl h)
    ·exact .inl h
    ·exact .inr (.inr h)
  rw [e1, h.mem, totE_append]
  by_cases hq : q = r
  ·subst hq
   rw [totE_one, totE_none nr]
   constructor
   ·rintro (⟨_, rfl⟩ | ⟨⟨e, he, hre⟩, _⟩)
    ·exact ⟨⟨_, List.mem_append_right _ (List.mem_cons_self ..), rfl⟩, by omega⟩
    ·exact absurd hre (nr e he)
   ·rintro ⟨_, hk⟩; exact .inl ⟨rfl, by omega⟩
  ·rw [totE_ne fun e => hq e.symm]
   constructor
   ·rintro (⟨h1, _⟩ | ⟨⟨e, he, hre⟩, hn⟩)
    ·exact absurd h1 hq
    ·exact ⟨⟨e, List.mem_append_left _ he, hre⟩, by omega⟩
   ·rintro ⟨⟨e, he, hre⟩, hn⟩
    refine .inr ⟨⟨e, ?_, hre⟩, by omega⟩
    rcases List.mem_append.1 he with he | he
    ·exact he
    ·have : e = (r, m) := by simpa using he
     subst this; exact absurd hre.symm hq
end Sx
end

noncomputable section
set_option linter.unusedVariables false
set_option linter.unusedSimpArgs false
set_option maxRecDepth 10000
namespace Sx
open Go Go.Proofs
/-- X, and what a call made -/
def Heap.plus (X H H2 : Heap) : Heap := fun b => match X b with | some e => some e | none => Heap.new H H2 b
theorem Heap.plus_l {X H H2 : Heap} : X.le (Heap.plus X H H2) := fun b e h => by unfold Heap.plus; rw [h]
theorem Heap.plus_le {X H H2 : Heap} (hX : X.le H) (h : H.le H2) : (Heap.plus X H H2).le H2 := fun b e hb => by
 unfold Heap.plus at hb
 split at hb
 ·rename_i e' he; injection hb with hb; subst hb; exact h _ _ (hX _ _ he)
 ·exact (Heap.new_inv hb).2
theorem Heap.plus_none {X H H2 : Heap} {b : Nat} (hX : X b = none) (h : H b ≠ none) : Heap.plus X H H2 b = none := by
 unfold Heap.plus; rw [hX]
 cases hn : Heap.new H H2 b with
 | none => rfl
 | some e => exact absurd (Heap.new_inv hn).1 h
theorem Made.sub {X H H2 : Heap} {l : List V} {t : Sl} (h : Made H H2 l t) (hX : X.le H) : Made X (Heap.plus X H H2) l t := by
 have key : ∀ b e, H b = none → H2 b = some e → X b = none ∧ Heap.plus X H H2 b = some e := fun b e hb he => by
  have hx := hX.none hb
  refine ⟨hx, ?_⟩
  unfold Heap.plus; rw [hx]; exact Heap.new_some he hb
 refine ⟨Heap.plus_l, h.row.le fun b e hb => ?_, ?_⟩
 ·obtain ⟨h1, h2⟩ := Heap.new_inv hb
  obtain ⟨h3, h4⟩ := key b e h1 h2
  exact Heap.new_some h4 h3
 ·obtain ⟨k, hk⟩ := h.sp
  exact ⟨k, hk.to fun b e h1 h2 => key b e h1 h2⟩
/-- X, and a slice's block -/
def Heap.withS (X : Heap) (s : Sl) (H : Heap) : Heap := fun b => if s.p.map (fun p => p.1) = some b then H b else X b
theorem Heap.withS_le {X H : Heap} {s : Sl} (h : X.le H) : (X.withS s H).le H := fun b e hb => by
 unfold Heap.withS at hb
 split at hb
 ·exact hb
 ·exact h _ _ hb
theorem OwnF.sub {X G H : Heap} {z : Nat} {s : Sl} {cs : List Value} (h : OwnF G H z s cs) (hX : X.le G) : OwnF X (X.withS s H) z s cs := by
 have hf := h.fresh.le hX
 refine ⟨fun b e hb => ?_, ?_, hf⟩
 ·unfold Heap.withS
  rw [if_neg]
  ·exact hb
  ·intro hh
   obtain ⟨p, hp, rfl⟩ := Option.map_eq_some_iff.1 hh
   rw [hf p hp] at hb; cases hb
 ·obtain ⟨h1, h2, h3, h4⟩ := h.own
  refine ⟨h1, h2, h3, ?_⟩
  rcases h4 with h4 | ⟨b, sp, q1, q2, q3⟩
  ·exact .inl h4
  ·refine .inr ⟨b, sp, q1, ?_, q3⟩
   unfold Heap.withS
   rw [if_pos (by rw [q1]; rfl)]; exact q2
/-- a list of entries that grows, each row a copy -/
structure OgE (H B : Heap) (es : List En) (s : Sl) (ys : List T_zset_Entry) : Prop where
 own : OwnF H B 2 s (ys.flatMap T_zset_Entry.c)
 len : ys.length = es.length
 done : ∀ (j : Nat) (e : En) (y : T_zset_Entry), es[j]? = some e → ys[j]? = some y → Made H (B.off s) e.1 y.Row ∧ y.N = e.2
theorem OgE.nil {H : Heap} : OgE H H [] Sl.nil [] := ⟨OwnF.nil H 2, rfl, fun j e y he => by simp at he⟩
theorem OgE.step {H B B2 B4 : Heap} {es : List En} {s r t : Sl} {ys : List T_zset_Entry} {l : List V} {n : Int} (h : OgE H B es s ys) (hm : Made B B2 l t) (h4 : OwnF (B2.off s) B4 2 r (ys.flatMap T_zset_Entry.c ++ T_zset_Entry.c (⟨t, n⟩ : T_zset_Entry))) : OgE H B4 (es ++ [(l, n)]) r (ys ++ [(⟨t, n⟩ : T_zset_Entry)]) := by
 have hoff : H.le (B2.off s) := Heap.le_off (h.own.le.trans hm.le) h.own.fresh
 have h34 : (B2.off s).le (B4.off r) := Heap.le_off h4.le h4.fresh
 have h12 : (B.off s).le (B2.off s) := Heap.le_off ((Heap.off_le s B).trans hm.le) (Heap.off_fresh s B)
 refine ⟨?_, by simp [h.len], fun j e y hl hy => ?_⟩
 ·rw [List.flatMap_append]
  have := h4.down hoff
  simpa using this
 ·by_cases hj : j < ys.length
  ·rw [List.getElem?_append_left hj] at hy
   rw [List.getElem?_append_left (by rw [← h.len]; exact hj)] at hl
   obtain ⟨q1, q2⟩ := h.done j e y hl hy
   exact ⟨q1.up (h12.trans h34), q2⟩
  ·have hjl := (List.getElem?_eq_some_iff.1 hy).1
   rw [List.length_append, List.length_singleton] at hjl
   have hje : j = ys.length := by omega
   subst hje
   rw [List.getElem?_append_right (Nat.le_refl _), Nat.sub_self] at hy
   rw [List.getElem?_append_right (by rw [h.len]; exact Nat.le_refl _), h.len, Nat.sub_self] at hl
   simp only [List.getElem?_cons_zero, Option.some.injEq] at hy hl
   subst hy; subst hl
   exact ⟨(hm.off h.own.le h.own.fresh fun p hp => h.own.own.mine hp).up h34, rfl⟩
end Sx
end

noncomputable section
set_option linter.unusedVariables false
set_option linter.unusedSimpArgs false
set_option maxRecDepth 10000
namespace Sx
open Go Go.Proofs
theorem sortE_nil {C : Ctx} {s : Sl} {f : Value} {H : Heap} {K : Heap → Prop} (h : s.len = 0) (k : K H) : c_slices_SortStableFunc_zset_Entry_zset_Entry C s f K H := by
 apply ad_slices_SortStableFunc_zset_Entry_zset_Entry
 unfold sh_slices_SortStableFunc_zset_Entry_zset_Entry
 rw [h]
 apply ad_slices_stableCmpFunc_zset_Entry
 unfold sh_slices_stableCmpFunc_zset_Entry
 refine ⟨fun x B => x = (0, 20) ∧ B = H, fun _ _ => 0, ⟨rfl, rfl⟩, ?_⟩
 rintro _ B ⟨rfl, rfl⟩
 refine ift_neg rfl ?_
 apply ad_slices_insertionSortCmpFunc_zset_Entry
 unfold sh_slices_insertionSortCmpFunc_zset_Entry
 refine ⟨fun x D => x = 1 ∧ D = B, fun _ _ => 0, ⟨rfl, rfl⟩, ?_⟩
 rintro _ D ⟨rfl, hD⟩
 subst hD
 refine ift_neg rfl ?_
 refine ⟨fun x E => x = 20 ∧ E = D, fun _ _ => 0, ⟨rfl, rfl⟩, ?_⟩
 rintro _ E ⟨rfl, hE⟩
 subst hE
 exact ift_neg rfl k
theorem zown_ok {C : Ctx} {A : Heap} {l : List V} {t : Sl} {H : Heap} {K : Sl → Heap → Prop} (hv : VRow A t l) (hle : A.le H) (hz : vsizes l ≤ 1000000) (k : ∀ t2 H2, Made H H2 l t2 → K t2 H2) : c_zset_own C t K H := by
 have main : ∀ v : V, ∀ (A : Heap) (t : Sl) (H : Heap) (K : Sl → Heap → Prop), VRow A t v.l → A.le H → vsizes v.l ≤ 1000000 → (∀ t2 H2, Made H H2 v.l t2 → K t2 H2) → c_zset_own C t K H := by
  refine fun v => V.rec_ (P := fun v => ∀ (A : Heap) (t : Sl) (H : Heap) (K : Sl → Heap → Prop), VRow A t v.l → A.le H → vsizes v.l ≤ 1000000 → (∀ t2 H2, Made H H2 v.l t2 → K t2 H2) → c_zset_own C t K H) (fun v ih => ?_) v
  intro A t H K hv hle hz k
  apply ad_zset_own
  unfold sh_zset_own
  have hl := hv.len
  have hll := vsizes_len v.l
  refine ift.of (fun h => ?_) (fun h => ?_)
  ·simp only [beq_iff_eq] at h
   have : v.l = [] := List.length_eq_zero_iff.1 (by omega)
   refine k _ _ ?_
   rw [this]; exact Made.nil rfl
  ·simp only [beq_eq_false_iff_ne] at h
   obtain ⟨xs, r1, r2, r3⟩ := hv
   refine clone_ok (rdsl_le hle r1) r2 (by omega) (by omega) fun b sp cap B hB nb hcap => ?_
   rw [hl] at hcap ⊢
   refine ⟨fun x D => ∃ (i : Nat) (ys : List TV) (E : Heap), x = (i : Int) ∧ i ≤ v.l.length ∧ D = E.put b (.row (ys.flatMap T_api_Value.c ++ sp)) ∧ Ow A H E b i v.l xs ys, fun x _ => v.l.length - x.toNat,
    ⟨0, xs, B, rfl, Nat.zero_le _, rfl, hB, hle.trans hB, nb, by omega, by omega, r3, fun _ _ => rfl, fun j v x hj => by omega⟩, ?_⟩
   rintro _ D ⟨i, ys, E, rfl, hi, rfl, ho⟩
   have hlen : (Sl.of (some (b, 0)) v.l.length cap).len = v.l.length := rfl
   refine ift.of (fun h => ?_) (fun h => ?_)
   ·have hlt : i < v.l.length := by have := of_decide_eq_true h; omega
    have hi2 : i < ys.length := by rw [ho.len]; exact hlt
    have hyx := ho.rest i (Nat.le_refl _)
    rw [List.getElem?_eq_getElem hi2] at hyx
    have hold := VIs_iff.1 (ho.old.get i _ _ (List.getElem?_eq_getElem hlt) hyx.symm)
    have hmem := List.getElem_mem hlt
    have hsz := vsize_mem hmem
    have hszl : vsize v.l[i] = vsizes v.l[i].l + 1 := by cases v.l[i]; rfl
    have e0 : 0 + ((i : Int).toNat) * 4 + 3 = i * 4 + 3 := by omega
    have hf := flat4 ys
    refine ⟨(b, 0), rfl, rfl, by omega, by rw [hlen]; omega, ?_⟩
    refine ⟨ys[i].L, ?_, ?_⟩
    ·show rd _ (b, 0 + ((i : Int).toNat) * 4 + 3) = _
     rw [e0, rd_same, List.getElem?_append_left (by omega)]
     exact flat_get T_api_Value.c 4 TV.c_len ys i _ (List.getElem?_eq_getElem hi2) 3 _ rfl
    ·refine ih _ hmem A _ _ _ hold.2.2.2 (ho.ale.trans (Heap.le_put ho.nb)) (by omega) fun t2 H2 hm => ?_
     obtain ⟨s1, s2⟩ := ho.step hlt hi2 hm
     refine ⟨(b, 0), rfl, rfl, by omega, by rw [hlen]; omega, ?_⟩
     refine ⟨_, hm.le _ _ (Heap.put_same ..), ?_, ?_⟩
     ·show 0 + ((i : Int).toNat) * 4 + 3 < _
      rw [e0, List.length_append, hf]; omega
     ·show _ ∧ _
      have e1 : (b, 0 + ((i : Int).toNat) * 4 + 3).2 = i * 4 + 3 := e0
      rw [w_i64 (by omega) (by omega)]
      refine ⟨⟨i + 1, _, _, by omega, by omega, ?_, s1⟩, by first | omega | (dsimp only; omega)⟩
      rw [← s2, ← set_L ys i hi2]
      show H2.put b (.row ((List.flatMap T_api_Value.c ys ++ sp).set (0 + ((i : Int).toNat) * 4 + 3) (slv t2))) = _
      rw [e0]
   ·have hie : i = v.l.length := by have := of_decide_eq_false h; omega
    refine k _ _ ?_
    have := ho.fin (sp := sp) (cap := cap) hie (ho.le.none ho.nb) (by omega)
    rw [hie] at this
    exact this
 exact main (.mk 0 0 [] l) A t H K hv hle hz k
/-- what an entry's row is -/
def Rw (A : Heap) (x : T_zset_Entry × En) : Prop := (VRow A x.1.Row x.2.1 ∧ VBs x.2.1 ∧ x.2.1.length ≤ 140737488355328) ∧ x.1.N = x.2.2
theorem sums2R {C : Ctx} {A H : Heap} {x y : T_zset_Entry × En} {K : Int → Heap → Prop} (hx : Rw A x) (hy : Rw A y) (hA : A.le H) (k : K (cmpR x.2.1 y.2.1) H) : c_zset_sums_2 C x.1 y.1 K H := by
 apply c_zset_sums_2.gh
 apply ad_zset_sums_2
 unfold sh_zset_sums_2
 refine box2 fun b1 b3 H4 hle h1 h3 => fL h1 rfl (fL h3 rfl ?_)
 have hA4 := hA.trans hle
 exact pCmpRows_ok (hx.1.1.le hA4) (hy.1.1.le hA4) hx.1.2.2 hy.1.2.2 hx.1.2.1 hy.1.2.1 ⟨H, Gh.le hle, k⟩
/-- entries put into their order, in place -/
theorem sortE {C : Ctx} {A H : Heap} {s : Sl} {L : List (T_zset_Entry × En)} {K : Heap → Prop} (hA : A.le H) (hO : Own H 2 s (L.flatMap fun x => T_zset_Entry.c x.1)) (hF : Fresh A s) (hR : ∀ x ∈ L, Rw A x) (hl : s.len = L.length) (hn : L.length ≤ 1000000)
 (k : ∀ (Z : List (T_zset_Entry × En)) (H2 : Heap), Z.Perm L → Z.Pairwise (fun x y => cmpR x.2.1 y.2.1 ≤ 0) → Own H2 2 s (Z.flatMap fun x => T_zset_Entry.c x.1) → (∀ b, (∀ p, s.p = some p → p.1 ≠ b) → H2 b = H b) → K H2) :
 c_slices_SortStableFunc_zset_Entry_zset_Entry C s (.func (.func 49) (List.toArray []) (List.toArray []) : Value) K H := by
 have hO' := hO
 obtain ⟨o1, o2, o3, o4 | ⟨b, sp, hp, hb, hc⟩⟩ := hO
 ·refine sortE_nil (by omega) (k L H (List.Perm.refl _) ?_ hO' fun _ _ => rfl)
  have : L = [] := List.length_eq_zero_iff.1 (by omega)
  rw [this]; exact List.Pairwise.nil
 have hL0 : (L.zipIdx.map fun e => (e.1.1, (e.1.2, e.2))).flatMap SE.enc = L.flatMap fun x => T_zset_Entry.c x.1 := by
  rw [List.flatMap_map]
  have : ∀ (L : List (T_zset_Entry × En)) (m : Nat), (L.zipIdx m).flatMap (fun e => SE.enc (e.1.1, (e.1.2, e.2))) = L.flatMap fun x => T_zset_Entry.c x.1 := by
   intro L
   induction L with
   | nil => intro m; rfl
   | cons x L ih => intro m; rw [List.zipIdx_cons, List.flatMap_cons, List.flatMap_cons, ih]; rfl
  exact this L 0
 have harr : SE.arr H b sp (L.zipIdx.map fun e => (e.1.1, (e.1.2, e.2))) = H := by
  unfold SE.arr
  rw [hL0]
  funext c
  by_cases hcb : c = b
  ·subst hcb; rw [Heap.put_same, hb]
  ·rw [Heap.put_ne _ _ _ hcb]
 have hlen : (L.zipIdx.map fun e => (e.1.1, (e.1.2, e.2))).length = L.length := by simp
 have hmem : ∀ e ∈ L.zipIdx.map (fun e => (e.1.1, (e.1.2, e.2))), Rw A (e.1, e.2.1) := fun e he => by
  obtain ⟨⟨x, i⟩, hx, rfl⟩ := List.mem_map.1 he
  exact hR x (List.mem_of_getElem? (List.mem_zipIdx_iff_getElem?.1 hx))
 have hι : (L.zipIdx.map fun e => (e.1.1, (e.1.2, e.2))).Pairwise fun x y => x.2.2 < y.2.2 := by
  rw [List.pairwise_map]
  have : ∀ (L : List (T_zset_Entry × En)) (m : Nat), (L.zipIdx m).Pairwise fun x y => x.2 < y.2 := by
   intro L
   induction L with
   | nil => intro m; exact List.Pairwise.nil
   | cons x L ih =>
    intro m
    rw [List.zipIdx_cons]
    refine List.pairwise_cons.2 ⟨fun y hy => ?_, ih _⟩
    have := List.le_snd_of_mem_zipIdx hy
    show m < y.2
    omega
  exact this L 0
 rw [← harr]
 refine SE.sort_ok (R := A) (P := fun e : T_zset_Entry × (En × Nat) => Rw A (e.1, e.2.1)) (κ := fun a c => cmpR a.2.1.1 c.2.1.1) (ι := fun e => e.2.2) (n := L.length) ⟨⟨hp, o2, hl, by omega⟩, hA, hF _ hp, ⟨fun B hB x y hx hy Φ hΦ => ?_⟩, (Lin.row.comp fun e : T_zset_Entry × (En × Nat) => e.2.1.1).sub fun _ _ => trivial⟩ hlen hmem hι fun Z hZp hZs => ?_
 ·have h := sums2R (C := C) (x := (x.1, x.2.1)) (y := (y.1, y.2.1)) (K := fun r H2 => Φ (.int .i64 r) H2) hx hy hB hΦ
  unfold c_zset_sums_2 at h
  refine ⟨49, [], [], rfl, ok_zset_sums_2, ?_⟩
  exact Spec.mono h fun v H2 hh => by obtain ⟨r, hv, hr⟩ := hh; rw [hv]; exact hr
 ·have hperm : (Z.map fun e => (e.1, e.2.1)).Perm L := by
   have := hZp.map (fun e : T_zset_Entry × (En × Nat) => (e.1, e.2.1))
   rw [List.map_map] at this
   have e : (L.zipIdx.map ((fun e : T_zset_Entry × (En × Nat) => (e.1, e.2.1)) ∘ fun e => (e.1.1, (e.1.2, e.2)))) = L := by
    have : ((fun e : T_zset_Entry × (En × Nat) => (e.1, e.2.1)) ∘ fun e : (T_zset_Entry × En) × Nat => (e.1.1, (e.1.2, e.2))) = Prod.fst := by funext e; rfl
    rw [this]; exact List.zipIdx_map_fst 0 L
   rw [e] at this; exact this
  have hZl : Z.length = L.length := by rw [← hperm.length_eq, List.length_map]
  have hcells : Z.flatMap SE.enc = (Z.map fun e => (e.1, e.2.1)).flatMap fun x => T_zset_Entry.c x.1 := by
   rw [List.flatMap_map]; rfl
  refine k (Z.map fun e => (e.1, e.2.1)) _ hperm ?_ ⟨?_, o2, o3, .inr ⟨b, sp, hp, ?_, ?_⟩⟩ fun c hc' => ?_
  ·rw [List.pairwise_map]
   exact hZs.imp fun h => h.le
  ·rw [← hcells, SE.flat_len, hZl, hl]
  ·unfold SE.arr; rw [Heap.put_same, hcells]
  ·rw [← hcells, List.length_append, SE.flat_len, hZl]
   rw [List.length_append, o1] at hc
   rw [← hl]; exact hc
  ·have : c ≠ b := fun e => hc' _ hp (by rw [e])
   unfold SE.arr
   rw [Heap.put_ne _ _ _ this]
/-- a function's end: its results in cells, the mark -/
theorem fin_ok {X B : Heap} {D b1 b3 : Nat} {s : Sl} {e : Int} {K : Sl → Int → Heap → Prop} (hX : X.le B) (x1 : X b1 = none) (x3 : X b3 = none) (xD : X D = none) (d1 : D ≠ b1) (d3 : D ≠ b3) (n13 : b1 ≠ b3) (hD : B D = some (true, .obj (.deferred (some []))))
 (h1 : B b1 = some (true, .row [slv s])) (h3 : B b3 = some (true, .row [.int .i64 e])) (k : ∀ H0, X.le H0 → K s e H0) : Rf.mk1 B D (fun Hm => ldL Hm (b1, 0) fun x => ldI Hm .i64 (b3, 0) fun y => K x y Hm) := by
 have l1 := Heap.le_put x1 (g := .row [slv s]) (m := true)
 have x3' : (X.put b1 (.row [slv s])) b3 = none := by rw [Heap.put_ne _ _ _ n13.symm]; exact x3
 have l3 := Heap.le_put x3' (g := .row [.int .i64 e]) (m := true)
 have r1 : ((X.put b1 (.row [slv s])).put b3 (.row [.int .i64 e])) b1 = some (true, .row [slv s]) := by rw [Heap.put_ne _ _ _ n13, Heap.put_same]
 have r3 : ((X.put b1 (.row [slv s])).put b3 (.row [.int .i64 e])) b3 = some (true, .row [.int .i64 e]) := Heap.put_same ..
 refine ⟨(X.put b1 (.row [slv s])).put b3 (.row [.int .i64 e]), fun b v hb => ?_, ?_, hD, ?_⟩
 ·by_cases h : b = b3
  ·subst h; rw [r3] at hb; injection hb with hb; subst hb; exact h3
  ·by_cases h' : b = b1
   ·subst h'; rw [r1] at hb; injection hb with hb; subst hb; exact h1
   ·rw [Heap.put_ne _ _ _ h, Heap.put_ne _ _ _ h'] at hb; exact hX _ _ hb
 ·rw [Heap.put_ne _ _ _ d3, Heap.put_ne _ _ _ d1]; exact xD
 ·exact fL (j := 0) r1 rfl (fI (j := 0) r3 rfl (k _ (l1.trans l3)))
end Sx
end

noncomputable section
set_option linter.unusedVariables false
set_option linter.unusedSimpArgs false
set_option maxRecDepth 10000
namespace Sx
open Go Go.Proofs
def RwE (A : Heap) (v : En) (x : T_zset_Entry) : Prop := (VRow A x.Row v.1 ∧ VBs v.1 ∧ v.1.length ≤ 140737488355328) ∧ x.N = v.2
theorem totE_bd {r : List V} : ∀ {l : List En}, (∀ e ∈ l, -2147483647 ≤ e.2 ∧ e.2 ≤ 2147483647) → -(2147483647 * (l.length : Int)) ≤ totE l r ∧ totE l r ≤ 2147483647 * (l.length : Int)
 | [], _ => by simp [totE]
 | e :: l, h => by
  have h1 := h e (List.mem_cons_self ..)
  have h2 := totE_bd (r := r) fun x hx => h x (List.mem_cons_of_mem _ hx)
  simp only [totE, List.length_cons]
  split <;> omega
theorem totE_snoc {r : List V} {l : List En} {e : En} (h : e.1 = r) : totE (l ++ [e]) r = totE l r + e.2 := by
 rw [totE_append]
 have : totE [e] r = e.2 := by obtain ⟨a, b⟩ := e; have : a = r := h; subst this; exact totE_one
 rw [this]
theorem group_ok {C : Ctx} {A F B : Heap} {b5 : Nat} {t : Sl} {R : List En} {post : Int × Int → Heap → Prop} (hAF : A.le F) (hF : F.le B) (h5 : B b5 = some (true, .row [slv t])) (hR : SlIs (RwE A) T_zset_Entry.c F t R) (hne : 0 < R.length) (hl : R.length ≤ 1000000)
 (hmay : ∀ e ∈ R, mayR e.1 = true) (hN : ∀ e ∈ R, -2147483647 ≤ e.2 ∧ e.2 ≤ 2147483647)
 (hp : ∀ j : Nat, 0 < j → j ≤ R.length → (∀ i, (h : i < R.length) → i < j → R[i].1 = R[0].1) → (∀ h : j < R.length, R[j].1 ≠ R[0].1) → post ((j : Int), totE (R.take j) R[0].1) B) :
 lp (α := Int × Int) (0, 0) B (fun x126 J127 H128 =>
  jn (α := Bool) (fun x130 H131 =>
  ift x130
  (ldL H131 (b5, 0) fun x160 =>
  ixa x160 x126.1 fun p162 =>
  ldI H131 .i64 ((p162.1, p162.2 + (x126.1 : Int).toNat * 2).1, (p162.1, p162.2 + (x126.1 : Int).toNat * 2).2 + 1) fun x167 =>
  J127 ((w .i64 (x126.1 + 1)), (w .i64 (x126.2 + x167))) H131)
  (post x126 H131))
  (fun J129 => dr H128 fun Hs133 =>
  ldL Hs133 (b5, 0) fun x135 =>
  ift (decide ((x126.1 : Int) < (Sl.len x135 : Int)))
  (ldL Hs133 (b5, 0) fun x138 =>
  ixa x138 0 fun p140 =>
  ldL Hs133 ((p140.1, p140.2 + (0 : Int).toNat * 2).1, (p140.1, p140.2 + (0 : Int).toNat * 2).2 + 0) fun x145 =>
  ldL Hs133 (b5, 0) fun x147 =>
  ixa x147 x126.1 fun p149 =>
  ldL Hs133 ((p149.1, p149.2 + (x126.1 : Int).toNat * 2).1, (p149.1, p149.2 + (x126.1 : Int).toNat * 2).2 + 0) fun x154 =>
  c_value_CmpRows C x145 x154 (fun r157 H158 =>
  Heap.le Hs133 H158 ∧
  J129 ((r157 : Int) == 0) H158) H128)
  (J129 false H128))) := by
 have hAB := hAF.trans hF
 refine ⟨fun x D => D = B ∧ ∃ j : Nat, x.1 = (j : Int) ∧ j ≤ R.length ∧ (∀ i, (h : i < R.length) → i < j → R[i].1 = R[0].1) ∧ x.2 = totE (R.take j) R[0].1, fun x _ => R.length - x.1.toNat, ⟨rfl, 0, rfl, Nat.zero_le _, fun i h hi => by omega, by simp [totE]⟩, ?_⟩
 rintro ⟨_, _⟩ D ⟨rfl, j, rfl, hj, hq, rfl⟩
 refine jb (P := ∃ h : j < R.length, R[j].1 = R[0].1) D ?_ fun b hb => ?_
 ·refine ⟨D, Heap.le.refl _, fL (j := 0) h5 rfl ?_⟩
  rw [hR.len]
  refine ift.of (fun h => ?_) (fun h => ⟨rfl, ?_⟩)
  ·have hlt : j < R.length := by have : (j : Int) < R.length := of_decide_eq_true h; omega
   refine fL (j := 0) h5 rfl (SlIs.fL hR hF (z := 2) (fun _ => rfl) (by omega) (i := 0) rfl hne (j := 0) (f := fun y => y.Row) (fun _ => rfl) fun y1 hy1 => ?_)
   refine fL (j := 0) h5 rfl (SlIs.fL hR hF (z := 2) (fun _ => rfl) (by omega) rfl hlt (j := 0) (f := fun y => y.Row) (fun _ => rfl) fun y2 hy2 => ?_)
   refine pCmpRows_ok (hy1.1.1.le hAB) (hy2.1.1.le hAB) hy1.1.2.2 hy2.1.2.2 hy1.1.2.1 hy2.1.2.1 ⟨Heap.le.refl _, rfl, ?_⟩
   have hz := cmpR_zero (hmay _ (List.getElem_mem hne)) (hmay _ (List.getElem_mem hlt))
   rw [beq_iff_eq, hz]
   exact ⟨fun e => ⟨hlt, e.symm⟩, fun ⟨_, e⟩ => e.symm⟩
  ·have hlt : ¬ j < R.length := by have : ¬ (j : Int) < R.length := of_decide_eq_false h; omega
   exact ⟨fun e => (nomatch e), fun ⟨e, _⟩ => absurd e hlt⟩
 refine ift.of (fun h => ?_) (fun h => ?_)
 ·obtain ⟨hlt, hr⟩ := hb.1 h
  refine fL (j := 0) h5 rfl (SlIs.fI hR hF (z := 2) (fun _ => rfl) (by omega) rfl hlt (j := 1) (f := fun y => y.N) (fun _ => rfl) fun y hy => ?_)
  rw [hy.2]
  have hbd := totE_bd (r := R[0].1) (l := R.take j) fun e he => hN e (List.mem_of_mem_take he)
  have hn1 := hN _ (List.getElem_mem hlt)
  rw [List.length_take, Nat.min_eq_left hj] at hbd
  rw [w_i64 (by omega) (by omega), w_i64 (by dsimp only; omega) (by dsimp only; omega)]
  refine ⟨⟨rfl, j + 1, rfl, by omega, fun i hi hij => ?_, ?_⟩, by first | omega | (dsimp only; omega)⟩
  ·by_cases he : i = j
   ·subst he; exact hr
   ·exact hq i hi (by omega)
  ·rw [List.take_add_one, List.getElem?_eq_getElem hlt]
   exact (totE_snoc hr).symm
 ·have hno : ¬ ∃ h : j < R.length, R[j].1 = R[0].1 := fun e => by rw [hb.2 e] at h; cases h
  refine hp j ?_ hj hq fun hlt e => hno ⟨hlt, e⟩
  rcases Nat.eq_zero_or_pos j with h0 | h0
  ·subst h0; exact absurd ⟨hne, rfl⟩ hno
  ·exact h0
end Sx
end

noncomputable section
set_option linter.unusedVariables false
set_option linter.unusedSimpArgs false
set_option maxRecDepth 10000
namespace Sx
open Go Go.Proofs
def nxS (C : Ctx) (b1 b3 b5 b7 : Nat) (K : Sl → Int → Heap → Prop) : Nat → Heap → Prop :=
 fun D14 H227 =>
 ldI H227 .i64 (b7, 0) fun x84 =>
 ift ((x84 : Int) != 0)
 (dr H227 fun Hs87 =>
 (ldI H227 .i64 (b7, 0) fun x90 =>
 Heap.le Hs87 H227 ∧
 st (b1, 0) (slv Sl.nil) (fun H93 =>
 Heap.le Hs87 H93 ∧
 st (b3, 0) (.int .i64 x90) (fun H94 =>
 Rf.mk1 H94 D14 (fun Hm95 =>
 ldL Hm95 (b1, 0) fun x99 => ldI Hm95 .i64 (b3, 0) fun x101 =>
 K x99 x101 Hm95)) H93) H227) ∧
 (st (b1, 0) (slv Sl.nil) (fun H104 =>
 Heap.le Hs87 H104 ∧
 ldI H104 .i64 (b7, 0) fun x106 =>
 Heap.le Hs87 H104 ∧
 st (b3, 0) (.int .i64 x106) (fun H108 =>
 Rf.mk1 H108 D14 (fun Hm109 =>
 ldL Hm109 (b1, 0) fun x113 => ldI Hm109 .i64 (b3, 0) fun x115 =>
 K x113 x115 Hm109)) H104) H227))
 (ldL H227 (b5, 0) fun x117 =>
 c_slices_SortStableFunc_zset_Entry_zset_Entry C x117 (.func (.func 49) (List.toArray []) (List.toArray []) : Value) (fun H119 =>
 lp (α := Sl) Sl.nil H119 (fun x120 J121 H122 =>
 ldL H122 (b5, 0) fun x123 =>
 ift (decide (((Sl.len x123 : Int) : Int) > 0))
 (lp (α := Int × Int) (0, 0) H122 (fun x126 J127 H128 =>
 jn (α := Bool) (fun x130 H131 =>
 ift x130
 (ldL H131 (b5, 0) fun x160 =>
 ixa x160 x126.1 fun p162 =>
 ldI H131 .i64 ((p162.1, p162.2 + (x126.1 : Int).toNat * 2).1, (p162.1, p162.2 + (x126.1 : Int).toNat * 2).2 + 1) fun x167 =>
 J127 ((w .i64 (x126.1 + 1)), (w .i64 (x126.2 + x167))) H131)
 (c_zset_out C x126.2 (fun r169 H170 =>
 ift r169
 (st (b1, 0) (slv Sl.nil) (fun H172 =>
 st (b3, 0) (.int .i64 80) (fun H173 =>
 Rf.mk1 H173 D14 (fun Hm174 =>
 ldL Hm174 (b1, 0) fun x178 => ldI Hm174 .i64 (b3, 0) fun x180 =>
 K x178 x180 Hm174)) H172) H170)
 (jn (α := Sl) (fun x183 H184 =>
 ldL H184 (b5, 0) fun x200 =>
 slL x200 x126.1 (Sl.len x200 : Int) (Sl.cap x200 : Int) 2 fun t202 =>
 st (b5, 0) (slv t202) (fun H208 =>
 J121 x183 H208) H184)
 (fun J182 => ift ((x126.2 : Int) != 0)
 (ldL H170 (b5, 0) fun x187 =>
 ixa x187 0 fun p189 =>
 ldL H170 ((p189.1, p189.2 + (0 : Int).toNat * 2).1, (p189.1, p189.2 + (0 : Int).toNat * 2).2 + 0) fun x194 =>
 c_zset_own C x194 (fun r196 H197 =>
 apd (T_zset_Entry.c T_zset_Entry.zero) 32 x120 ((T_zset_Entry.c (⟨r196, x126.2⟩ : T_zset_Entry)) ++ []) 1 (fun r198 H199 =>
 J182 r198 H199) H197) H170)
 (J182 x120 H170)))) H131))
 (fun J129 => dr H128 fun Hs133 =>
 ldL Hs133 (b5, 0) fun x135 =>
 ift (decide ((x126.1 : Int) < (Sl.len x135 : Int)))
 (ldL Hs133 (b5, 0) fun x138 =>
 ixa x138 0 fun p140 =>
 ldL Hs133 ((p140.1, p140.2 + (0 : Int).toNat * 2).1, (p140.1, p140.2 + (0 : Int).toNat * 2).2 + 0) fun x145 =>
 ldL Hs133 (b5, 0) fun x147 =>
 ixa x147 x126.1 fun p149 =>
 ldL Hs133 ((p149.1, p149.2 + (x126.1 : Int).toNat * 2).1, (p149.1, p149.2 + (x126.1 : Int).toNat * 2).2 + 0) fun x154 =>
 c_value_CmpRows C x145 x154 (fun r157 H158 =>
 Heap.le Hs133 H158 ∧
 J129 ((r157 : Int) == 0) H158) H128)
 (J129 false H128))))
 (st (b1, 0) (slv x120) (fun H209 =>
 st (b3, 0) (.int .i64 0) (fun H210 =>
 Rf.mk1 H210 D14 (fun Hm211 =>
 ldL Hm211 (b1, 0) fun x215 => ldI Hm211 .i64 (b3, 0) fun x217 =>
 K x215 x217 Hm211)) H209) H122))) H227)
theorem OgE.up {H B B2 : Heap} {es : List En} {s : Sl} {ys : List T_zset_Entry} (h : OgE H B es s ys) (hle : B.le B2) : OgE H B2 es s ys :=
 ⟨h.own.up hle, h.len, fun j e y a b => by
  obtain ⟨q1, q2⟩ := h.done j e y a b
  exact ⟨q1.up (Heap.le_off ((Heap.off_le s B).trans hle) (Heap.off_fresh s B)), q2⟩⟩
theorem Heap.withS_none {X H : Heap} {s : Sl} {b : Nat} (h : X b = none) (hn : ∀ p, s.p = some p → p.1 ≠ b) : X.withS s H b = none := by
 unfold Heap.withS
 rw [if_neg]
 ·exact h
 ·intro hh
  obtain ⟨p, hp, e⟩ := Option.map_eq_some_iff.1 hh
  exact hn p hp e
open Classical in
noncomputable def lenAt (b : Nat) (H : Heap) : Nat := if h : ∃ t : Sl, H b = some (true, .row [slv t]) then (Classical.choose h).len else 0
theorem slv_len {s t : Sl} (h : slv s = slv t) : s.len = t.len := by
 unfold slv at h
 injection h with _ h _
theorem lenAt_of {b : Nat} {H : Heap} {t : Sl} (h : H b = some (true, .row [slv t])) : lenAt b H = t.len := by
 unfold lenAt
 have hex : ∃ t : Sl, H b = some (true, .row [slv t]) := ⟨t, h⟩
 rw [dif_pos hex]
 have := h.symm.trans (Classical.choose_spec hex)
 injection this with this; injection this with _ this; injection this with this; injection this with this
 exact (slv_len this).symm
theorem cellsE_len : ∀ L : List (T_zset_Entry × En), (L.flatMap fun x => T_zset_Entry.c x.1).length = L.length * 2
 | [] => rfl
 | y :: L => by rw [List.flatMap_cons, List.length_append, cellsE_len L, List.length_cons, show (T_zset_Entry.c y.1).length = 2 from rfl]; omega
/-- the rest of a list of entries -/
theorem SlIs.dropE {A F : Heap} {t : Sl} {R : List En} {j : Nat} {K : Sl → Prop} (h : SlIs (RwE A) T_zset_Entry.c F t R) (hj : j ≤ R.length) (hc : t.len ≤ t.cap) (k : ∀ t', SlIs (RwE A) T_zset_Entry.c F t' (R.drop j) → t'.len ≤ t'.cap → t'.len = t.len - j → K t') :
 slL t (j : Int) (Sl.len t : Int) (Sl.cap t : Int) 2 K := by
 obtain ⟨xs, h1, h2, h3, h4, h5⟩ := h
 have fl : ∀ xs : List T_zset_Entry, (xs.flatMap T_zset_Entry.c).length = xs.length * 2 := by
  intro xs
  induction xs with
  | nil => rfl
  | cons x xs ih => rw [List.flatMap_cons, List.length_append, ih, List.length_cons, show (T_zset_Entry.c x).length = 2 from rfl]; omega
 have fd : ∀ (xs : List T_zset_Entry) (n : Nat), n ≤ xs.length → (xs.flatMap T_zset_Entry.c).drop (n * 2) = (xs.drop n).flatMap T_zset_Entry.c := by
  intro xs
  induction xs with
  | nil => intro n hn; have : n = 0 := by simpa using hn
           subst this; rfl
  | cons x xs ih =>
   intro n hn
   cases n with
   | zero => simp
   | succ n =>
    rw [List.flatMap_cons, List.drop_append, show (T_zset_Entry.c x).length = 2 from rfl, List.drop_of_length_le (by rw [show (T_zset_Entry.c x).length = 2 from rfl]; omega), List.nil_append, show (n + 1) * 2 - 2 = n * 2 by omega, ih n (by simpa using hn)]
    rfl
 refine ⟨by omega, by omega, by omega, by omega, _, rfl, k _ ?_ ?_ ?_⟩
 ·have hs := rdsl_slice (hr := h1) (lo := (j : Int)) (hi := (Sl.len t : Int)) (mx := (Sl.cap t : Int)) (z := 2) (by omega) (by omega) (by omega) (by rw [fl]; omega)
  have e0 : ((j : Int)).toNat = j := by omega
  rw [e0, fd xs j (by omega)] at hs
  have e1 : (((xs.drop j).flatMap T_zset_Entry.c).take (((Sl.len t : Int) - (j : Int)).toNat * 2)) = (xs.drop j).flatMap T_zset_Entry.c := List.take_of_length_le (by rw [fl, List.length_drop]; omega)
  rw [e1] at hs
  refine ⟨xs.drop j, ?_, ?_, by simp [h3], by rw [List.length_drop]; omega, fun i v x hv hx => ?_⟩
  ·rw [e0]; exact hs
  ·show ((Sl.len t : Int) - (j : Int)).toNat = _
   rw [List.length_drop]; omega
  ·rw [List.getElem?_drop] at hv hx; exact h5 _ v x hv hx
 ·show ((Sl.len t : Int) - (j : Int)).toNat ≤ ((Sl.cap t : Int) - (j : Int)).toNat
  omega
 ·show ((Sl.len t : Int) - (j : Int)).toNat = _
  omega
/-- where the sorted entries' sums stand -/
structure NX (A F : Heap) (D b1 b3 b5 : Nat) (R : List En) (m : Nat) (out : List En) (cs : Sl) (B : Heap) : Prop where
 le : m ≤ R.length
 few : out.length ≤ m
 hF : F.le B
 c1 : B b1 = some (true, .row [slv Sl.nil])
 c3 : B b3 = some (true, .row [.int .i64 0])
 sum : IsSum (R.take m) out
 ok : out.any (fun o => outE o.2) = false
 lt : ∀ x ∈ R.take m, ∀ y ∈ R.drop m, cmpR x.1 y.1 < 0
 t : ∃ t : Sl, B b5 = some (true, .row [slv t]) ∧ SlIs (RwE A) T_zset_Entry.c F t (R.drop m) ∧ t.len ≤ t.cap
 fr : Fresh F cs ∧ ∀ p, cs.p = some p → p.1 ≠ b1 ∧ p.1 ≠ b3 ∧ p.1 ≠ b5
 og : ∃ (Bs : Heap) (ys : List T_zset_Entry), OgE A Bs (out.filter fun o => !(o.2 == 0)) cs ys ∧ Bs.le B ∧ Bs b1 = none ∧ Bs b3 = none ∧ Bs b5 = none ∧ Bs D = none
/-- a row's entries, added: what is known then -/
theorem grp_sum {R out : List En} {m j : Nat} (hm : m < R.length) (hj0 : 0 < j) (hj : j ≤ (R.drop m).length) (hs : IsSum (R.take m) out) (hlt : ∀ x ∈ R.take m, ∀ y ∈ R.drop m, cmpR x.1 y.1 < 0) (hso : R.Pairwise fun x y => cmpR x.1 y.1 ≤ 0) (hmay : ∀ e ∈ R, mayR e.1 = true)
 (hq : ∀ i, (h : i < (R.drop m).length) → i < j → (R.drop m)[i].1 = (R.drop m)[0].1) (hstop : ∀ h : j < (R.drop m).length, (R.drop m)[j].1 ≠ (R.drop m)[0].1) :
 IsSum (R.take (m + j)) (out ++ [((R.drop m)[0].1, totE ((R.drop m).take j) (R.drop m)[0].1)]) ∧ (∀ x ∈ R.take (m + j), ∀ y ∈ R.drop (m + j), cmpR x.1 y.1 < 0) := by
 have e1 : R.take (m + j) = R.take m ++ (R.drop m).take j := by rw [List.take_add]
 have h0 : 0 < (R.drop m).length := by omega
 have hG : ∀ e ∈ (R.drop m).take j, e.1 = (R.drop m)[0].1 := fun e he => by
  obtain ⟨i, hi, rfl⟩ := List.getElem_of_mem he
  rw [List.length_take] at hi
  rw [List.getElem_take]
  exact hq i (by omega) (by omega)
 have hso2 : (R.drop m).Pairwise fun x y => cmpR x.1 y.1 ≤ 0 := hso.sublist (List.drop_sublist _ _)
 have hmay2 : ∀ e ∈ R.drop m, mayR e.1 = true := fun e he => hmay e (List.mem_of_mem_drop he)
 refine ⟨?_, ?_⟩
 ·rw [e1]
  refine hs.step (fun e he => hlt e he _ (List.getElem_mem h0)) hG fun e => ?_
  have := congrArg List.length e
  rw [List.length_take] at this
  simp only [List.length_nil] at this; omega
 ·rw [e1, ← List.drop_drop]
  intro x hx y hy
  rcases List.mem_append.1 hx with hx | hx
  ·exact hlt x hx y (List.mem_of_mem_drop hy)
  ·rw [hG x hx]
   obtain ⟨i, hi, rfl⟩ := List.getElem_of_mem hy
   rw [List.length_drop] at hi
   rw [show (List.drop j (R.drop m))[i] = (R.drop m)[j + i]'(by omega) from List.getElem_drop ..]
   have hjl : j < (R.drop m).length := by omega
   have hp := List.pairwise_iff_getElem.1 hso2
   have h1 : cmpR (R.drop m)[0].1 (R.drop m)[j].1 ≤ 0 := hp 0 j h0 hjl hj0
   have hne : cmpR (R.drop m)[0].1 (R.drop m)[j].1 ≠ 0 := fun e => hstop hjl ((cmpR_zero (hmay2 _ (List.getElem_mem h0)) (hmay2 _ (List.getElem_mem hjl))).1 e).symm
   by_cases hi0 : i = 0
   ·subst hi0
    have e0 : (R.drop m)[j + 0] = (R.drop m)[j] := rfl
    rw [e0]; omega
   ·have h2 : cmpR (R.drop m)[j].1 (R.drop m)[j + i].1 ≤ 0 := hp j (j + i) hjl (by omega) (by omega)
    exact (Lin.row.tr _ _ _ trivial trivial trivial h1 h2).2 (.inl (by omega))
end Sx
end

noncomputable section
set_option linter.unusedVariables false
set_option linter.unusedSimpArgs false
set_option maxRecDepth 10000
namespace Sx
open Go Go.Proofs
/-- what is left of all entries -/
def esS (S : List (En × Bool)) : List En := S.map fun x => (x.1.1, doE x.2 x.1.2)
theorem nx_ok {C : Ctx} {A E H' : Heap} {D b1 b3 b5 b7 yl : Nat} {S : List (En × Bool)} {K : Sl → Int → Heap → Prop} (hAE : A.le E) (hED : E D = some (true, .obj (.deferred (some [])))) (hAD : A D = none) (d1 : D ≠ b1) (d3 : D ≠ b3) (d5 : D ≠ b5) (hS : S.length ≤ 1000000)
 (hsz : ∀ x ∈ S, vsizes x.1.1 ≤ 1000000) (hbd : ∀ x ∈ S, outE x.1.2 = false → -2147483647 ≤ doE x.2 x.1.2 ∧ doE x.2 x.1.2 ≤ 2147483647) (I : SI A b1 b3 b5 b7 yl S E H' S.length)
 (kout : S.any (fun x => outE x.1.2) = true → ∀ H0, A.le H0 → K Sl.nil 80 H0)
 (kover : S.any (fun x => outE x.1.2) = false → (∃ r, (∃ e ∈ esS S, e.1 = r) ∧ outE (totE (esS S) r) = true) → ∀ H0, A.le H0 → K Sl.nil 80 H0)
 (kok : S.any (fun x => outE x.1.2) = false → ∀ out cs ys H0, IsSum (esS S) out → out.any (fun o => outE o.2) = false → OgE A H0 (out.filter fun o => !(o.2 == 0)) cs ys → K cs 0 H0) :
 nxS C b1 b3 b5 b7 K D H' := by
 obtain ⟨o1, o3, o5, o7, oy⟩ := I.off
 obtain ⟨n13, n57, n51, n53, n71, n73⟩ := I.ne
 have A1 := hAE.none o1
 have A3 := hAE.none o3
 have A5 := hAE.none o5
 obtain ⟨s, L, g5, gO, gF, gN, gM, gV⟩ := I.ls
 rw [List.take_length] at gM
 have c7 := I.c7
 have hmayS := I.may
 rw [List.take_length] at c7 hmayS
 have hgM : L.map (·.2) = esS S := gM
 refine fI (j := 0) c7 rfl ?_
 cases hb : S.any (fun x => outE x.1.2) with
 | true =>
  rw [hb, if_pos rfl] at c7
  rw [if_pos rfl]
  refine ift_pos rfl ?_
  have fin : ∀ B, E.le B → B b1 = some (true, .row [slv Sl.nil]) → B b3 = some (true, .row [.int .i64 80]) → Rf.mk1 B D (fun Hm => ldL Hm (b1, 0) fun x => ldI Hm .i64 (b3, 0) fun y => K x y Hm) := fun B hB h1 h3 => fin_ok (hAE.trans hB) A1 A3 hAD d1 d3 n13 (hB _ _ hED) h1 h3 (kout hb)
  have l1 : E.le (H'.put b1 (.row [slv Sl.nil])) := le_put_off I.leE o1
  have c3' : (H'.put b1 (.row [slv Sl.nil])) b3 = some (true, .row [.int .i64 0]) := by rw [Heap.put_ne _ _ _ n13.symm]; exact I.c3
  have c7' : (H'.put b1 (.row [slv Sl.nil])) b7 = some (true, .row [.int .i64 80]) := by rw [Heap.put_ne _ _ _ n71]; exact c7
  refine ⟨E, I.leE, fI (j := 0) c7 rfl ⟨I.leE, stI I.c1 ⟨l1, stI c3' (fin _ (le_put_off l1 o3) ?_ (Heap.put_same ..))⟩⟩, stI I.c1 ⟨l1, fI (j := 0) c7' rfl ⟨l1, stI c3' (fin _ (le_put_off l1 o3) ?_ (Heap.put_same ..))⟩⟩⟩
  all_goals rw [Heap.put_ne _ _ _ n13, Heap.put_same]
 | false =>
 rw [if_neg (by simp)]
 refine ift_neg rfl ?_
 refine fL (j := 0) g5 rfl ?_
 have hlL : L.length = S.length := by
  have := congrArg List.length gM
  simpa using this
 have hsl : s.len = L.length := by
  have h1 := gO.1
  rw [cellsE_len] at h1; omega
 refine sortE (A := A) (hAE.trans I.leE) gO (gF.le hAE) gV hsl (by omega) fun Z H2 hZp hZs hO2 hsame => ?_
 have hE2 : E.le H2 := fun b e hx => by
  rw [hsame b fun p hp e' => by have := gF p hp; rw [e', hx] at this; cases this]
  exact I.leE _ _ hx
 have hOF := OwnF.sub (X := E) (⟨hE2, hO2, gF⟩ : OwnF E H2 2 s _) (Heap.le.refl E)
 have hF2 : (E.withS s H2).le H2 := Heap.withS_le hE2
 have F1 := Heap.withS_none (H := H2) o1 fun p hp => (gN p hp).1
 have F3 := Heap.withS_none (H := H2) o3 fun p hp => (gN p hp).2.1
 have F5 := Heap.withS_none (H := H2) o5 fun p hp => (gN p hp).2.2.1
 have hEF := hOF.le
 have hrd := hOF.own.rdsl
 generalize E.withS s H2 = F at *
 have hAF := hAE.trans hEF
 have hFD := hEF _ _ hED
 have s1 : H2 b1 = some (true, .row [slv Sl.nil]) := by rw [hsame b1 fun p hp => (gN p hp).1]; exact I.c1
 have s3 : H2 b3 = some (true, .row [.int .i64 0]) := by rw [hsame b3 fun p hp => (gN p hp).2.1]; exact I.c3
 have s5 : H2 b5 = some (true, .row [slv s]) := by rw [hsame b5 fun p hp => (gN p hp).2.2.1]; exact g5
 have hperm : (Z.map (·.2)).Perm (esS S) := by rw [← hgM]; exact hZp.map _
 have hZl : Z.length = S.length := by rw [hZp.length_eq]; exact hlL
 have hRl : (Z.map (·.2)).length = S.length := by rw [List.length_map]; exact hZl
 have hR0 : SlIs (RwE A) T_zset_Entry.c F s (Z.map (·.2)) := by
  refine ⟨Z.map (·.1), ?_, by rw [List.length_map]; omega, by simp, by rw [hRl]; omega, fun i v x hv hx => ?_⟩
  ·rw [List.flatMap_map]; exact hrd
  ·rw [List.getElem?_map] at hv hx
   cases hz : Z[i]? with
   | none => rw [hz] at hv; cases hv
   | some z =>
    rw [hz] at hv hx
    injection hv with hv; injection hx with hx; subst hv; subst hx
    exact gV z (hZp.mem_iff.1 (List.mem_of_getElem? hz))
 have hso : (Z.map (·.2)).Pairwise fun x y => cmpR x.1 y.1 ≤ 0 := by rw [List.pairwise_map]; exact hZs
 have hfrom : ∀ e ∈ Z.map (·.2), ∃ x ∈ S, e = (x.1.1, doE x.2 x.1.2) := fun e he => by
  obtain ⟨x, hx, rfl⟩ := List.mem_map.1 (hperm.mem_iff.1 he)
  exact ⟨x, hx, rfl⟩
 have hmay : ∀ e ∈ Z.map (·.2), mayR e.1 = true := fun e he => by
  obtain ⟨x, hx, rfl⟩ := hfrom e he; exact hmayS x hx
 have hN : ∀ e ∈ Z.map (·.2), -2147483647 ≤ e.2 ∧ e.2 ≤ 2147483647 := fun e he => by
  obtain ⟨x, hx, rfl⟩ := hfrom e he
  refine hbd x hx ?_
  cases ho : outE x.1.2 with
  | false => rfl
  | true => rw [List.any_eq_true.2 ⟨x, hx, ho⟩] at hb; cases hb
 have hvz : ∀ e ∈ Z.map (·.2), vsizes e.1 ≤ 1000000 := fun e he => by
  obtain ⟨x, hx, rfl⟩ := hfrom e he; exact hsz x hx
 have hscap : s.len ≤ s.cap := hO2.2.2.1
 generalize Z.map (·.2) = R at *
 refine ⟨fun cs B => ∃ m out, NX A F D b1 b3 b5 R m out cs B, fun _ B => lenAt b5 B, ⟨0, [], ⟨Nat.zero_le _, Nat.zero_le _, hF2, s1, s3, by simpa using IsSum.nil, rfl, fun x hx => by simp at hx, ⟨s, s5, hR0, hscap⟩, ⟨Fresh.nil _, fun p hp => by cases hp⟩, A, [], OgE.nil, hAF.trans hF2, A1, A3, A5, hAD⟩⟩, ?_⟩
 rintro cs B ⟨m, out, N⟩
 obtain ⟨t, t5, tR, tc⟩ := N.t
 obtain ⟨Bs, ys, gOg, gB, gB1, gB3, gB5, gBD⟩ := N.og
 have hAB := hAF.trans N.hF
 have htl : t.len = R.length - m := by rw [tR.len, List.length_drop]
 refine fL (j := 0) t5 rfl ?_
 refine ift.of (fun h => ?_) (fun h => ?_)
 ·have hpos : 0 < t.len := by have : (0 : Int) < (t.len : Int) := of_decide_eq_true h; omega
  have hm : m < R.length := by omega
  have hne : 0 < (R.drop m).length := by rw [List.length_drop]; omega
  refine group_ok (A := A) hAF N.hF t5 tR hne (by rw [List.length_drop]; omega) (fun e he => hmay e (List.mem_of_mem_drop he)) (fun e he => hN e (List.mem_of_mem_drop he)) fun j hj0 hjl hq hstop => ?_
  obtain ⟨g1, g2⟩ := grp_sum hm hj0 hjl N.sum N.lt hso hmay hq hstop
  have hrow := List.getElem_mem hne
  have hrowR := List.mem_of_mem_drop hrow
  generalize hr0 : (R.drop m)[0].1 = r0 at *
  generalize hsum : totE ((R.drop m).take j) r0 = sum at *
  refine out_ok ?_
  refine ift.of (fun ho => ?_) (fun ho => ?_)
  ·have c3' : (B.put b1 (.row [slv Sl.nil])) b3 = some (true, .row [.int .i64 0]) := by rw [Heap.put_ne _ _ _ n13.symm]; exact N.c3
   refine stI N.c1 (stI c3' (fin_ok (X := A) (le_put_off (le_put_off hAB A1) A3) A1 A3 hAD d1 d3 n13 ?_ ?_ (Heap.put_same ..) (kover hb ⟨r0, ?_, ?_⟩)))
   ·rw [Heap.put_ne _ _ _ d3, Heap.put_ne _ _ _ d1]; exact N.hF _ _ hFD
   ·rw [Heap.put_ne _ _ _ n13, Heap.put_same]
   ·exact ⟨_, hperm.mem_iff.1 hrowR, hr0⟩
   ·have h1 := (g1.mem r0 sum).1 (List.mem_append_right _ (List.mem_singleton.2 rfl))
    have h2 : totE (R.drop (m + j)) r0 = 0 := totE_none fun e he e' => by
     have hin : (r0, sum) ∈ out ++ [(r0, sum)] := List.mem_append_right _ (List.mem_singleton.2 rfl)
     obtain ⟨x, hx, hxr⟩ := h1.1
     have := g2 x hx e he
     rw [hxr, e'] at this; exact lt_irr this
    have h3 : totE (esS S) r0 = sum := by
     rw [← totE_perm hperm, ← List.take_append_drop (m + j) R, totE_append, h2, ← h1.2]; omega
    rw [h3]; exact ho
  have ho' : outE sum = false := ho
  refine ⟨fun cs' B' => F.le B' ∧ B' b1 = some (true, .row [slv Sl.nil]) ∧ B' b3 = some (true, .row [.int .i64 0]) ∧ B' b5 = some (true, .row [slv t]) ∧ (Fresh F cs' ∧ ∀ p, cs'.p = some p → p.1 ≠ b1 ∧ p.1 ≠ b3 ∧ p.1 ≠ b5) ∧ ∃ (Bs : Heap) (ys : List T_zset_Entry), OgE A Bs ((out ++ [(r0, sum)]).filter fun o => !(o.2 == 0)) cs' ys ∧ Bs.le B' ∧ Bs b1 = none ∧ Bs b3 = none ∧ Bs b5 = none ∧ Bs D = none, ?_, ?_⟩
  ·refine ift.of (fun hz => ?_) (fun hz => ?_)
   ·have hz0 : (sum == 0) = false := by simpa using hz
    refine fL (j := 0) t5 rfl (SlIs.fL tR N.hF (z := 2) (fun _ => rfl) (by omega) (i := 0) rfl hne (j := 0) (f := fun y => y.Row) (fun _ => rfl) fun y1 hy1 => ?_)
    have hy := hy1.1.1
    rw [hr0] at hy
    refine zown_ok hy hAB (by rw [← hr0]; exact hvz _ hrowR) fun t2 H197 hm2 => ?_
    have hcsH : Own H197 2 cs (ys.flatMap T_zset_Entry.c) := (gOg.own.own.le gB).le hm2.le
    have hysl : cs.len ≤ R.length := by
     have h1 := gOg.own.own.1
     have h2 : (ys.flatMap T_zset_Entry.c).length = ys.length * 2 := by
      have : ∀ ys : List T_zset_Entry, (ys.flatMap T_zset_Entry.c).length = ys.length * 2 := by
       intro ys
       induction ys with
       | nil => rfl
       | cons y ys ih => rw [List.flatMap_cons, List.length_append, ih, List.length_cons, show (T_zset_Entry.c y).length = 2 from rfl]; omega
      exact this ys
     have h3 := gOg.len
     have h4 : (out.filter fun o => !(o.2 == 0)).length ≤ out.length := List.length_filter_le ..
     have h5 := N.few
     have h6 := N.le
     omega
    refine apd_ownF (ys := T_zset_Entry.c (⟨t2, sum⟩ : T_zset_Entry)) (m := 1) hcsH.off rfl (by show (cs.len + 1) * 32 ≤ _; omega) (by omega) fun r' H199 hO hlen => ?_
    have hX := Heap.plus_le gB hm2.le
    have hm3 := hm2.sub gB
    have hXoff : ((Heap.plus Bs B H197).off cs).le (H197.off cs) := Heap.le_off ((Heap.off_le _ _).trans hX) (Heap.off_fresh cs _)
    have hO' := hO.sub hXoff
    have hFo : F.le (H197.off cs) := Heap.le_off (N.hF.trans hm2.le) N.fr.1
    have at_ : ∀ (b : Nat) (e : Bool × GO), B b = some e → (∀ p, cs.p = some p → p.1 ≠ b) → (H197.off cs) b = some e := fun b e hb hn => Heap.off_some (hm2.le _ _ hb) hn
    have x1 := at_ b1 _ N.c1 fun p hp => (N.fr.2 p hp).1
    have x3 := at_ b3 _ N.c3 fun p hp => (N.fr.2 p hp).2.1
    have x5 := at_ b5 _ t5 fun p hp => (N.fr.2 p hp).2.2
    have xD := hFo _ _ hFD
    have rN : ∀ b e, (H197.off cs) b = some e → ∀ p, r'.p = some p → p.1 ≠ b := fun b e hb p hp e' => by
     have := hO.fresh p hp
     rw [e', hb] at this; cases this
    have nn : ∀ b e, B b = some e → Bs b = none → (H197.off cs) b = some e → (((Heap.plus Bs B H197).off cs).withS r' H199) b = none := fun b e hb hbs hbo => Heap.withS_none ((Heap.off_le cs _).none (Heap.plus_none hbs (by rw [hb]; simp))) (rN b e hbo)
    refine ⟨hFo.trans hO.le, hO.le _ _ x1, hO.le _ _ x3, hO.le _ _ x5, ⟨hO.fresh.le hFo, fun p hp => ⟨rN b1 _ x1 p hp, rN b3 _ x3 p hp, rN b5 _ x5 p hp⟩⟩, _, ys ++ [(⟨t2, sum⟩ : T_zset_Entry)], ?_, Heap.withS_le (hXoff.trans hO.le), nn b1 _ N.c1 gB1 x1, nn b3 _ N.c3 gB3 x3, nn b5 _ t5 gB5 x5, nn D _ (N.hF _ _ hFD) gBD xD⟩
    have := gOg.step hm3 hO'
    rw [List.filter_append]
    have e2 : ([(r0, sum)].filter fun o : En => !(o.2 == 0)) = [(r0, sum)] := by simp [hz0]
    rw [e2]; exact this
   ·have hz0 : (sum == 0) = true := by simpa using hz
    refine ⟨N.hF, N.c1, N.c3, t5, N.fr, Bs, ys, ?_, gB, gB1, gB3, gB5, gBD⟩
    rw [List.filter_append]
    have e2 : ([(r0, sum)].filter fun o : En => !(o.2 == 0)) = [] := by simp [hz0]
    rw [e2, List.append_nil]; exact gOg
  rintro cs' B' ⟨k1, k2, k3, k4, k5, Bs', ys', k6, k7, k8, k9, k10, k11⟩
  refine fL (j := 0) k4 rfl (tR.dropE hjl tc fun t' ht' htc htl' => ?_)
  refine stI k4 ⟨⟨m + j, out ++ [(r0, sum)], ⟨?_, by rw [List.length_append, List.length_singleton]; have := N.few; omega, le_put_off k1 F5, ?_, ?_, g1, ?_, g2, ⟨t', Heap.put_same .., ?_, htc⟩, k5, Bs', ys', k6, le_put_off k7 k10, k8, k9, k10, k11⟩⟩, ?_⟩
  ·rw [List.length_drop] at hjl; omega
  ·rw [Heap.put_ne _ _ _ n51.symm]; exact k2
  ·rw [Heap.put_ne _ _ _ n53.symm]; exact k3
  ·rw [List.any_append, N.ok]; simp [ho']
  ·rw [List.drop_drop] at ht'; exact ht'
  ·show lenAt b5 (B'.put b5 (.row [slv t'])) < lenAt b5 B
   rw [lenAt_of (Heap.put_same ..), lenAt_of t5, htl']; omega
 ·have hz : t.len = 0 := by have : ¬ (0 : Int) < (t.len : Int) := of_decide_eq_false h; omega
  have hme : m = R.length := by have := N.le; omega
  have c3' : (B.put b1 (.row [slv cs])) b3 = some (true, .row [.int .i64 0]) := by rw [Heap.put_ne _ _ _ n13.symm]; exact N.c3
  refine stI N.c1 (stI c3' (fin_ok (X := Bs) (le_put_off (le_put_off gB gB1) gB3) gB1 gB3 gBD d1 d3 n13 ?_ ?_ (Heap.put_same ..) fun H0 hH0 => kok hb out cs ys H0 ?_ N.ok (gOg.up hH0)))
  ·rw [Heap.put_ne _ _ _ d3, Heap.put_ne _ _ _ d1]; exact N.hF _ _ hFD
  ·rw [Heap.put_ne _ _ _ n13, Heap.put_same]
  ·have := N.sum
   rw [hme, List.take_length] at this
   exact this.perm hperm
end Sx
end

noncomputable section
set_option linter.unusedVariables false
set_option linter.unusedSimpArgs false
set_option maxRecDepth 10000
namespace Sx
open Go Go.Proofs
theorem OgE.down {H0 H B : Heap} {es : List En} {s : Sl} {ys : List T_zset_Entry} (h : OgE H B es s ys) (hle : H0.le H) : OgE H0 B es s ys :=
 ⟨h.own.down hle, h.len, fun j e y a b => ⟨(h.done j e y a b).1.down hle, (h.done j e y a b).2⟩⟩
/-- what sums tells -/
structure SumsK (S : List (En × Bool)) (H : Heap) (K : Sl → Int → Heap → Prop) : Prop where
 bad : S.any (fun x => !(mayR x.1.1)) = true → ∀ H0, H.le H0 → K Sl.nil 4 H0
 out : (∀ x ∈ S, mayR x.1.1 = true) → S.any (fun x => outE x.1.2) = true → ∀ H0, H.le H0 → K Sl.nil 80 H0
 over : (∀ x ∈ S, mayR x.1.1 = true) → S.any (fun x => outE x.1.2) = false → (∃ r, (∃ e ∈ esS S, e.1 = r) ∧ outE (totE (esS S) r) = true) → ∀ H0, H.le H0 → K Sl.nil 80 H0
 ok : (∀ x ∈ S, mayR x.1.1 = true) → S.any (fun x => outE x.1.2) = false → ∀ out cs ys H0, IsSum (esS S) out → out.any (fun o => outE o.2) = false → OgE H H0 (out.filter fun o => !(o.2 == 0)) cs ys → K cs 0 H0
theorem sums_ok {C : Ctx} {H : Heap} {pl : Sl} {ps : List (List En × Bool)} {K : Sl → Int → Heap → Prop} (hP : SlIs (PtIs H) T_zset_part.c H pl ps) (hS : (seqS ps).length ≤ 1000000)
 (hsz : ∀ x ∈ seqS ps, vsizes x.1.1 ≤ 1000000) (k : SumsK (seqS ps) H K) : c_zset_sums C pl K H := by
 have hbd : ∀ x ∈ seqS ps, outE x.1.2 = false → -2147483647 ≤ doE x.2 x.1.2 ∧ doE x.2 x.1.2 ≤ 2147483647 := fun x _ ho => by
  unfold outE at ho
  have h1 : ¬ x.1.2 < -2147483647 := fun h => by rw [decide_eq_true h] at ho; cases ho
  have h2 : ¬ x.1.2 > 2147483647 := fun h => by rw [decide_eq_true h, Bool.or_true] at ho; cases ho
  unfold doE
  split
  ·rw [w_i64 (by omega) (by omega)]; omega
  ·omega
 apply ad_zset_sums
 unfold sh_zset_sums
 intro b1 n1 b3 n3 b5 n5 b7 n7
 have q31 : b3 ≠ b1 := fun e => by rw [e, Heap.put_same] at n3; cases n3
 have m3 : H b3 = none := by rw [Heap.put_ne _ _ _ q31] at n3; exact n3
 have q53 : b5 ≠ b3 := fun e => by rw [e, Heap.put_same] at n5; cases n5
 have m5 : (H.put b1 (.row [slv Sl.nil])) b5 = none := by rw [Heap.put_ne _ _ _ q53] at n5; exact n5
 have q51 : b5 ≠ b1 := fun e => by rw [e, Heap.put_same] at m5; cases m5
 have m5 : H b5 = none := by rw [Heap.put_ne _ _ _ q51] at m5; exact m5
 have q75 : b7 ≠ b5 := fun e => by rw [e, Heap.put_same] at n7; cases n7
 have m7 := n7
 rw [Heap.put_ne _ _ _ q75] at m7
 have q73 : b7 ≠ b3 := fun e => by rw [e, Heap.put_same] at m7; cases m7
 rw [Heap.put_ne _ _ _ q73] at m7
 have q71 : b7 ≠ b1 := fun e => by rw [e, Heap.put_same] at m7; cases m7
 rw [Heap.put_ne _ _ _ q71] at m7
 have le8 : H.le ((((H.put b1 (.row [slv Sl.nil])).put b3 (.row [.int .i64 0])).put b5 (.row [slv Sl.nil])).put b7 (.row [.int .i64 0])) := (((Heap.le_put n1).trans (Heap.le_put n3)).trans (Heap.le_put n5)).trans (Heap.le_put n7)
 have c1 : ((((H.put b1 (.row [slv Sl.nil])).put b3 (.row [.int .i64 0])).put b5 (.row [slv Sl.nil])).put b7 (.row [.int .i64 0])) b1 = some (true, .row [slv Sl.nil]) := by rw [Heap.put_ne _ _ _ q71.symm, Heap.put_ne _ _ _ q51.symm, Heap.put_ne _ _ _ q31.symm, Heap.put_same]
 have c3 : ((((H.put b1 (.row [slv Sl.nil])).put b3 (.row [.int .i64 0])).put b5 (.row [slv Sl.nil])).put b7 (.row [.int .i64 0])) b3 = some (true, .row [.int .i64 0]) := by rw [Heap.put_ne _ _ _ q73.symm, Heap.put_ne _ _ _ q53.symm, Heap.put_same]
 have c5 : ((((H.put b1 (.row [slv Sl.nil])).put b3 (.row [.int .i64 0])).put b5 (.row [slv Sl.nil])).put b7 (.row [.int .i64 0])) b5 = some (true, .row [slv Sl.nil]) := by rw [Heap.put_ne _ _ _ q75.symm, Heap.put_same]
 have c7 : ((((H.put b1 (.row [slv Sl.nil])).put b3 (.row [.int .i64 0])).put b5 (.row [slv Sl.nil])).put b7 (.row [.int .i64 0])) b7 = some (true, .row [.int .i64 0]) := Heap.put_same ..
 generalize (((H.put b1 (.row [slv Sl.nil])).put b3 (.row [.int .i64 0])).put b5 (.row [slv Sl.nil])).put b7 (.row [.int .i64 0]) = H8 at *
 refine stI c7 ?_
 have le9 : H.le (H8.put b7 (.row [.int .i64 0])) := le_put_off le8 m7
 have c1 : (H8.put b7 (.row [.int .i64 0])) b1 = some (true, .row [slv Sl.nil]) := by rw [Heap.put_ne _ _ _ q71.symm]; exact c1
 have c3 : (H8.put b7 (.row [.int .i64 0])) b3 = some (true, .row [.int .i64 0]) := by rw [Heap.put_ne _ _ _ q73.symm]; exact c3
 have c5 : (H8.put b7 (.row [.int .i64 0])) b5 = some (true, .row [slv Sl.nil]) := by rw [Heap.put_ne _ _ _ q75.symm]; exact c5
 have c7 : (H8.put b7 (.row [.int .i64 0])) b7 = some (true, .row [.int .i64 0]) := Heap.put_same ..
 generalize H8.put b7 (.row [.int .i64 0]) = H9 at *
 apply ad_zset_each
 unfold sh_zset_each
 intro b9 n9
 have m9 := le9.none n9
 have r1 : b1 ≠ b9 := fun e => by rw [e, n9] at c1; cases c1
 have r3 : b3 ≠ b9 := fun e => by rw [e, n9] at c3; cases c3
 have r5 : b5 ≠ b9 := fun e => by rw [e, n9] at c5; cases c5
 have r7 : b7 ≠ b9 := fun e => by rw [e, n9] at c7; cases c7
 have lA : H.le (H.put b9 (.row [slv pl])) := Heap.le_put m9
 have A9 : (H.put b9 (.row [slv pl])) b9 = some (true, .row [slv pl]) := Heap.put_same ..
 have a1 : (H.put b9 (.row [slv pl])) b1 = none := by rw [Heap.put_ne _ _ _ r1]; exact n1
 have a3 : (H.put b9 (.row [slv pl])) b3 = none := by rw [Heap.put_ne _ _ _ r3]; exact m3
 have a5 : (H.put b9 (.row [slv pl])) b5 = none := by rw [Heap.put_ne _ _ _ r5]; exact m5
 have a7 : (H.put b9 (.row [slv pl])) b7 = none := by rw [Heap.put_ne _ _ _ r7]; exact m7
 have lA11 : (H.put b9 (.row [slv pl])).le (H9.put b9 (.row [slv pl])) := fun x e hx => by
  by_cases hb : x = b9
  ·subst hb; rw [Heap.put_same] at hx ⊢; exact hx
  ·rw [Heap.put_ne _ _ _ hb] at hx ⊢; exact le9 _ _ hx
 have c1 : (H9.put b9 (.row [slv pl])) b1 = some (true, .row [slv Sl.nil]) := by rw [Heap.put_ne _ _ _ r1]; exact c1
 have c3 : (H9.put b9 (.row [slv pl])) b3 = some (true, .row [.int .i64 0]) := by rw [Heap.put_ne _ _ _ r3]; exact c3
 have c5 : (H9.put b9 (.row [slv pl])) b5 = some (true, .row [slv Sl.nil]) := by rw [Heap.put_ne _ _ _ r5]; exact c5
 have c7 : (H9.put b9 (.row [slv pl])) b7 = some (true, .row [.int .i64 0]) := by rw [Heap.put_ne _ _ _ r7]; exact c7
 have hPA : SlIs (PtIs (H.put b9 (.row [slv pl]))) T_zset_part.c (H.put b9 (.row [slv pl])) pl ps := hP.le lA fun v _ x hx => ⟨hx.1.le lA fun _ _ _ h => h.le lA, hx.2⟩
 generalize H.put b9 (.row [slv pl]) = A at *
 generalize H9.put b9 (.row [slv pl]) = H11 at *
 refine rng_first (C := C) (nx := nxS C b1 b3 b5 b7 K) hPA hS lA11 A9 ⟨a1, a3, a5, a7⟩ ⟨q31.symm, q75.symm, q51, q53, q71, q73⟩ c1 c3 c5 c7 (fun D yl E H' hAE hED hAD d1 d3 d5 d7 I => ?_) fun D E H' hAE hED hAD d1 d3 he => ?_
 ·have hmay : ∀ x ∈ seqS ps, mayR x.1.1 = true := by have := I.may; rw [List.take_length] at this; exact this
  exact nx_ok hAE hED hAD d1 d3 d5 hS hsz hbd I (fun h H0 hH => k.out hmay h H0 (lA.trans hH)) (fun h h2 H0 hH => k.over hmay h h2 H0 (lA.trans hH)) fun h out cs ys H0 g1 g2 g3 => k.ok hmay h out cs ys H0 g1 g2 (g3.down lA)
 ·exact fin_ok (X := A) (hAE.trans he.leE) a1 a3 hAD d1 d3 q31.symm (he.leE _ _ hED) he.c1 he.c3 fun H0 hH => k.bad he.bad H0 (lA.trans hH)
end Sx
end

noncomputable section
set_option linter.unusedVariables false
set_option linter.unusedSimpArgs false
set_option maxRecDepth 10000
namespace Sx
open Go Go.Proofs
theorem SumsK.up {S : List (En × Bool)} {H H2 : Heap} {K : Sl → Int → Heap → Prop} (k : SumsK S H K) (hle : H.le H2) : SumsK S H2 K :=
 ⟨fun h H0 hH => k.bad h H0 (hle.trans hH), fun h h2 H0 hH => k.out h h2 H0 (hle.trans hH), fun h h2 h3 H0 hH => k.over h h2 h3 H0 (hle.trans hH), fun h h2 out cs ys H0 g1 g2 g3 => k.ok h h2 out cs ys H0 g1 g2 (g3.down hle)⟩
section
variable {C : Ctx} {H A : Heap}
theorem parts2 {a b : Sl} {la lb : List En} {tb : Bool} {c : Nat} {m : Bool} {cap : Nat} (ha : EnL H a la) (hb : EnL H b lb) (h : H c = some (m, .row (T_zset_part.c (⟨a, fnv false⟩ : T_zset_part) ++ T_zset_part.c (⟨b, fnv tb⟩ : T_zset_part) ++ []))) :
 SlIs (PtIs H) T_zset_part.c H (Sl.of (some (c, 0)) 2 cap) [(la, false), (lb, tb)] := by
 refine ⟨[(⟨a, fnv false⟩ : T_zset_part), (⟨b, fnv tb⟩ : T_zset_part)], .inr ⟨rfl, _, rfl, rds_row h fun j v hj => by simpa using hj⟩, rfl, rfl, by simp, fun i v x hv hx => ?_⟩
 match i with
 | 0 => simp at hv hx; subst hv; subst hx; exact ⟨ha, rfl⟩
 | 1 => simp at hv hx; subst hv; subst hx; exact ⟨hb, rfl⟩
 | i + 2 => simp at hv
theorem EnL.le {B : Heap} {s : Sl} {l : List En} (h : EnL A s l) (hle : A.le B) : EnL B s l := SlIs.le hle h fun _ _ _ h => h.le hle
theorem pAdd_ok {a b : Sl} {la lb : List En} {K : Sl → Int → Heap → Prop} (ha : EnL H a la) (hb : EnL H b lb) (hn : la.length + lb.length ≤ 1000000) (hsz : ∀ x ∈ la ++ lb, vsizes x.1 ≤ 1000000) (k : SumsK (seqS [(la, false), (lb, false)]) H K) : c_zset_Add C a b K H := by
 apply ad_zset_Add
 unfold sh_zset_Add
 intro b1 n1
 have hle := Heap.le_put n1 (g := .row (T_zset_part.c (⟨a, fnv false⟩ : T_zset_part) ++ T_zset_part.c (⟨b, fnv false⟩ : T_zset_part) ++ [])) (m := true)
 exact sums_ok (parts2 (ha.le hle) (hb.le hle) (Heap.put_same ..)) (by simp [seqS]; omega) (fun x hx => by
  simp [seqS] at hx
  rcases hx with ⟨r, n, h, rfl⟩ | ⟨r, n, h, rfl⟩
  ·exact hsz (r, n) (List.mem_append_left _ h)
  ·exact hsz (r, n) (List.mem_append_right _ h)) (k.up hle)
theorem pLess_ok {a b : Sl} {la lb : List En} {K : Sl → Int → Heap → Prop} (ha : EnL H a la) (hb : EnL H b lb) (hn : la.length + lb.length ≤ 1000000) (hsz : ∀ x ∈ la ++ lb, vsizes x.1 ≤ 1000000) (k : SumsK (seqS [(la, false), (lb, true)]) H K) : c_zset_Less C a b K H := by
 apply ad_zset_Less
 unfold sh_zset_Less
 intro b1 n1
 have hle := Heap.le_put n1 (g := .row (T_zset_part.c (⟨a, fnv false⟩ : T_zset_part) ++ T_zset_part.c (⟨b, fnv true⟩ : T_zset_part) ++ [])) (m := true)
 exact sums_ok (parts2 (ha.le hle) (hb.le hle) (Heap.put_same ..)) (by simp [seqS]; omega) (fun x hx => by
  simp [seqS] at hx
  rcases hx with ⟨r, n, h, rfl⟩ | ⟨r, n, h, rfl⟩
  ·exact hsz (r, n) (List.mem_append_left _ h)
  ·exact hsz (r, n) (List.mem_append_right _ h)) (k.up hle)
/-- entries alike, one by one -/
theorem dSameE_ok {s t : Sl} {l m : List En} {K : Bool → Heap → Prop} (hs : EnL A s l) (ht : EnL A t m) (hA : A.le H) (k : ∀ b, (b = true ↔ l = m) → K b H) : c_ref16_Same C s t K H := by
 apply c_ref16_Same.gh
 apply ad_ref16_Same
 unfold sh_ref16_Same
 have i1 := nlen hs ht
 refine ift.of (fun h => ?_) (fun h => ?_)
 ·exact ⟨H, Gh.refl _, k _ ⟨fun e => (nomatch e), fun e => absurd (by rw [e]) (i1.1 h)⟩⟩
 have hq := n3 i1 h
 refine lpEq (l := l) (m := m) hs.bd fun i D J hD hi hh hJ => ?_
 rw [hs.len]
 refine ift.of (fun h => ?_) (fun h => ?_)
 ·have hlt : i < l.length := by have := of_decide_eq_true h; omega
  have hlt2 : i < m.length := by omega
  have hAD := hA.trans hD
  refine jb (P := ¬ (l[i].2 = m[i].2 ∧ l[i].1 = m[i].1)) D ?_ fun b hb => ?_
  ·refine ⟨D, Heap.le.refl _, SlIs.fI hs hAD (z := 2) (fun _ => rfl) (by omega) rfl hlt (j := 1) (f := fun y => y.N) (fun _ => rfl) fun y1 hy1 => SlIs.fI ht hAD (z := 2) (fun _ => rfl) (by omega) rfl hlt2 (j := 1) (f := fun y => y.N) (fun _ => rfl) fun y2 hy2 => ?_⟩
   have j1 := niq hy1.2.2.2.1 hy2.2.2.2.1
   refine ift.of (fun h => ⟨rfl, n1 j1 h⟩) fun h => ?_
   refine SlIs.fL hs hAD (z := 2) (fun _ => rfl) (by omega) rfl hlt (j := 0) (f := fun y => y.Row) (fun _ => rfl) fun y3 hy3 => SlIs.fL ht hAD (z := 2) (fun _ => rfl) (by omega) rfl hlt2 (j := 0) (f := fun y => y.Row) (fun _ => rfl) fun y4 hy4 => ?_
   refine SameRow_ok (hy3.1.le hAD) (hy4.1.le hAD) hy3.2.2.1 hy3.2.1 ⟨Heap.le.refl _, rfl, n2 j1 h ?_⟩
   rw [Bool.not_eq_true', ← Bool.not_eq_true, sameVs_iff]
  have he : l[i] = m[i] ↔ l[i].2 = m[i].2 ∧ l[i].1 = m[i].1 := ⟨fun e => by rw [e]; exact ⟨rfl, rfl⟩, fun ⟨e1, e2⟩ => Prod.ext e2 e1⟩
  rw [← he] at hb
  refine ift.of (fun h => ?_) (fun h => ?_)
  ·exact ⟨H, Gh.le hD, k _ ⟨fun e => (nomatch e), fun e => absurd e (get_ne hlt hlt2 (hb.1 h))⟩⟩
  ·exact hJ hlt _ hD (take_eq hlt hlt2 hh (n3 hb h))
 ·have hie : i = l.length := by have := of_decide_eq_false h; omega
  exact ⟨H, Gh.le hD, k _ ⟨fun _ => take_all hie hq hh, fun _ => rfl⟩⟩
/-- the document's error of entries -/
def chkE (l : List En) : Int := if l.any (fun e => !(mayR e.1)) then 4 else if l.any (fun e => outE e.2) then 80 else 0
theorem dCheck_ok {s : Sl} {l : List En} {K : Int → Heap → Prop} (hs : EnL A s l) (hA : A.le H) (hsz : ∀ x ∈ l, vsizes x.1 ≤ 1000000) (k : K (chkE l) H) : c_ref16_Check C s K H := by
 apply c_ref16_Check.gh
 apply ad_ref16_Check
 unfold sh_ref16_Check
 refine ⟨fun x D => H.le D ∧ ∃ i : Nat, x = (i : Int) ∧ i ≤ l.length ∧ (l.take i).any (fun e => !(mayR e.1)) = false, fun x _ => l.length - x.toNat, ⟨Heap.le.refl _, 0, rfl, Nat.zero_le _, rfl⟩, ?_⟩
 rintro _ D ⟨hD, i, rfl, hi, hq⟩
 have hb := hs.bd
 rw [hs.len]
 have hAD := hA.trans hD
 refine ift.of (fun h => ?_) (fun h => ?_)
 ·have hlt : i < l.length := by have := of_decide_eq_true h; omega
  refine SlIs.fL hs hAD (z := 2) (fun _ => rfl) (by omega) rfl hlt (j := 0) (f := fun y => y.Row) (fun _ => rfl) fun y hy => ?_
  refine Row_ok (hy.1.le hAD) hy.2.2.1 hy.2.1 (fun v hv => by have h1 := vsize_mem hv; have h2 := hsz _ (List.getElem_mem hlt); omega) ?_
  refine ift.of (fun h2 => ?_) (fun h2 => ?_)
  ·have h3 : mayR l[i].1 = false := by simpa using h2
   have : chkE l = 4 := by unfold chkE; rw [if_pos (List.any_eq_true.2 ⟨l[i], List.getElem_mem hlt, by rw [h3]; rfl⟩)]
   rw [this] at k; exact ⟨H, Gh.le hD, k⟩
  ·have h3 : mayR l[i].1 = true := by simpa using h2
   rw [w_i64 (by omega) (by omega)]
   refine ⟨⟨hD, i + 1, by omega, by omega, ?_⟩, by first | omega | (dsimp only; omega)⟩
   rw [List.take_add_one, List.getElem?_eq_getElem hlt, List.any_append, hq]
   simp [h3]
 have hie : i = l.length := by have := of_decide_eq_false h; omega
 rw [hie, List.take_length] at hq
 clear h
 refine ⟨fun x D => H.le D ∧ ∃ i : Nat, x = (i : Int) ∧ i ≤ l.length ∧ (l.take i).any (fun e => outE e.2) = false, fun x _ => l.length - x.toNat, ⟨hD, 0, rfl, Nat.zero_le _, rfl⟩, ?_⟩
 rintro _ D2 ⟨hD2, i, rfl, hi, hq2⟩
 have hAD2 := hA.trans hD2
 refine ift.of (fun h => ?_) (fun h => ?_)
 ·have hlt : i < l.length := by have := of_decide_eq_true h; omega
  refine SlIs.fI hs hAD2 (z := 2) (fun _ => rfl) (by omega) rfl hlt (j := 1) (f := fun y => y.N) (fun _ => rfl) fun y hy => ?_
  refine jb (P := outE l[i].2 = true) D2 ?_ fun b hb2 => ?_
  ·refine ift.of (fun h2 => ⟨rfl, ?_⟩) (fun h2 => SlIs.fI hs hAD2 (z := 2) (fun _ => rfl) (by omega) rfl hlt (j := 1) (f := fun y => y.N) (fun _ => rfl) fun y2 hy2 => ⟨rfl, ?_⟩)
   ·rw [hy.2.2.2.1] at h2
    unfold outE; rw [h2]; simp
   ·rw [hy.2.2.2.1] at h2
    rw [hy2.2.2.2.1]
    unfold outE; rw [h2]; simp
  refine ift.of (fun h2 => ?_) (fun h2 => ?_)
  ·have : chkE l = 80 := by unfold chkE; rw [hq, if_neg (by simp), if_pos (List.any_eq_true.2 ⟨l[i], List.getElem_mem hlt, hb2.1 h2⟩)]
   rw [this] at k; exact ⟨H, Gh.le hD2, k⟩
  ·have h3 : outE l[i].2 = false := by
    cases ho : outE l[i].2 with
    | false => rfl
    | true => rw [hb2.2 ho] at h2; cases h2
   rw [w_i64 (by omega) (by omega)]
   refine ⟨⟨hD2, i + 1, by omega, by omega, ?_⟩, by first | omega | (dsimp only; omega)⟩
   rw [List.take_add_one, List.getElem?_eq_getElem hlt, List.any_append, hq2]
   simp [h3]
 ·have hie : i = l.length := by have := of_decide_eq_false h; omega
  rw [hie, List.take_length] at hq2
  have : chkE l = 0 := by unfold chkE; rw [hq, hq2]; simp
  rw [this] at k; exact ⟨H, Gh.le hD2, k⟩
end
end Sx
end

noncomputable section
set_option linter.unusedVariables false
set_option linter.unusedSimpArgs false
set_option maxRecDepth 10000
namespace Sx
open Go Go.Proofs
section
variable {C : Ctx} {H A : Heap}
theorem ysE_len : ∀ ys : List T_zset_Entry, (ys.flatMap T_zset_Entry.c).length = ys.length * 2
 | [] => rfl
 | y :: ys => by rw [List.flatMap_cons, List.length_append, ysE_len ys, List.length_cons, show (T_zset_Entry.c y).length = 2 from rfl]; omega
theorem OgE.slen {B : Heap} {es : List En} {s : Sl} {ys : List T_zset_Entry} (h : OgE H B es s ys) : s.len = es.length := by
 have h1 := h.own.own.1
 rw [ysE_len, h.len] at h1; omega
/-- owned entries are entries -/
theorem OgE.en {B : Heap} {es : List En} {s : Sl} {ys : List T_zset_Entry} (h : OgE H B es s ys) (hb : ∀ e ∈ es, VBs e.1 ∧ e.1.length ≤ 140737488355328 ∧ -9223372036854775808 ≤ e.2 ∧ e.2 < 9223372036854775808) (hn : es.length ≤ 140737488355328) : EnL B s es :=
 ⟨ys, h.own.own.rdsl, by rw [h.slen, h.len], h.len.symm, hn, fun i v x hv hx => by
  obtain ⟨q1, q2⟩ := h.done i v x hv hx
  obtain ⟨b1, b2, b3, b4⟩ := hb v (List.mem_of_getElem? hv)
  exact ⟨q1.row2.le (Heap.off_le s B), b1, b2, q2, b3, b4⟩⟩
theorem given_ok {s0 : Sl} {l : List En} {K : Sl → Heap → Prop} (hs : EnL A s0 l) (hA : A.le H) (hn : l.length ≤ 1000000) (hsz : ∀ x ∈ l, vsizes x.1 ≤ 1000000) (k : ∀ r ys H2, OgE H H2 l r ys → K r H2) : c_law16_given C s0 K H := by
 apply ad_law16_given
 unfold sh_law16_given
 refine ⟨fun x D => ∃ (i : Nat) (ys : List T_zset_Entry), x.2 = (i : Int) ∧ i ≤ l.length ∧ OgE H D (l.take i) x.1 ys, fun x _ => l.length - x.2.toNat, ⟨0, [], rfl, Nat.zero_le _, OgE.nil⟩, ?_⟩
 rintro ⟨s, _⟩ D ⟨i, ys, rfl, hi, hg⟩
 rw [hs.len]
 refine ift.of (fun h => ?_) (fun h => ?_)
 ·have hlt : i < l.length := by have : (i : Int) < l.length := of_decide_eq_true h; omega
  have hHo : H.le (D.off s) := Heap.le_off hg.own.le hg.own.fresh
  have hAo := hA.trans hHo
  refine ⟨D.off s, Heap.off_le s D, SlIs.fL hs hAo (z := 2) (fun _ => rfl) (by omega) rfl hlt (j := 0) (f := fun y => y.Row) (fun _ => rfl) fun y1 hy1 => SlIs.fI hs hAo (z := 2) (fun _ => rfl) (by omega) rfl hlt (j := 1) (f := fun y => y.N) (fun _ => rfl) fun y2 hy2 => ?_⟩
  rw [hy2.2.2.2.1]
  refine Own_ok hy1.1 (hA.trans hg.own.le) (hsz _ (List.getElem_mem hlt)) fun t2 H23 hm => ⟨(Heap.off_le s D).trans hm.le, ?_⟩
  intro b25 n25
  have l26 := Heap.le_put n25 (g := .row (T_zset_Entry.c (⟨t2, l[i].2⟩ : T_zset_Entry) ++ [])) (m := true)
  have h26 : (H23.put b25 (.row (T_zset_Entry.c (⟨t2, l[i].2⟩ : T_zset_Entry) ++ []))) b25 = some (true, .row (T_zset_Entry.c (⟨t2, l[i].2⟩ : T_zset_Entry) ++ [])) := Heap.put_same ..
  generalize H23.put b25 (.row (T_zset_Entry.c (⟨t2, l[i].2⟩ : T_zset_Entry) ++ [])) = H26 at *
  have hm2 := hm.up l26
  refine ⟨(Heap.off_le s D).trans hm2.le, ?_⟩
  have hsl : s.len = i := by have h := hg.slen; rw [List.length_take, Nat.min_eq_left hi] at h; exact h
  refine apS_ownF (ys := T_zset_Entry.c (⟨t2, l[i].2⟩ : T_zset_Entry)) (hg.own.own.le hm2.le).off (.inr ⟨rfl, _, rfl, rds_row h26 fun j v hj => by simpa using hj⟩) rfl (by intro u hu; simp [T_zset_Entry.c] at hu; rcases hu with rfl | rfl <;> rfl) (by show (s.len + 1) * 32 ≤ _; omega) (by show s.len + 1 ≤ _; omega) fun r' H29 hO hlen => ?_
  refine ⟨(Heap.le_off ((Heap.off_le s D).trans hm2.le) (Heap.off_fresh s D)).trans hO.le, ?_⟩
  rw [w_i64 (by dsimp only; omega) (by dsimp only; omega)]
  refine ⟨⟨i + 1, ys ++ [(⟨t2, l[i].2⟩ : T_zset_Entry)], rfl, by omega, ?_⟩, by first | omega | (dsimp only; omega)⟩
  rw [List.take_add_one, List.getElem?_eq_getElem hlt]
  exact hg.step (l := l[i].1) (n := l[i].2) hm2 hO
 ·have hie : i = l.length := by have : ¬ (i : Int) < l.length := of_decide_eq_false h; omega
  rw [hie, List.take_length] at hg
  exact k _ _ _ hg
theorem back_ok {s0 : Sl} {l : List En} {K : Sl → Heap → Prop} (hs : EnL A s0 l) (hA : A.le H) (hn : l.length ≤ 1000000) (k : ∀ r H2, H.le H2 → EnL H2 r l → K r H2) : c_law16_back C s0 K H := by
 apply ad_law16_back
 unfold sh_law16_back
 refine ⟨fun x D => ∃ (i : Nat) (ys : List T_zset_Entry), x.2 = (i : Int) ∧ i ≤ l.length ∧ OwnF H D 2 x.1 (ys.flatMap T_zset_Entry.c) ∧ ys.length = i ∧ ∀ (j : Nat) (e : En) (y : T_zset_Entry), l[j]? = some e → ys[j]? = some y → EnIs A e y, fun x _ => l.length - x.2.toNat, ⟨0, [], rfl, Nat.zero_le _, OwnF.nil H 2, rfl, fun j e y _ hy => by simp at hy⟩, ?_⟩
 rintro ⟨s, _⟩ D ⟨i, ys, rfl, hi, hO, hyl, hy⟩
 rw [hs.len]
 have hsl : s.len = i := by have h1 : (ys.flatMap T_zset_Entry.c).length = s.len * 2 := hO.own.1; rw [ysE_len, hyl] at h1; omega
 refine ift.of (fun h => ?_) (fun h => ?_)
 ·have hlt : i < l.length := by have : (i : Int) < l.length := of_decide_eq_true h; omega
  have hHo : H.le (D.off s) := Heap.le_off hO.le hO.fresh
  have hAo := hA.trans hHo
  refine ⟨D.off s, Heap.off_le s D, SlIs.fL hs hAo (z := 2) (fun _ => rfl) (by omega) rfl hlt (j := 0) (f := fun y => y.Row) (fun _ => rfl) fun y1 hy1 => SlIs.fI hs hAo (z := 2) (fun _ => rfl) (by omega) rfl hlt (j := 1) (f := fun y => y.N) (fun _ => rfl) fun y2 hy2 => ?_⟩
  intro b25 n25
  have l26 := Heap.le_put n25 (g := .row (T_zset_Entry.c (⟨y1.Row, y2.N⟩ : T_zset_Entry) ++ [])) (m := true)
  have h26 : (D.put b25 (.row (T_zset_Entry.c (⟨y1.Row, y2.N⟩ : T_zset_Entry) ++ []))) b25 = some (true, .row (T_zset_Entry.c (⟨y1.Row, y2.N⟩ : T_zset_Entry) ++ [])) := Heap.put_same ..
  generalize D.put b25 (.row (T_zset_Entry.c (⟨y1.Row, y2.N⟩ : T_zset_Entry) ++ [])) = H26 at *
  refine ⟨(Heap.off_le s D).trans l26, ?_⟩
  refine apS_ownF (ys := T_zset_Entry.c (⟨y1.Row, y2.N⟩ : T_zset_Entry)) (hO.own.le l26).off (.inr ⟨rfl, _, rfl, rds_row h26 fun j v hj => by simpa using hj⟩) rfl (by intro u hu; simp [T_zset_Entry.c] at hu; rcases hu with rfl | rfl <;> rfl) (by show (s.len + 1) * 32 ≤ _; omega) (by show s.len + 1 ≤ _; omega) fun r' H29 hO2 hlen => ?_
  have lo := Heap.le_off ((Heap.off_le s D).trans l26) (Heap.off_fresh s D)
  refine ⟨lo.trans hO2.le, ?_⟩
  rw [w_i64 (by dsimp only; omega) (by dsimp only; omega)]
  refine ⟨⟨i + 1, ys ++ [(⟨y1.Row, y2.N⟩ : T_zset_Entry)], rfl, by omega, ?_, by simp [hyl], fun j e y he hj => ?_⟩, by first | omega | (dsimp only; omega)⟩
  ·rw [List.flatMap_append]
   have this : OwnF H H29 2 r' (List.flatMap T_zset_Entry.c ys ++ T_zset_Entry.c (⟨y1.Row, y2.N⟩ : T_zset_Entry)) := hO2.down (hHo.trans lo)
   simpa using this
  ·by_cases hj' : j < ys.length
   ·rw [List.getElem?_append_left hj'] at hj; exact hy j e y he hj
   ·have hjl := (List.getElem?_eq_some_iff.1 hj).1
    rw [List.length_append, List.length_singleton] at hjl
    have hje : j = i := by omega
    subst hje
    rw [List.getElem?_append_right (by omega), hyl, Nat.sub_self] at hj
    simp only [List.getElem?_cons_zero, Option.some.injEq] at hj
    rw [List.getElem?_eq_getElem hlt] at he
    have he := Option.some.inj he
    subst he; subst hj
    exact ⟨hy1.1, hy1.2.1, hy1.2.2.1, hy2.2.2.2.1, hy2.2.2.2.2⟩
 ·have hie : i = l.length := by have : ¬ (i : Int) < l.length := of_decide_eq_false h; omega
  subst hie
  exact k _ _ hO.le ⟨ys, hO.own.rdsl, by dsimp only; omega, hyl.symm, by omega, fun j e y he hj => (hy j e y he hj).le (hA.trans hO.le)⟩
end
end Sx
end

noncomputable section
set_option linter.unusedVariables false
set_option linter.unusedSimpArgs false
set_option maxRecDepth 10000
namespace Sx
open Go Go.Proofs
section
variable {C : Ctx} {H A X : Heap}
theorem like_ok {es : List En} {got want : Sl} {ys : List T_zset_Entry} {e : Int} {K : Bool → Heap → Prop} (hg : OgE X H es got ys) (hb : ∀ e ∈ es, VBs e.1 ∧ e.1.length ≤ 140737488355328 ∧ -9223372036854775808 ≤ e.2 ∧ e.2 < 9223372036854775808) (hn : es.length ≤ 1000000)
 (hw : EnL A want es) (hA : A.le H) (k : ∀ H2, X.le H2 → K true H2) : c_law16_like C got e want e K H := by
 apply ad_law16_like
 unfold sh_law16_like
 have hen := hg.en hb (by omega)
 refine ⟨fun b E => b = false ∧ H.le E, ?_, ?_⟩
 ·refine ift_neg (by simp) ?_
  refine back_ok hen (Heap.le.refl _) hn fun r5 H6 h6 he6 => ?_
  refine dSameE_ok (A := H6) he6 (EnL.le hw (hA.trans h6)) (Heap.le.refl _) fun b hb2 => ⟨?_, h6⟩
  rw [hb2.2 rfl]; rfl
 rintro _ E ⟨rfl, hE⟩
 refine ift_neg rfl ?_
 have hsl := hg.slen
 have hyl := hg.len
 have hXE := hg.own.le.trans hE
 have hfr := hg.own.fresh
 have hOE := hg.own.own.le hE
 obtain ⟨q1, q2, q3, q4⟩ := hOE
 have hcell : ∀ g, got.p = some (g, 0) → ∃ cs, E g = some (true, .row cs) ∧ 2 * es.length ≤ cs.length ∧ ∀ j, (h : j < ys.length) → cs[j * 2]? = some (slv ys[j].Row) := fun g hgp => by
  rcases q4 with ⟨p0, _⟩ | ⟨b, sp, hp, hbk, hc⟩
  ·rw [p0] at hgp; cases hgp
  ·rw [hp] at hgp; injection hgp with hgp; injection hgp with hgp _; subst hgp
   refine ⟨_, hbk, by rw [List.length_append, ysE_len]; omega, fun j h => ?_⟩
   rw [List.getElem?_append_left (by rw [ysE_len]; omega)]
   have := flat_getI T_zset_Entry.c 2 (fun _ => rfl) ys j _ (List.getElem?_eq_getElem h) 0 _ rfl
   rw [Nat.add_zero] at this; exact this
 have hSp : ∀ j, (h : j < ys.length) → ∃ k, Sp (fun c => X c = none ∧ ∀ p, got.p = some p → p.1 ≠ c) E k ys[j].Row := fun j h => by
  have hj : j < es.length := by omega
  obtain ⟨m1, _⟩ := hg.done j _ _ (List.getElem?_eq_getElem hj) (List.getElem?_eq_getElem h)
  obtain ⟨k, hk⟩ := m1.sp
  refine ⟨k, hk.to fun b e' hb' he' => ⟨⟨hb', fun p hp hpc => ?_⟩, hE _ _ (Heap.off_le _ _ _ _ he')⟩⟩
  have := Heap.off_fresh got H p hp
  rw [hpc, he'] at this; cases this
 refine ⟨fun x D => X.le D ∧ ∃ i : Nat, x = (i : Int) ∧ i ≤ es.length ∧ (∀ g, got.p = some (g, 0) → ∃ cs, D g = some (true, .row cs) ∧ 2 * es.length ≤ cs.length ∧ ∀ j, (h : j < ys.length) → cs[j * 2]? = some (slv ys[j].Row)) ∧ ∀ j, (h : j < ys.length) → ∃ k, Sp (fun c => X c = none ∧ ∀ p, got.p = some p → p.1 ≠ c) D k ys[j].Row, fun x _ => es.length - x.toNat, ⟨hXE, 0, rfl, Nat.zero_le _, hcell, hSp⟩, ?_⟩
 rintro _ D ⟨hXD, i, rfl, hi, hc, hS⟩
 rw [hsl]
 refine ift.of (fun h => ?_) (fun h => k D hXD)
 have hlt : i < es.length := by have := of_decide_eq_true h; omega
 have hlt2 : i < ys.length := by omega
 rcases q4 with ⟨p0, c0⟩ | ⟨g, sp, hp, _, _⟩
 ·omega
 obtain ⟨cs, d1, d2, d3⟩ := hc g hp
 refine ⟨(g, 0), hp, q2, by omega, by omega, ?_⟩
 refine ⟨ys[i].Row, ?_, ?_⟩
 ·show rd D (g, 0 + (i : Int).toNat * 2 + 0) = _
  rw [rd_row d1, show 0 + (i : Int).toNat * 2 + 0 = i * 2 by omega]
  exact d3 i hlt2
 obtain ⟨k1, hk1⟩ := hS i hlt2
 refine spoil_ok hk1 fun H22 hsame hkeep => ?_
 have d1' : H22 g = some (true, .row cs) := by rw [hsame g fun hN => hN.2 _ hp rfl]; exact d1
 refine ⟨(g, 0), hp, q2, by omega, by omega, ?_⟩
 refine ⟨cs, d1', ?_, ?_⟩
 ·show 0 + (i : Int).toNat * 2 + 1 < cs.length
  omega
 have hX22 : X.le H22 := fun b v hb' => by rw [hsame b fun hN => by rw [hN.1] at hb'; cases hb']; exact hXD _ _ hb'
 have hXg : X g = none := hfr _ hp
 rw [w_i64 (by omega) (by omega)]
 refine ⟨⟨le_put_off hX22 hXg, i + 1, by omega, by omega, fun g' hg' => ?_, fun j h => ?_⟩, by first | omega | (dsimp only; omega)⟩
 ·rw [hp] at hg'; injection hg' with hg'; injection hg' with hg' _; subst hg'
  refine ⟨_, Heap.put_same .., by rw [List.length_set]; exact d2, fun j h => ?_⟩
  rw [List.getElem?_set_ne]
  ·exact d3 j h
  ·show 0 + (i : Int).toNat * 2 + 1 ≠ j * 2
   omega
 ·obtain ⟨k2, hk2⟩ := hS j h
  refine ⟨k2, (hkeep _ _ hk2).to fun b e' hb' he' => ⟨hb', ?_⟩⟩
  have hbg : b ≠ g := fun e => hb'.2 _ hp e.symm
  show (H22.put g _) b = _
  rw [Heap.put_ne _ _ _ hbg]; exact he'
end
end Sx
end

noncomputable section
set_option linter.unusedVariables false
set_option linter.unusedSimpArgs false
set_option maxRecDepth 10000
namespace Sx
open Go Go.Proofs
theorem w_rng (x : Int) : -9223372036854775808 ≤ w .i64 x ∧ w .i64 x < 9223372036854775808 := by
 have h : w .i64 x = if x % 18446744073709551616 ≥ 9223372036854775808 then x % 18446744073709551616 - 18446744073709551616 else x % 18446744073709551616 := by
  unfold w IntKind.wrap
  simp [IntKind.signed, IntKind.bits]
 rw [h]
 by_cases hc : x % 18446744073709551616 ≥ 9223372036854775808
 ·rw [if_pos hc]; omega
 ·rw [if_neg hc]; omega
theorem cE_one {xs : List T_zset_Entry} : ∀ u ∈ xs.flatMap T_zset_Entry.c, u.oneCell' = true := by
 intro u hu
 obtain ⟨x, _, hx⟩ := List.mem_flatMap.1 hu
 simp [T_zset_Entry.c] at hx
 rcases hx with rfl | rfl <;> rfl
section
variable {C : Ctx} {H A : Heap}
theorem both_ok {a b : Sl} {la lb : List En} {tb : Bool} {K : Sl → Heap → Prop} (ha : EnL A a la) (hb : EnL A b lb) (hA : A.le H) (hn : la.length + lb.length ≤ 1000000) (k : ∀ r H2, H.le H2 → EnL H2 r (la ++ lb.map fun e => (e.1, doE tb e.2)) → K r H2) : c_ref16_both C a b tb K H := by
 apply ad_ref16_both
 unfold sh_ref16_both
 intro b1 n1
 obtain ⟨xs, x1, x2, x3, x4, x5⟩ := ha
 have l1 := Heap.le_put n1 (g := .row []) (m := true)
 refine apS_ownF (ownF_empty (z := 2) n1) (rdsl_le (hA.trans l1) x1) (by rw [ysE_len, ← x2]; rfl) cE_one (by show (0 + a.len) * 32 ≤ _; omega) (by show 0 + a.len ≤ _; omega) fun r3 H4 hO hlen => ?_
 rw [List.nil_append] at hO
 refine ⟨fun x D => ∃ (i : Nat) (ys : List T_zset_Entry), x.2 = (i : Int) ∧ i ≤ lb.length ∧ OwnF H D 2 x.1 ((xs ++ ys).flatMap T_zset_Entry.c) ∧ ys.length = i ∧ ∀ (j : Nat) (e : En) (y : T_zset_Entry), lb[j]? = some e → ys[j]? = some y → EnIs A (e.1, doE tb e.2) y, fun x _ => lb.length - x.2.toNat, ⟨0, [], rfl, Nat.zero_le _, by rw [List.append_nil]; exact hO, rfl, fun j e y _ hy => by simp at hy⟩, ?_⟩
 rintro ⟨s, _⟩ D ⟨i, ys, rfl, hi, hO, hyl, hy⟩
 rw [hb.len]
 have hsl : s.len = xs.length + i := by have h1 : ((xs ++ ys).flatMap T_zset_Entry.c).length = s.len * 2 := hO.own.1; rw [ysE_len, List.length_append, hyl] at h1; omega
 refine ift.of (fun h => ?_) (fun h => ?_)
 ·have hlt : i < lb.length := by have : (i : Int) < lb.length := of_decide_eq_true h; omega
  have hAD := hA.trans hO.le
  refine hb.ld hAD (z := 2) (fun _ => rfl) (by omega) rfl hlt fun x14 hx14 => ?_
  intro b16 n16
  refine nwT rfl ?_
  have l16 := Heap.le_put n16 (g := .row (T_zset_Entry.c x14)) (m := true)
  have h16 : (D.put b16 (.row (T_zset_Entry.c x14))) b16 = some (true, .row (T_zset_Entry.c x14)) := Heap.put_same ..
  have hput : ∀ g, (D.put b16 (.row (T_zset_Entry.c x14))).put b16 g = D.put b16 g := fun g => Heap.put_put ..
  have lg : ∀ g, D.le (D.put b16 g) := fun g => Heap.le_put n16
  refine ⟨fun _ E => D.le E ∧ E b16 = some (true, .row (T_zset_Entry.c (⟨x14.Row, doE tb x14.N⟩ : T_zset_Entry))), ?_, ?_⟩
  ·cases tb with
   | true =>
    refine ift_pos rfl (fI h16 rfl ⟨_, h16, by simp [T_zset_Entry.c], ?_⟩)
    rw [hput]
    exact ⟨lg _, Heap.put_same ..⟩
   | false => exact ift_neg rfl ⟨l16, h16⟩
  rintro _ E ⟨lE, hE16⟩
  refine bxT hE16 ?_
  refine apd_ownF (ys := T_zset_Entry.c (⟨x14.Row, doE tb x14.N⟩ : T_zset_Entry)) (m := 1) (hO.up lE) rfl (by show (s.len + 1) * 32 ≤ _; omega) (by show s.len + 1 ≤ _; omega) fun r' H30 hO2 hlen2 => ?_
  rw [w_i64 (by dsimp only; omega) (by dsimp only; omega)]
  refine ⟨⟨i + 1, ys ++ [(⟨x14.Row, doE tb x14.N⟩ : T_zset_Entry)], rfl, by omega, ?_, by simp [hyl], fun j e y he hj => ?_⟩, by first | omega | (dsimp only; omega)⟩
  ·have this : OwnF H H30 2 r' ((xs ++ ys).flatMap T_zset_Entry.c ++ T_zset_Entry.c (⟨x14.Row, doE tb x14.N⟩ : T_zset_Entry)) := hO2
   rw [← List.append_assoc, List.flatMap_append]
   simpa using this
  ·by_cases hj' : j < ys.length
   ·rw [List.getElem?_append_left hj'] at hj; exact hy j e y he hj
   ·have hjl := (List.getElem?_eq_some_iff.1 hj).1
    rw [List.length_append, List.length_singleton] at hjl
    have hje : j = i := by omega
    subst hje
    rw [List.getElem?_append_right (by omega), hyl, Nat.sub_self] at hj
    simp only [List.getElem?_cons_zero, Option.some.injEq] at hj
    rw [List.getElem?_eq_getElem hlt] at he
    have he := Option.some.inj he
    subst he; subst hj
    obtain ⟨e1, e2, e3, e4, e5, e6⟩ := hx14
    refine ⟨e1, e2, e3, by show doE tb x14.N = _; rw [e4], ?_⟩
    unfold doE
    split
    ·exact w_rng _
    ·exact ⟨e5, e6⟩
 ·have hie : i = lb.length := by have : ¬ (i : Int) < lb.length := of_decide_eq_false h; omega
  subst hie
  refine k _ _ hO.le ⟨xs ++ ys, hO.own.rdsl, by rw [List.length_append]; dsimp only; omega, by simp [x3, hyl], by rw [List.length_append, List.length_map]; omega, fun j v x hv hx => ?_⟩
  by_cases hj : j < xs.length
  ·rw [List.getElem?_append_left hj] at hx
   rw [List.getElem?_append_left (by omega)] at hv
   exact (x5 j v x hv hx).le (hA.trans hO.le)
  ·rw [List.getElem?_append_right (by omega)] at hx
   rw [List.getElem?_append_right (by omega), List.getElem?_map, x3] at hv
   cases hl : lb[j - xs.length]? with
   | none => rw [hl] at hv; cases hv
   | some e =>
    rw [hl] at hv
    injection hv with hv; subst hv
    exact (hy _ e x hl hx).le (hA.trans hO.le)
end
end Sx
end

noncomputable section
set_option linter.unusedVariables false
set_option linter.unusedSimpArgs false
set_option maxRecDepth 10000
namespace Sx
open Go Go.Proofs
theorem and_split {a b c d : Int} (h : (decide (a < b) && decide (c < d)) = false) : b ≤ a ∨ d ≤ c := by
 rw [Bool.and_eq_false_iff] at h
 rcases h with h | h
 ·left; have := of_decide_eq_false h; omega
 ·right; have := of_decide_eq_false h; omega
theorem and_both {a b c d : Int} (h : (decide (a < b) && decide (c < d)) = true) : a < b ∧ c < d := by
 rw [Bool.and_eq_true] at h
 exact ⟨of_decide_eq_true h.1, of_decide_eq_true h.2⟩
theorem large_ok {C : Ctx} {H A : Heap} {s : Sl} {l : List En} {K : Bool → Heap → Prop} (hs : EnL A s l) (hA : A.le H) (k : ∀ b, (b = false → l.length ≤ 500 ∧ ∀ e ∈ l, vsizes e.1 ≤ 500) → K b H) : c_law16_large C s K H := by
 apply ad_law16_large
 unfold sh_law16_large
 have hb := hs.bd
 rw [hs.len]
 refine ⟨fun x D => D = H ∧ ∃ i n : Nat, x.1 = (n : Int) ∧ x.2 = (i : Int) ∧ i ≤ l.length ∧ n ≤ 562949953421312 ∧ l.length ≤ n ∧ (n < 500 → ∀ j, (h : j < l.length) → j < i → vsizes l[j].1 ≤ n), fun x _ => l.length - x.2.toNat, ⟨rfl, 0, l.length, rfl, rfl, Nat.zero_le _, by omega, Nat.le_refl _, fun _ j h hj => by omega⟩, ?_⟩
 rintro ⟨_, _⟩ D ⟨rfl, i, n, rfl, rfl, hi, hn, hln, hq⟩
 refine ift.of (fun h => ?_) (fun h => ?_)
 ·have h0 := and_both h
  have hlt : i < l.length := by have := h0.1; dsimp only at this; omega
  have hn5 : n < 500 := by have := h0.2; dsimp only at this; omega
  refine SlIs.fL hs hA (z := 2) (fun _ => rfl) (by omega) rfl hlt (j := 0) (f := fun y => y.Row) (fun _ => rfl) fun y1 hy1 => ?_
  have hrl := hy1.1.len
  have hrb := hy1.2.2.1
  rw [hrl, w_i64 (by dsimp only; omega) (by dsimp only; omega)]
  refine ⟨fun x E => E = D ∧ ∃ m n2 : Nat, x.1 = (n2 : Int) ∧ x.2 = (m : Int) ∧ m ≤ l[i].1.length ∧ n2 ≤ 562949953421312 ∧ n ≤ n2 ∧ (n2 < 500 → n + l[i].1.length + vsizes (l[i].1.take m) ≤ n2), fun x _ => l[i].1.length - x.2.toNat, ⟨rfl, 0, n + l[i].1.length, by dsimp only; omega, rfl, Nat.zero_le _, by omega, by omega, fun _ => by simp [vsizes]⟩, ?_⟩
  rintro ⟨_, _⟩ E ⟨rfl, m, n2, rfl, rfl, hm, hn2, hnn, hq2⟩
  refine SlIs.fL hs hA (z := 2) (fun _ => rfl) (by omega) rfl hlt (j := 0) (f := fun y => y.Row) (fun _ => rfl) fun y2 hy2 => ?_
  rw [hy2.1.len]
  refine ift.of (fun h => ?_) (fun h => ?_)
  ·have h1 := and_both h
   have hmt : m < l[i].1.length := by have := h1.1; dsimp only at this; omega
   have hn25 : n2 < 500 := by have := h1.2; dsimp only at this; omega
   refine SlIs.fL hs hA (z := 2) (fun _ => rfl) (by omega) rfl hlt (j := 0) (f := fun y => y.Row) (fun _ => rfl) fun y3 hy3 => ?_
   refine SlIs.ld (VLs hy3.1 hy3.2.2.1) hA (z := 4) (fun _ => rfl) (by omega) rfl hmt fun x hx => ?_
   refine weight_ok (m := 500) (hx.le hA) (hy3.2.1.mem (List.getElem_mem hmt)) (by omega) (by omega) fun r r1 r2 r3 => ?_
   rw [w_i64 (by dsimp only; omega) (by dsimp only; omega), w_i64 (by dsimp only; omega) (by dsimp only; omega)]
   refine ⟨⟨rfl, m + 1, n2 + r, by dsimp only; omega, by dsimp only; omega, by omega, by omega, by omega, fun h5 => ?_⟩, by first | omega | (dsimp only; omega)⟩
   have h6 := hq2 hn25
   have h7 := r3 (by omega)
   rw [vsizes_take hmt]; omega
  ·have h1 := and_split h
   dsimp only at h1
   rw [w_i64 (by dsimp only; omega) (by dsimp only; omega)]
   refine ⟨⟨rfl, i + 1, n2, rfl, by dsimp only; omega, by omega, hn2, by omega, fun h5 j hj hji => ?_⟩, by first | omega | (dsimp only; omega)⟩
   have hme : m = l[i].1.length := by omega
   have h6 := hq2 h5
   rw [hme, List.take_length] at h6
   by_cases he : j = i
   ·subst he; omega
   ·have := hq (by omega) j hj (by omega); omega
 ·have h1 := and_split h
  dsimp only at h1
  refine k _ fun hf => ?_
  have hn5 : n < 500 := by have : ¬ (n : Int) ≥ 500 := of_decide_eq_false hf; omega
  have hie : i = l.length := by omega
  refine ⟨by omega, fun e he => ?_⟩
  obtain ⟨j, hj, rfl⟩ := List.getElem_of_mem he
  have := hq hn5 j hj (by omega); omega
end Sx
end

noncomputable section
set_option linter.unusedVariables false
set_option linter.unusedSimpArgs false
set_option maxRecDepth 10000
namespace Sx
open Go Go.Proofs
theorem spl2 {C Z sp N : List Value} {a : Nat} (hZ : Z.length = 2) (hN : N.length = 2) (ha : a * 2 ≤ C.length) : splice (splice (C ++ Z ++ sp) ((a + 1) * 2) (C.drop (a * 2))) (a * 2) N = C.take (a * 2) ++ (N ++ C.drop (a * 2)) ++ sp := by
 have e1 : splice (C ++ Z ++ sp) ((a + 1) * 2) (C.drop (a * 2)) = (C ++ Z).take (a * 2 + 2) ++ (C.drop (a * 2) ++ sp) := by
  unfold splice
  have h1 : (C ++ Z ++ sp).take ((a + 1) * 2) = (C ++ Z).take (a * 2 + 2) := by
   rw [show (a + 1) * 2 = a * 2 + 2 by omega, List.take_append_of_le_length (by rw [List.length_append]; omega)]
  have h2 : (C ++ Z ++ sp).drop ((a + 1) * 2 + (C.drop (a * 2)).length) = sp := by
   rw [List.length_drop, List.drop_append, List.drop_of_length_le (by rw [List.length_append]; omega), List.nil_append, show (a + 1) * 2 + (C.length - a * 2) - (C ++ Z).length = 0 by rw [List.length_append]; omega, List.drop_zero]
  rw [h1, h2]; simp
 rw [e1]
 unfold splice
 have hl : ((C ++ Z).take (a * 2 + 2)).length = a * 2 + 2 := by rw [List.length_take, List.length_append]; omega
 have h3 : ((C ++ Z).take (a * 2 + 2) ++ (C.drop (a * 2) ++ sp)).take (a * 2) = C.take (a * 2) := by
  rw [List.take_append_of_le_length (by omega), List.take_take, Nat.min_eq_left (by omega), List.take_append_of_le_length ha]
 have h4 : ((C ++ Z).take (a * 2 + 2) ++ (C.drop (a * 2) ++ sp)).drop (a * 2 + N.length) = C.drop (a * 2) ++ sp := by
  rw [hN, List.drop_append, List.drop_of_length_le (by omega), List.nil_append, hl, Nat.sub_self, List.drop_zero]
 rw [h3, h4]; simp
theorem ysE_take : ∀ (ys : List T_zset_Entry) (a : Nat), (ys.flatMap T_zset_Entry.c).take (a * 2) = (ys.take a).flatMap T_zset_Entry.c
 | [], a => by simp
 | y :: ys, 0 => by simp
 | y :: ys, a + 1 => by
  rw [List.flatMap_cons, List.take_succ_cons, List.flatMap_cons, List.take_append, show (T_zset_Entry.c y).length = 2 from rfl, List.take_of_length_le (by rw [show (T_zset_Entry.c y).length = 2 from rfl]; omega), show (a + 1) * 2 - 2 = a * 2 by omega, ysE_take ys a]
theorem ysE_drop : ∀ (ys : List T_zset_Entry) (a : Nat), (ys.flatMap T_zset_Entry.c).drop (a * 2) = (ys.drop a).flatMap T_zset_Entry.c
 | [], a => by simp
 | y :: ys, 0 => by simp
 | y :: ys, a + 1 => by
  rw [List.flatMap_cons, List.drop_succ_cons, List.drop_append, show (T_zset_Entry.c y).length = 2 from rfl, List.drop_of_length_le (by rw [show (T_zset_Entry.c y).length = 2 from rfl]; omega), List.nil_append, show (a + 1) * 2 - 2 = a * 2 by omega, ysE_drop ys a]
theorem ysE_set : ∀ (ys : List T_zset_Entry) (i : Nat) (n : Int) (h : i < ys.length) (sp : List Value), ((ys.flatMap T_zset_Entry.c) ++ sp).set (i * 2 + 1) (.int .i64 n) = ((ys.set i (⟨ys[i].Row, n⟩ : T_zset_Entry)).flatMap T_zset_Entry.c) ++ sp
 | [], i, n, h, sp => by simp at h
 | y :: ys, 0, n, h, sp => by simp [T_zset_Entry.c]
 | y :: ys, i + 1, n, h, sp => by
  have ih := ysE_set ys i n (by simpa using h) sp
  have e : (i + 1) * 2 + 1 = (i * 2 + 1) + 1 + 1 := by omega
  rw [List.set_cons_succ, List.flatMap_cons, List.flatMap_cons, e]
  show (slv y.Row :: Value.int .i64 y.N :: (ys.flatMap T_zset_Entry.c ++ sp)).set (i * 2 + 1 + 1 + 1) (.int .i64 n) = _
  rw [List.set_cons_succ, List.set_cons_succ, ih]
  rfl
theorem off_put {H : Heap} {s : Sl} {g : Nat} {o : GO} {x : Nat} (hp : s.p = some (g, x)) : (H.put g o).off s = H.off s := by
 funext b
 unfold Heap.off
 by_cases hb : g = b
 ·subst hb; rw [if_pos (by rw [hp]; rfl), if_pos (by rw [hp]; rfl)]
 ·rw [if_neg (by rw [hp]; simpa using hb), if_neg (by rw [hp]; simpa using hb), Heap.put_ne _ _ _ fun e => hb e.symm]
/-- an owned entry's number is set -/
theorem OgE.setN {H B : Heap} {es : List En} {s : Sl} {ys : List T_zset_Entry} {i : Nat} {n : Int} {g : Nat} {c : List Value} (h : OgE H B es s ys) (hi : i < es.length) (hp : s.p = some (g, 0)) (hc : B g = some (true, .row c)) :
 OgE H (B.put g (.row (c.set (i * 2 + 1) (.int .i64 n)))) (es.set i (es[i].1, n)) s (ys.set i (⟨(ys[i]'(by rw [h.len]; exact hi)).Row, n⟩ : T_zset_Entry)) := by
 have hi2 : i < ys.length := by rw [h.len]; exact hi
 obtain ⟨hle, ⟨q1, q2, q3, q4⟩, hf⟩ := h.own
 have hHg : H g = none := hf _ hp
 refine ⟨⟨le_put_off hle hHg, ⟨?_, q2, q3, ?_⟩, hf⟩, by simp [h.len], fun j e y he hy => ?_⟩
 ·rw [ysE_len, List.length_set, ← ysE_len]; exact q1
 ·rcases q4 with ⟨p0, _⟩ | ⟨g', sp, hp', hb, hcl⟩
  ·rw [p0] at hp; cases hp
  ·rw [hp] at hp'; injection hp' with hp'; injection hp' with hp' _; subst hp'
   rw [hc] at hb; injection hb with hb; injection hb with _ hb; injection hb with hb; subst hb
   refine .inr ⟨g, sp, hp, ?_, ?_⟩
   ·rw [Heap.put_same, ysE_set ys i n hi2 sp]
   ·rw [List.length_append, ysE_len, List.length_set, ← ysE_len, ← List.length_append]; exact hcl
 ·rw [off_put hp]
  by_cases hij : i = j
  ·subst hij
   rw [List.getElem?_set_self hi] at he
   rw [List.getElem?_set_self hi2] at hy
   injection he with he; injection hy with hy; subst he; subst hy
   obtain ⟨m1, _⟩ := h.done i _ _ (List.getElem?_eq_getElem hi) (List.getElem?_eq_getElem hi2)
   exact ⟨m1, rfl⟩
  ·rw [List.getElem?_set_ne hij] at he hy
   exact h.done j e y he hy
end Sx
end

noncomputable section
set_option linter.unusedVariables false
set_option linter.unusedSimpArgs false
set_option maxRecDepth 10000
namespace Sx
open Go Go.Proofs
theorem OgE.insert {H B B1 B3 : Heap} {es : List En} {s r t : Sl} {ys : List T_zset_Entry} {a : Nat} {l : List V} {n : Int} {g : Nat} {sp : List Value} (h : OgE H B es s ys) (ha : a ≤ es.length) (hO : OwnF (B.off s) B1 2 r (ys.flatMap T_zset_Entry.c ++ T_zset_Entry.c (⟨Sl.nil, 0⟩ : T_zset_Entry)))
 (hp : r.p = some (g, 0)) (hg : B1 g = some (true, .row (ys.flatMap T_zset_Entry.c ++ T_zset_Entry.c (⟨Sl.nil, 0⟩ : T_zset_Entry) ++ sp))) (hcap : r.cap * 2 ≤ (ys.flatMap T_zset_Entry.c ++ T_zset_Entry.c (⟨Sl.nil, 0⟩ : T_zset_Entry) ++ sp).length)
 (hm : Made (B1.put g (.row (splice (ys.flatMap T_zset_Entry.c ++ T_zset_Entry.c (⟨Sl.nil, 0⟩ : T_zset_Entry) ++ sp) ((a + 1) * 2) ((ys.flatMap T_zset_Entry.c).drop (a * 2))))) B3 l t) :
 OgE H (B3.put g (.row (splice (splice (ys.flatMap T_zset_Entry.c ++ T_zset_Entry.c (⟨Sl.nil, 0⟩ : T_zset_Entry) ++ sp) ((a + 1) * 2) ((ys.flatMap T_zset_Entry.c).drop (a * 2))) (a * 2) (T_zset_Entry.c (⟨t, n⟩ : T_zset_Entry))))) (es.take a ++ (l, n) :: es.drop a) r (ys.take a ++ (⟨t, n⟩ : T_zset_Entry) :: ys.drop a) := by
 have hoff : H.le (B.off s) := Heap.le_off h.own.le h.own.fresh
 have hHg : H g = none := hO.fresh.le hoff _ hp
 have hfr : Fresh H r := hO.fresh.le hoff
 have hH1 : H.le B1 := hoff.trans hO.le
 have hH2 := le_put_off (g := .row (splice (ys.flatMap T_zset_Entry.c ++ T_zset_Entry.c (⟨Sl.nil, 0⟩ : T_zset_Entry) ++ sp) ((a + 1) * 2) ((ys.flatMap T_zset_Entry.c).drop (a * 2)))) hH1 hHg
 have hmo := hm.off hH2 hfr fun p hp' => by rw [hp] at hp'; injection hp' with hp'; subst hp'; exact ⟨_, Heap.put_same ..⟩
 have l1 : (B.off s).le (B1.off r) := Heap.le_off hO.le hO.fresh
 have l3 : (B1.off r).le (B3.off r) := by
  have h2 := Heap.le_off (A := (B1.put g (.row (splice (ys.flatMap T_zset_Entry.c ++ T_zset_Entry.c (⟨Sl.nil, 0⟩ : T_zset_Entry) ++ sp) ((a + 1) * 2) ((ys.flatMap T_zset_Entry.c).drop (a * 2))))).off r) ((Heap.off_le r _).trans hm.le) (Heap.off_fresh r _)
  rw [off_put hp] at h2; exact h2
 have hal : a * 2 ≤ (ys.flatMap T_zset_Entry.c).length := by rw [ysE_len, h.len]; omega
 rw [spl2 rfl rfl hal, ysE_take, ysE_drop]
 have hcells : (ys.take a).flatMap T_zset_Entry.c ++ (T_zset_Entry.c (⟨t, n⟩ : T_zset_Entry) ++ (ys.drop a).flatMap T_zset_Entry.c) = (ys.take a ++ (⟨t, n⟩ : T_zset_Entry) :: ys.drop a).flatMap T_zset_Entry.c := by
  rw [List.flatMap_append, List.flatMap_cons]
 rw [hcells]
 obtain ⟨q1, q2, q3, q4⟩ := hO.own
 have hyl : (ys.take a ++ (⟨t, n⟩ : T_zset_Entry) :: ys.drop a).length = ys.length + 1 := by
  rw [List.length_append, List.length_cons, List.length_take, List.length_drop, h.len]; omega
 refine ⟨⟨le_put_off (hH2.trans hm.le) hHg, ⟨?_, q2, q3, .inr ⟨g, sp, hp, Heap.put_same .., ?_⟩⟩, hfr⟩, by rw [hyl, List.length_append, List.length_cons, List.length_take, List.length_drop, h.len]; omega, fun j e y he hy => ?_⟩
 ·rw [List.length_append, ysE_len] at q1
  rw [ysE_len, hyl]
  have : (T_zset_Entry.c (⟨Sl.nil, 0⟩ : T_zset_Entry)).length = 2 := rfl
  omega
 ·rw [List.length_append, ysE_len, hyl]
  rw [List.length_append, List.length_append, ysE_len] at hcap
  have : (T_zset_Entry.c (⟨Sl.nil, 0⟩ : T_zset_Entry)).length = 2 := rfl
  omega
 ·rw [off_put hp]
  have l13 := l1.trans l3
  have hta : (es.take a).length = a := by rw [List.length_take]; omega
  have hty : (ys.take a).length = a := by rw [List.length_take, h.len]; omega
  by_cases hj : j < a
  ·rw [List.getElem?_append_left (by omega), List.getElem?_take_of_lt hj] at he
   rw [List.getElem?_append_left (by omega), List.getElem?_take_of_lt hj] at hy
   obtain ⟨m1, m2⟩ := h.done j e y he hy
   exact ⟨m1.up l13, m2⟩
  ·rw [List.getElem?_append_right (by omega), hta] at he
   rw [List.getElem?_append_right (by omega), hty] at hy
   by_cases hj0 : j = a
   ·subst hj0
    rw [Nat.sub_self] at he hy
    simp only [List.getElem?_cons_zero, Option.some.injEq] at he hy
    subst he; subst hy
    exact ⟨hmo, rfl⟩
   ·obtain ⟨d, hd⟩ : ∃ d, j - a = d + 1 := ⟨j - a - 1, by omega⟩
    rw [hd, List.getElem?_cons_succ, List.getElem?_drop] at he hy
    obtain ⟨m1, m2⟩ := h.done (a + d) e y he hy
    exact ⟨m1.up l13, m2⟩
end Sx
end

noncomputable section
set_option linter.unusedVariables false
set_option linter.unusedSimpArgs false
set_option maxRecDepth 10000
namespace Sx
open Go Go.Proofs
def okE (e : En) : Prop := VBs e.1 ∧ e.1.length ≤ 140737488355328 ∧ -9223372036854775808 ≤ e.2 ∧ e.2 < 9223372036854775808
section
variable {C : Ctx} {H A : Heap}
/-- where the document's entries stand -/
structure DC (H : Heap) (l : List En) (i : Nat) (outs : List En) (s : Sl) (D : Heap) : Prop where
 og : ∃ ys, OgE H D outs s ys
 sum : IsSum (l.take i) outs
 few : outs.length ≤ i
theorem mem_sum {es out : List En} (h : IsSum es out) {o : En} (ho : o ∈ out) : (∃ e ∈ es, e.1 = o.1) ∧ o.2 = totE es o.1 := (h.mem o.1 o.2).1 ho
theorem DC.ok {l : List En} {i : Nat} {outs : List En} {s : Sl} {D : Heap} (h : DC H l i outs s D) (hl : l.length ≤ 1000000) (hb : ∀ e ∈ l, VBs e.1 ∧ e.1.length ≤ 140737488355328) (hN : ∀ e ∈ l, -2147483647 ≤ e.2 ∧ e.2 ≤ 2147483647) : ∀ e ∈ outs, okE e ∧ -(2147483647 * (l.length : Int)) ≤ e.2 ∧ e.2 ≤ 2147483647 * (l.length : Int) := fun e he => by
 obtain ⟨⟨x, hx, hxe⟩, hn⟩ := mem_sum h.sum he
 have h1 := hb x (List.mem_of_mem_take hx)
 have h2 := totE_bd (r := e.1) (l := l.take i) fun y hy => hN y (List.mem_of_mem_take hy)
 have h3 : (l.take i).length ≤ l.length := by rw [List.length_take]; omega
 rw [← hn] at h2
 exact ⟨⟨by rw [← hxe]; exact h1.1, by rw [← hxe]; exact h1.2, by omega, by omega⟩, by omega, by omega⟩
theorem insert_at {l outs : List En} {i a : Nat} {r : List V} {m : Int} (h : IsSum (l.take i) outs) (hi : i < l.length) (hr : l[i] = (r, m)) (ha : a ≤ outs.length) (hlt : ∀ j, (hj : j < outs.length) → j < a → cmpR outs[j].1 r < 0) (hge : ∀ hj : a < outs.length, ¬ cmpR outs[a].1 r < 0)
 (hmr : mayR r = true) (hmo : ∀ o ∈ outs, mayR o.1 = true) :
 (∀ hj : a < outs.length, cmpR outs[a].1 r = 0 → IsSum (l.take (i + 1)) (outs.set a (outs[a].1, outs[a].2 + m))) ∧ ((∀ hj : a < outs.length, cmpR outs[a].1 r ≠ 0) → IsSum (l.take (i + 1)) (outs.take a ++ (r, m) :: outs.drop a)) := by
 have htk : l.take (i + 1) = l.take i ++ [(r, m)] := by rw [List.take_add_one, List.getElem?_eq_getElem hi, hr]; rfl
 rw [htk]
 refine ⟨fun hj h0 => ?_, fun h0 => ?_⟩
 ·have e0 := (cmpR_zero (hmo _ (List.getElem_mem hj)) hmr).1 h0
  have es : outs = outs.take a ++ (r, outs[a].2) :: outs.drop (a + 1) := by
   conv => lhs; rw [← List.take_append_drop a outs, List.drop_eq_getElem_cons hj]
   rw [← e0]
  have e2 : outs.set a (outs[a].1, outs[a].2 + m) = outs.take a ++ (r, outs[a].2 + m) :: outs.drop (a + 1) := by
   rw [List.set_eq_take_append_cons_drop, if_pos hj, e0]
  rw [e2]
  rw [es] at h
  exact h.add
 ·rw [← List.take_append_drop a outs] at h
  refine h.ins (fun x hx => ?_) fun y hy => ?_
  ·obtain ⟨j, hj, rfl⟩ := List.getElem_of_mem hx
   rw [List.length_take] at hj
   rw [List.getElem_take]
   exact hlt j (by omega) (by omega)
  ·have haj : a < outs.length := by
    rcases Nat.lt_or_ge a outs.length with h1 | h1
    ·exact h1
    ·rw [List.drop_of_length_le h1] at hy; cases hy
   have h1 := hge haj
   have h2 := h0 haj
   have h3 := Lin.row.anti outs[a].1 r trivial trivial
   have h4 : cmpR r outs[a].1 < 0 := by omega
   rw [List.drop_eq_getElem_cons haj] at hy
   rcases List.mem_cons.1 hy with rfl | hy
   ·exact h4
   ·have hp := (List.pairwise_append.1 h.rise).2.1
    rw [List.drop_eq_getElem_cons haj] at hp
    have h5 := (List.pairwise_cons.1 hp).1 y hy
    exact (Lin.row.tr _ _ _ trivial trivial trivial (by omega) (by omega)).2 (.inl h4)
end
end Sx
end

noncomputable section
set_option linter.unusedVariables false
set_option linter.unusedSimpArgs false
set_option maxRecDepth 10000
namespace Sx
open Go Go.Proofs
section
variable {C : Ctx} {H A : Heap}
theorem filt_ok {s : Sl} {l : List En} {K : Sl → Int → Heap → Prop} (hs : EnL A s l) (hA : A.le H) (hn : l.length ≤ 1000000) (kover : l.any (fun e => outE e.2) = true → ∀ H0, H.le H0 → K Sl.nil 80 H0)
 (kok : l.any (fun e => outE e.2) = false → ∀ r H0, H.le H0 → EnL H0 r (l.filter fun o => !(o.2 == 0)) → K r 0 H0) :
 lp (α := Sl × Int) (Sl.nil, 0) H (fun x131 J132 H133 =>
  ift (decide ((x131.2 : Int) < (Sl.len s : Int)))
  (jn (α := Sl) (fun x136 H137 =>
  J132 (x136, (w .i64 (x131.2 + 1))) H137)
  (fun J135 => ixa s x131.2 fun p139 =>
  ldI H133 .i64 ((p139.1, p139.2 + (x131.2 : Int).toNat * 2).1, (p139.1, p139.2 + (x131.2 : Int).toNat * 2).2 + 1) fun x144 =>
  jn (α := Bool) (fun b146 H157 =>
  ift b146
  (K Sl.nil 80 H157)
  (ixa s x131.2 fun p159 =>
  ldI H157 .i64 ((p159.1, p159.2 + (x131.2 : Int).toNat * 2).1, (p159.1, p159.2 + (x131.2 : Int).toNat * 2).2 + 1) fun x164 =>
  ift ((x164 : Int) != 0)
  (ixa s x131.2 fun p167 =>
  ldT H157 T_zset_Entry.c (p167.1, p167.2 + (x131.2 : Int).toNat * 2) fun x172 =>
  apd (T_zset_Entry.c T_zset_Entry.zero) 32 x131.1 ((T_zset_Entry.c x172) ++ []) 1 (fun r174 H175 =>
  J135 r174 H175) H157)
  (J135 x131.1 H157)))
  (fun J147 => ift (decide ((x144 : Int) < (-2147483647)))
  (J147 true H133)
  (ixa s x131.2 fun p150 =>
  ldI H133 .i64 ((p150.1, p150.2 + (x131.2 : Int).toNat * 2).1, (p150.1, p150.2 + (x131.2 : Int).toNat * 2).2 + 1) fun x155 =>
  J147 (decide ((x155 : Int) > 2147483647)) H133))))
  (K x131.1 0 H133)) := by
 rw [hs.len]
 refine ⟨fun x D => ∃ (i : Nat) (ys : List T_zset_Entry), x.2 = (i : Int) ∧ i ≤ l.length ∧ (l.take i).any (fun e => outE e.2) = false ∧ OwnF H D 2 x.1 (ys.flatMap T_zset_Entry.c) ∧ ys.length = ((l.take i).filter fun o => !(o.2 == 0)).length ∧ ∀ (j : Nat) (e : En) (y : T_zset_Entry), ((l.take i).filter fun o => !(o.2 == 0))[j]? = some e → ys[j]? = some y → EnIs A e y, fun x _ => l.length - x.2.toNat, ⟨0, [], rfl, Nat.zero_le _, rfl, OwnF.nil H 2, rfl, fun j e y _ hy => by simp at hy⟩, ?_⟩
 rintro ⟨c, _⟩ D ⟨i, ys, rfl, hi, hno, hO, hyl, hy⟩
 have hAD := hA.trans hO.le
 refine ift.of (fun h => ?_) (fun h => ?_)
 ·have hlt : i < l.length := by have : (i : Int) < l.length := of_decide_eq_true h; omega
  have htk : l.take (i + 1) = l.take i ++ [l[i]] := by rw [List.take_add_one, List.getElem?_eq_getElem hlt]; rfl
  refine ⟨fun c' D' => ∃ ys' : List T_zset_Entry, (l.take (i + 1)).any (fun e => outE e.2) = false ∧ OwnF H D' 2 c' (ys'.flatMap T_zset_Entry.c) ∧ ys'.length = ((l.take (i + 1)).filter fun o => !(o.2 == 0)).length ∧ ∀ (j : Nat) (e : En) (y : T_zset_Entry), ((l.take (i + 1)).filter fun o => !(o.2 == 0))[j]? = some e → ys'[j]? = some y → EnIs A e y, ?_, ?_⟩
  ·refine SlIs.fI hs hAD (z := 2) (fun _ => rfl) (by omega) rfl hlt (j := 1) (f := fun y => y.N) (fun _ => rfl) fun y1 hy1 => ?_
   refine jb (P := outE l[i].2 = true) D ?_ fun b hb2 => ?_
   ·refine ift.of (fun h2 => ⟨rfl, ?_⟩) (fun h2 => SlIs.fI hs hAD (z := 2) (fun _ => rfl) (by omega) rfl hlt (j := 1) (f := fun y => y.N) (fun _ => rfl) fun y2 hy2 => ⟨rfl, ?_⟩)
    ·rw [hy1.2.2.2.1] at h2
     unfold outE; rw [h2]; simp
    ·rw [hy1.2.2.2.1] at h2
     rw [hy2.2.2.2.1]
     unfold outE; rw [h2]; simp
   refine ift.of (fun h2 => kover (List.any_eq_true.2 ⟨l[i], List.getElem_mem hlt, hb2.1 h2⟩) _ hO.le) (fun h2 => ?_)
   have h3 : outE l[i].2 = false := by
    cases ho : outE l[i].2 with
    | false => rfl
    | true => rw [hb2.2 ho] at h2; cases h2
   have hno' : (l.take (i + 1)).any (fun e => outE e.2) = false := by rw [htk, List.any_append, hno]; simp [h3]
   refine SlIs.fI hs hAD (z := 2) (fun _ => rfl) (by omega) rfl hlt (j := 1) (f := fun y => y.N) (fun _ => rfl) fun y3 hy3 => ?_
   rw [hy3.2.2.2.1]
   have hcl : c.len = ys.length := by have h1 : (ys.flatMap T_zset_Entry.c).length = c.len * 2 := hO.own.1; rw [ysE_len] at h1; omega
   have hyn : ys.length ≤ l.length := by
    rw [hyl]
    have := List.length_filter_le (fun o : En => !(o.2 == 0)) (l.take i)
    rw [List.length_take] at this; omega
   refine ift.of (fun hz => ?_) (fun hz => ?_)
   ·have hz0 : (l[i].2 == 0) = false := by simpa using hz
    have e2 : ([l[i]].filter fun o : En => !(o.2 == 0)) = [l[i]] := by simp [hz0]
    refine hs.ld hAD (z := 2) (fun _ => rfl) (by omega) rfl hlt fun x hx => ?_
    refine apd_ownF (ys := T_zset_Entry.c x) (m := 1) hO rfl (by show (c.len + 1) * 32 ≤ _; omega) (by show c.len + 1 ≤ _; omega) fun r' H30 hO2 hlen2 => ?_
    refine ⟨ys ++ [x], hno', ?_, ?_, fun j e y he hj => ?_⟩
    ·have this : OwnF H H30 2 r' (ys.flatMap T_zset_Entry.c ++ T_zset_Entry.c x) := hO2
     rw [List.flatMap_append]
     simpa using this
    ·rw [htk, List.filter_append, e2, List.length_append, List.length_append, hyl]; rfl
    ·rw [htk, List.filter_append, e2] at he
     by_cases hj' : j < ys.length
     ·rw [List.getElem?_append_left hj'] at hj
      rw [List.getElem?_append_left (by rw [← hyl]; exact hj')] at he
      exact hy j e y he hj
     ·have hjl := (List.getElem?_eq_some_iff.1 hj).1
      rw [List.length_append, List.length_singleton] at hjl
      have hje : j = ys.length := by omega
      subst hje
      rw [List.getElem?_append_right (Nat.le_refl _), Nat.sub_self] at hj
      rw [List.getElem?_append_right (by rw [hyl]; exact Nat.le_refl _), hyl, Nat.sub_self] at he
      simp only [List.getElem?_cons_zero, Option.some.injEq] at hj he
      subst hj; subst he
      exact hx
   ·have hz0 : (l[i].2 == 0) = true := by simpa using hz
    have e2 : ([l[i]].filter fun o : En => !(o.2 == 0)) = [] := by simp [hz0]
    refine ⟨ys, hno', hO, ?_, ?_⟩
    ·rw [htk, List.filter_append, e2, List.append_nil]; exact hyl
    ·rw [htk, List.filter_append, e2, List.append_nil]; exact hy
  rintro c' D' ⟨ys', k1, k2, k3, k4⟩
  rw [w_i64 (by dsimp only; omega) (by dsimp only; omega)]
  exact ⟨⟨i + 1, ys', rfl, by omega, k1, k2, k3, k4⟩, by first | omega | (dsimp only; omega)⟩
 ·have hie : i = l.length := by have : ¬ (i : Int) < l.length := of_decide_eq_false h; omega
  subst hie
  rw [List.take_length] at hno hyl hy
  have hcl : c.len = ys.length := by have h1 : (ys.flatMap T_zset_Entry.c).length = c.len * 2 := hO.own.1; rw [ysE_len] at h1; omega
  have hfl := List.length_filter_le (fun o : En => !(o.2 == 0)) l
  exact kok hno _ _ hO.le ⟨ys, hO.own.rdsl, hcl, hyl.symm, by omega, fun j e y he hj => (hy j e y he hj).le hAD⟩
end
end Sx
end

noncomputable section
set_option linter.unusedVariables false
set_option linter.unusedSimpArgs false
set_option maxRecDepth 10000
namespace Sx
open Go Go.Proofs
theorem put_id {H : Heap} {g : Nat} {c : List Value} (h : H g = some (true, .row c)) : H.put g (.row c) = H := by
 funext b
 by_cases hb : b = g
 ·subst hb; rw [Heap.put_same, h]
 ·rw [Heap.put_ne _ _ _ hb]
theorem splice_noE {c : List Value} {o : Nat} : splice c o [] = c := by unfold splice; simp
section
variable {C : Ctx} {H A : Heap}
theorem ins_walk {s0 s : Sl} {l outs : List En} {ys : List T_zset_Entry} {i a : Nat} {D : Heap} {J8 : Sl → Heap → Prop} (hs : EnL A s0 l) (hA : A.le H) (hg : OgE H D outs s ys) (hi : i < l.length) (ha : a ≤ outs.length) (hn : outs.length ≤ 1000000) (hl : l.length ≤ 1000000) (hsz : ∀ x ∈ l, vsizes x.1 ≤ 1000000)
 (k : ∀ r ys' D', OgE H D' (outs.take a ++ (l[i].1, l[i].2) :: outs.drop a) r ys' → J8 r D') :
 apd (T_zset_Entry.c T_zset_Entry.zero) 32 s ((T_zset_Entry.c (⟨Sl.nil, 0⟩ : T_zset_Entry)) ++ []) 1 (fun r87 H88 =>
  dr H88 fun Hs89 =>
  slL r87 (w .i64 ((a : Int) + 1)) (Sl.len r87 : Int) (Sl.cap r87 : Int) 2 fun t91 =>
  slL r87 (a : Int) (Sl.len r87 : Int) (Sl.cap r87 : Int) 2 fun t97 =>
  cpy 2 t91 t97 (fun r104 H105 =>
  Heap.le Hs89 H105 ∧
  dr H105 fun Hs106 =>
  ixa s0 (i : Int) fun p108 =>
  ldL Hs106 ((p108.1, p108.2 + (i : Int).toNat * 2).1, (p108.1, p108.2 + (i : Int).toNat * 2).2 + 0) fun x113 =>
  ixa s0 (i : Int) fun p115 =>
  ldI Hs106 .i64 ((p115.1, p115.2 + (i : Int).toNat * 2).1, (p115.1, p115.2 + (i : Int).toNat * 2).2 + 1) fun x120 =>
  c_ref02_Own C x113 (fun r123 H124 =>
  Heap.le Hs106 H124 ∧
  ixa r87 (a : Int) fun p125 =>
  stT (p125.1, p125.2 + (a : Int).toNat * 2) (T_zset_Entry.c (⟨r123, x120⟩ : T_zset_Entry)) (fun H130 =>
  J8 r87 H130) H124) H105) H88) D := by
 have hsl := hg.slen
 have hyl := hg.len
 refine apd_ownF (ys := T_zset_Entry.c (⟨Sl.nil, 0⟩ : T_zset_Entry)) (m := 1) (hg.own.own.off) rfl (by show (s.len + 1) * 32 ≤ _; omega) (by show s.len + 1 ≤ _; omega) fun r H88 hO hlen => ?_
 have hO : OwnF (D.off s) H88 2 r (ys.flatMap T_zset_Entry.c ++ T_zset_Entry.c (⟨Sl.nil, 0⟩ : T_zset_Entry)) := hO
 have hoff : H.le (D.off s) := Heap.le_off hg.own.le hg.own.fresh
 obtain ⟨q1, q2, q3, q4⟩ := hO.own
 obtain ⟨g, sp, hp, hgc, hcap⟩ : ∃ g sp, r.p = some (g, 0) ∧ H88 g = some (true, .row (ys.flatMap T_zset_Entry.c ++ T_zset_Entry.c (⟨Sl.nil, 0⟩ : T_zset_Entry) ++ sp)) ∧ r.cap * 2 ≤ (ys.flatMap T_zset_Entry.c ++ T_zset_Entry.c (⟨Sl.nil, 0⟩ : T_zset_Entry) ++ sp).length := by
  rcases q4 with ⟨_, c0⟩ | ⟨b, sp, h1, h2, h3⟩
  ·omega
  ·exact ⟨b, sp, h1, h2, h3⟩
 have hHg : H g = none := hO.fresh.le hoff _ hp
 have hH88 := hoff.trans hO.le
 have hrl : r.len = outs.length + 1 := by omega
 have hcl : (ys.flatMap T_zset_Entry.c).length = outs.length * 2 := by rw [ysE_len, hyl]
 refine ⟨H88.off r, Heap.off_le r H88, ?_⟩
 rw [w_i64 (by omega) (by omega)]
 refine ⟨by omega, by omega, by omega, by omega, _, rfl, by omega, by omega, by omega, by omega, _, rfl, ?_⟩
 have fin : (H88.off r).le (H88.put g (.row (splice (ys.flatMap T_zset_Entry.c ++ T_zset_Entry.c (⟨Sl.nil, 0⟩ : T_zset_Entry) ++ sp) ((a + 1) * 2) ((ys.flatMap T_zset_Entry.c).drop (a * 2))))) ∧
  dr (H88.put g (.row (splice (ys.flatMap T_zset_Entry.c ++ T_zset_Entry.c (⟨Sl.nil, 0⟩ : T_zset_Entry) ++ sp) ((a + 1) * 2) ((ys.flatMap T_zset_Entry.c).drop (a * 2))))) fun Hs106 =>
  ixa s0 (i : Int) fun p108 =>
  ldL Hs106 ((p108.1, p108.2 + (i : Int).toNat * 2).1, (p108.1, p108.2 + (i : Int).toNat * 2).2 + 0) fun x113 =>
  ixa s0 (i : Int) fun p115 =>
  ldI Hs106 .i64 ((p115.1, p115.2 + (i : Int).toNat * 2).1, (p115.1, p115.2 + (i : Int).toNat * 2).2 + 1) fun x120 =>
  c_ref02_Own C x113 (fun r123 H124 =>
  Heap.le Hs106 H124 ∧
  ixa r (a : Int) fun p125 =>
  stT (p125.1, p125.2 + (a : Int).toNat * 2) (T_zset_Entry.c (⟨r123, x120⟩ : T_zset_Entry)) (fun H130 =>
  J8 r H130) H124) (H88.put g (.row (splice (ys.flatMap T_zset_Entry.c ++ T_zset_Entry.c (⟨Sl.nil, 0⟩ : T_zset_Entry) ++ sp) ((a + 1) * 2) ((ys.flatMap T_zset_Entry.c).drop (a * 2))))) := by
  have lo : (H88.off r).le (H88.put g (.row (splice (ys.flatMap T_zset_Entry.c ++ T_zset_Entry.c (⟨Sl.nil, 0⟩ : T_zset_Entry) ++ sp) ((a + 1) * 2) ((ys.flatMap T_zset_Entry.c).drop (a * 2))))) := le_put_off (Heap.off_le r H88) (Heap.off_fresh r H88 _ hp)
  have hH105 := le_put_off (g := .row (splice (ys.flatMap T_zset_Entry.c ++ T_zset_Entry.c (⟨Sl.nil, 0⟩ : T_zset_Entry) ++ sp) ((a + 1) * 2) ((ys.flatMap T_zset_Entry.c).drop (a * 2)))) hH88 hHg
  have hA105 := hA.trans hH105
  refine ⟨lo, _, Heap.le.refl _, SlIs.fL hs hA105 (z := 2) (fun _ => rfl) (by omega) rfl hi (j := 0) (f := fun y => y.Row) (fun _ => rfl) fun y1 hy1 => SlIs.fI hs hA105 (z := 2) (fun _ => rfl) (by omega) rfl hi (j := 1) (f := fun y => y.N) (fun _ => rfl) fun y2 hy2 => ?_⟩
  rw [hy2.2.2.2.1]
  refine Own_ok hy1.1 hA105 (hsz _ (List.getElem_mem hi)) fun t2 H124 hm => ⟨hm.le, (g, 0), hp, q2, by omega, by omega, ?_⟩
  have h124 := hm.le _ _ (Heap.put_same ..)
  refine ⟨_, h124, ?_, ?_⟩
  ·show 0 + (a : Int).toNat * 2 + 2 ≤ _
   unfold splice
   rw [List.length_append, List.length_append, List.length_take, List.length_append, List.length_append, List.length_drop, hcl, show (T_zset_Entry.c (⟨Sl.nil, 0⟩ : T_zset_Entry)).length = 2 from rfl]
   omega
  ·have hins := OgE.insert (n := l[i].2) hg ha hO hp hgc hcap hm
   have e0 : (0 : Nat) + (a : Int).toNat * 2 = a * 2 := by omega
   show J8 r (H124.put g (.row (splice _ (0 + (a : Int).toNat * 2) _)))
   rw [e0]
   exact k _ _ _ hins
 rcases Nat.lt_or_ge a outs.length with hlt | hge
 ·have m1 : ¬ ((Sl.cap r : Int) = (a : Int) + 1) := by omega
  have m2 : ¬ ((Sl.cap r : Int) = (a : Int)) := by omega
  refine ⟨(ys.flatMap T_zset_Entry.c).drop (a * 2), .inr ⟨?_, (g, 0 + (a : Int).toNat * 2), ?_, ?_⟩, ?_, fun u hu => cE_one u (List.mem_of_mem_drop hu), .inr ⟨(g, 0 + ((a : Int) + 1).toNat * 2), _, ?_, ?_, hgc, ?_, ?_⟩⟩
  ·dsimp only; rw [q2]; split <;> rfl
  ·dsimp only; rw [if_neg m2, hp]; rfl
  ·refine rds_row hgc fun j v hj => ?_
   rw [List.getElem?_drop] at hj
   have e0 : (0 : Nat) + (a : Int).toNat * 2 + j = a * 2 + j := by omega
   rw [e0, List.append_assoc, List.getElem?_append_left (List.getElem?_eq_some_iff.1 hj).1]; exact hj
  ·rw [List.length_drop, hcl]
   show _ = Nat.min ((Sl.len r : Int) - (a : Int)).toNat ((Sl.len r : Int) - ((a : Int) + 1)).toNat * 2
   have : Nat.min ((Sl.len r : Int) - (a : Int)).toNat ((Sl.len r : Int) - ((a : Int) + 1)).toNat = outs.length - a := by
    rw [show Nat.min ((Sl.len r : Int) - (a : Int)).toNat ((Sl.len r : Int) - ((a : Int) + 1)).toNat = min ((Sl.len r : Int) - (a : Int)).toNat ((Sl.len r : Int) - ((a : Int) + 1)).toNat from rfl]
    omega
   rw [this]; omega
  ·dsimp only; rw [if_neg m1, hp]; rfl
  ·dsimp only; rw [q2]; split <;> rfl
  ·show 0 + ((a : Int) + 1).toNat * 2 + _ ≤ _
   rw [List.length_drop, List.length_append, List.length_append, hcl, show (T_zset_Entry.c (⟨Sl.nil, 0⟩ : T_zset_Entry)).length = 2 from rfl]
   omega
  ·have e1 : (0 : Nat) + ((a : Int) + 1).toNat * 2 = (a + 1) * 2 := by omega
   rw [show ((g, 0 + ((a : Int) + 1).toNat * 2) : Nat × Nat).2 = (a + 1) * 2 from e1]
   exact fin
 ·have hd : (ys.flatMap T_zset_Entry.c).drop (a * 2) = [] := List.drop_of_length_le (by rw [hcl]; omega)
  rw [hd, splice_noE, put_id hgc] at fin
  refine ⟨[], .inl rfl, ?_, fun u hu => (by cases hu), .inl ⟨rfl, fin⟩⟩
  show 0 = Nat.min ((Sl.len r : Int) - (a : Int)).toNat ((Sl.len r : Int) - ((a : Int) + 1)).toNat * 2
  have : Nat.min ((Sl.len r : Int) - (a : Int)).toNat ((Sl.len r : Int) - ((a : Int) + 1)).toNat = 0 := by
   rw [show Nat.min ((Sl.len r : Int) - (a : Int)).toNat ((Sl.len r : Int) - ((a : Int) + 1)).toNat = min ((Sl.len r : Int) - (a : Int)).toNat ((Sl.len r : Int) - ((a : Int) + 1)).toNat from rfl]
   omega
  rw [this]
end
end Sx
end

noncomputable section
set_option linter.unusedVariables false
set_option linter.unusedSimpArgs false
set_option maxRecDepth 10000
namespace Sx
open Go Go.Proofs
section
variable {C : Ctx} {H A : Heap}
theorem dClean_ok {s : Sl} {l : List En} {K : Sl → Int → Heap → Prop} (hs : EnL A s l) (hA : A.le H) (hn : l.length ≤ 1000000) (hsz : ∀ x ∈ l, vsizes x.1 ≤ 1000000)
 (kerr : chkE l ≠ 0 → K Sl.nil (chkE l) H)
 (kover : chkE l = 0 → ∀ out, IsSum l out → out.any (fun e => outE e.2) = true → ∀ H0, H.le H0 → K Sl.nil 80 H0)
 (kok : chkE l = 0 → ∀ out, IsSum l out → out.length ≤ l.length → out.any (fun e => outE e.2) = false → ∀ r H0, H.le H0 → EnL H0 r (out.filter fun o => !(o.2 == 0)) → K r 0 H0) : c_ref16_Clean C s K H := by
 apply ad_ref16_Clean
 unfold sh_ref16_Clean
 refine dCheck_ok hs hA hsz ?_
 refine ift.of (fun h => kerr (by simpa using h)) (fun h => ?_)
 have hc : chkE l = 0 := by simpa using h
 have hmay : ∀ e ∈ l, mayR e.1 = true := fun e he => by
  cases hm : mayR e.1 with
  | true => rfl
  | false =>
   unfold chkE at hc
   rw [if_pos (List.any_eq_true.2 ⟨e, he, by rw [hm]; rfl⟩)] at hc; cases hc
 have hno : ∀ e ∈ l, -2147483647 ≤ e.2 ∧ e.2 ≤ 2147483647 := fun e he => by
  have ho : outE e.2 = false := by
   cases ho : outE e.2 with
   | false => rfl
   | true =>
    unfold chkE at hc
    split at hc
    ·cases hc
    ·rw [if_pos (List.any_eq_true.2 ⟨e, he, ho⟩)] at hc; cases hc
  unfold outE at ho
  have h1 : ¬ e.2 < -2147483647 := fun h => by rw [decide_eq_true h] at ho; cases ho
  have h2 : ¬ e.2 > 2147483647 := fun h => by rw [decide_eq_true h, Bool.or_true] at ho; cases ho
  omega
 have hbl : ∀ e ∈ l, VBs e.1 ∧ e.1.length ≤ 140737488355328 := fun e he => by
  obtain ⟨xs, x1, x2, x3, x4, x5⟩ := hs
  obtain ⟨j, hj, rfl⟩ := List.getElem_of_mem he
  have := x5 j _ _ (List.getElem?_eq_getElem hj) (List.getElem?_eq_getElem (by omega))
  exact ⟨this.2.1, this.2.2.1⟩
 refine ⟨fun x D => ∃ (i : Nat) (outs : List En), x.2 = (i : Int) ∧ i ≤ l.length ∧ DC H l i outs x.1 D, fun x _ => l.length - x.2.toNat, ⟨0, [], rfl, Nat.zero_le _, ⟨[], OgE.nil⟩, by simpa using IsSum.nil, Nat.zero_le _⟩, ?_⟩
 rintro ⟨s1, _⟩ D ⟨i, outs, rfl, hi, hd⟩
 rw [hs.len]
 have hfew := hd.few
 obtain ⟨ys, hg⟩ := hd.og
 have hok := hd.ok hn hbl hno
 have hEn : EnL D s1 outs := hg.en (fun e he => (hok e he).1) (by omega)
 have hAD := hA.trans hg.own.le
 have hfrom : ∀ o ∈ outs, ∃ e ∈ l, e.1 = o.1 := fun o ho => by
  obtain ⟨⟨e, he, heo⟩, _⟩ := mem_sum hd.sum ho
  exact ⟨e, List.mem_of_mem_take he, heo⟩
 refine ift.of (fun h => ?_) (fun h => ?_)
 ·have hlt : i < l.length := by have : (i : Int) < l.length := of_decide_eq_true h; omega
  refine ⟨fun s' D' => ∃ outs', DC H l (i + 1) outs' s' D', ?_, ?_⟩
  ·have hvl : ∀ v ∈ l[i].1, vsize v ≤ 4611686018427387904 := fun v hv => by have h1 := vsize_mem hv; have h2 := hsz _ (List.getElem_mem hlt); omega
   have hvo : ∀ o ∈ outs, ∀ v ∈ o.1, vsize v ≤ 4611686018427387904 := fun o ho v hv => by
    obtain ⟨e, he, heo⟩ := hfrom o ho
    have h1 := vsize_mem hv; have h2 := hsz e he; rw [heo] at h2; omega
   refine ⟨fun x D' => D' = D ∧ ∃ a : Nat, x = (a : Int) ∧ a ≤ outs.length ∧ ∀ j, (hj : j < outs.length) → j < a → cmpR outs[j].1 l[i].1 < 0, fun x _ => outs.length - x.toNat, ⟨rfl, 0, rfl, Nat.zero_le _, fun j hj h => by omega⟩, ?_⟩
   rintro _ D' ⟨rfl, a, rfl, ha, hq⟩
   refine jb (P := ∃ h : a < outs.length, cmpR outs[a].1 l[i].1 < 0) D' ?_ fun b hb => ?_
   ·refine ⟨D', Heap.le.refl _, ?_⟩
    rw [hEn.len]
    refine ift.of (fun h => ?_) (fun h => ⟨rfl, fun e => (nomatch e), fun ⟨e, _⟩ => absurd e (by have : ¬ (a : Int) < outs.length := of_decide_eq_false h; omega)⟩)
    have hal : a < outs.length := by have : (a : Int) < outs.length := of_decide_eq_true h; omega
    refine SlIs.fL hEn (Heap.le.refl _) (z := 2) (fun _ => rfl) (by omega) rfl hal (j := 0) (f := fun y => y.Row) (fun _ => rfl) fun y1 hy1 => SlIs.fL hs hAD (z := 2) (fun _ => rfl) (by omega) rfl hlt (j := 0) (f := fun y => y.Row) (fun _ => rfl) fun y2 hy2 => ?_
    refine ref02_CmpRows_ok hy1.1 (hy2.1.le hAD) hy1.2.2.1 hy2.2.2.1 hy1.2.1 hy2.2.1 (hvo _ (List.getElem_mem hal)) hvl ⟨Heap.le.refl _, rfl, ?_⟩
    rw [decide_eq_true_iff]
    exact ⟨fun e => ⟨hal, e⟩, fun ⟨_, e⟩ => e⟩
   refine ift.of (fun h => ?_) (fun h => ?_)
   ·obtain ⟨hal, h1⟩ := hb.1 h
    rw [w_i64 (by omega) (by omega)]
    refine ⟨⟨rfl, a + 1, by omega, by omega, fun j hj hja => ?_⟩, by first | omega | (dsimp only; omega)⟩
    by_cases he : j = a
    ·subst he; exact h1
    ·exact hq j hj (by omega)
   have hge : ∀ hj : a < outs.length, ¬ cmpR outs[a].1 l[i].1 < 0 := fun hj h1 => by rw [hb.2 ⟨hj, h1⟩] at h; cases h
   have hins := insert_at (r := l[i].1) (m := l[i].2) hd.sum hlt rfl ha hq hge (hmay _ (List.getElem_mem hlt)) fun o ho => by obtain ⟨e, he, heo⟩ := hfrom o ho; rw [← heo]; exact hmay e he
   refine jb (P := ∃ h : a < outs.length, cmpR outs[a].1 l[i].1 = 0) D' ?_ fun b2 hb2 => ?_
   ·refine ⟨D', Heap.le.refl _, ?_⟩
    rw [hEn.len]
    refine ift.of (fun h => ?_) (fun h => ⟨rfl, fun e => (nomatch e), fun ⟨e, _⟩ => absurd e (by have : ¬ (a : Int) < outs.length := of_decide_eq_false h; omega)⟩)
    have hal : a < outs.length := by have : (a : Int) < outs.length := of_decide_eq_true h; omega
    refine SlIs.fL hEn (Heap.le.refl _) (z := 2) (fun _ => rfl) (by omega) rfl hal (j := 0) (f := fun y => y.Row) (fun _ => rfl) fun y1 hy1 => SlIs.fL hs hAD (z := 2) (fun _ => rfl) (by omega) rfl hlt (j := 0) (f := fun y => y.Row) (fun _ => rfl) fun y2 hy2 => ?_
    refine ref02_CmpRows_ok hy1.1 (hy2.1.le hAD) hy1.2.2.1 hy2.2.2.1 hy1.2.1 hy2.2.1 (hvo _ (List.getElem_mem hal)) hvl ⟨Heap.le.refl _, rfl, ?_⟩
    rw [beq_iff_eq]
    exact ⟨fun e => ⟨hal, e⟩, fun ⟨_, e⟩ => e⟩
   refine ift.of (fun h2 => ?_) (fun h2 => ?_)
   ·obtain ⟨hal, h0⟩ := hb2.1 h2
    obtain ⟨q1, q2, q3, q4⟩ := hg.own.own
    have hsl := hg.slen
    obtain ⟨g, sp, hp, hgc⟩ : ∃ g sp, s1.p = some (g, 0) ∧ D' g = some (true, .row (ys.flatMap T_zset_Entry.c ++ sp)) := by
     rcases q4 with ⟨_, c0⟩ | ⟨b, sp, h1, h2, h3⟩
     ·omega
     ·exact ⟨b, sp, h1, h2⟩
    refine ⟨D', Heap.le.refl _, SlIs.fI hEn (Heap.le.refl _) (z := 2) (fun _ => rfl) (by omega) rfl hal (j := 1) (f := fun y => y.N) (fun _ => rfl) fun y1 hy1 => SlIs.fI hs hAD (z := 2) (fun _ => rfl) (by omega) rfl hlt (j := 1) (f := fun y => y.N) (fun _ => rfl) fun y2 hy2 => ⟨(g, 0), hp, q2, by omega, by omega, _, hgc, ?_, ?_⟩⟩
    ·show 0 + (a : Int).toNat * 2 + 1 < _
     rw [List.length_append, ysE_len, hg.len]; omega
    ·rw [hy1.2.2.2.1, hy2.2.2.2.1]
     have hb1 := (hok _ (List.getElem_mem hal)).2
     have hb2' := hno _ (List.getElem_mem hlt)
     rw [w_i64 (by omega) (by omega)]
     have hset := hg.setN (n := outs[a].2 + l[i].2) hal hp hgc
     have e0 : (0 : Nat) + (a : Int).toNat * 2 + 1 = a * 2 + 1 := by omega
     show ∃ outs', DC H l (i + 1) outs' s1 (D'.put g (.row ((ys.flatMap T_zset_Entry.c ++ sp).set (0 + (a : Int).toNat * 2 + 1) (.int .i64 (outs[a].2 + l[i].2)))))
     rw [e0]
     exact ⟨_, ⟨_, hset⟩, hins.1 hal h0, by rw [List.length_set]; omega⟩
   ·refine ins_walk hs hA hg hlt ha (by omega) hn hsz fun r ys' D2 ho => ⟨_, ⟨_, ho⟩, hins.2 fun hj h0 => (by rw [hb2.2 ⟨hj, h0⟩] at h2; cases h2), ?_⟩
    rw [List.length_append, List.length_cons, List.length_take, List.length_drop]; omega
  rintro s' D' ⟨outs', hd'⟩
  rw [w_i64 (by dsimp only; omega) (by dsimp only; omega)]
  exact ⟨⟨i + 1, outs', rfl, by omega, hd'⟩, by first | omega | (dsimp only; omega)⟩
 ·have hie : i = l.length := by have : ¬ (i : Int) < l.length := of_decide_eq_false h; omega
  have hsum := hd.sum
  rw [hie, List.take_length] at hsum
  exact filt_ok hEn (Heap.le.refl _) (by omega) (fun h H0 hH => kover hc outs hsum h H0 (hg.own.le.trans hH)) fun h r H0 hH he => kok hc outs hsum (by omega) h r H0 (hg.own.le.trans hH) he
end
end Sx
end

noncomputable section
set_option linter.unusedVariables false
set_option linter.unusedSimpArgs false
set_option maxRecDepth 10000
namespace Sx
open Go Go.Proofs
def nzE (o : List En) : List En := o.filter fun o => !(o.2 == 0)
structure ResP (l : List En) (e : Int) (out : List En) : Prop where
 err : chkE l ≠ 0 → e = chkE l ∧ out = []
 over : chkE l = 0 → ∀ o, IsSum l o → o.any (fun e => outE e.2) = true → e = 80 ∧ out = []
 ok : chkE l = 0 → ∀ o, IsSum l o → o.any (fun e => outE e.2) = false → e = 0 ∧ out = nzE o
def ResD (l : List En) (e : Int) (out : List En) : Prop := (chkE l ≠ 0 ∧ e = chkE l ∧ out = []) ∨ (chkE l = 0 ∧ ∃ o, IsSum l o ∧ ((o.any (fun e => outE e.2) = true ∧ e = 80 ∧ out = []) ∨ (o.any (fun e => outE e.2) = false ∧ e = 0 ∧ out = nzE o)))
theorem ResP.eq {l : List En} {e f : Int} {a b : List En} (h1 : ResP l e a) (h2 : ResD l f b) : e = f ∧ a = b := by
 rcases h2 with ⟨c, h3, h4⟩ | ⟨c, o, ho, ⟨q, h3, h4⟩ | ⟨q, h3, h4⟩⟩
 ·obtain ⟨g1, g2⟩ := h1.err c; exact ⟨by rw [g1, h3], by rw [g2, h4]⟩
 ·obtain ⟨g1, g2⟩ := h1.over c o ho q; exact ⟨by rw [g1, h3], by rw [g2, h4]⟩
 ·obtain ⟨g1, g2⟩ := h1.ok c o ho q; exact ⟨by rw [g1, h3], by rw [g2, h4]⟩
theorem out_do {b : Bool} {n : Int} (h0 : -9223372036854775808 ≤ n) (h1 : n < 9223372036854775808) : outE (doE b n) = outE n := by
 cases b with
 | false => rfl
 | true =>
  show outE (w .i64 (0 - n)) = outE n
  by_cases hm : n = -9223372036854775808
  ·subst hm; rfl
  ·rw [w_i64 (by omega) (by omega)]
   unfold outE
   rw [Bool.eq_iff_iff]
   simp only [Bool.or_eq_true, decide_eq_true_iff]
   omega
theorem sumsK_of {S : List (En × Bool)} {H : Heap} {K : Sl → Int → Heap → Prop} (hr : ∀ x ∈ S, -9223372036854775808 ≤ x.1.2 ∧ x.1.2 < 9223372036854775808) (k : ∀ e out cs ys H0, ResP (esS S) e out → OgE H H0 out cs ys → K cs e H0) : SumsK S H K := by
 have nil : ∀ H0, H.le H0 → OgE H H0 [] Sl.nil [] := fun H0 hH => OgE.nil.up hH
 have hmem : ∀ e ∈ esS S, ∃ x ∈ S, e = (x.1.1, doE x.2 x.1.2) := fun e he => by
  obtain ⟨x, hx, rfl⟩ := List.mem_map.1 he; exact ⟨x, hx, rfl⟩
 have hma : (∀ x ∈ S, mayR x.1.1 = true) → (esS S).any (fun e => !(mayR e.1)) = false := fun h => by
  rw [List.any_eq_false]; intro e he
  obtain ⟨x, hx, rfl⟩ := hmem e he
  rw [h x hx]; simp
 have hou : (esS S).any (fun e => outE e.2) = S.any fun x => outE x.1.2 := by
  unfold esS
  rw [List.any_map]
  rw [Bool.eq_iff_iff, List.any_eq_true, List.any_eq_true]
  constructor
  ·rintro ⟨x, hx, h⟩; exact ⟨x, hx, by rw [← out_do (b := x.2) (hr x hx).1 (hr x hx).2]; exact h⟩
  ·rintro ⟨x, hx, h⟩; exact ⟨x, hx, by show outE (doE x.2 x.1.2) = true; rw [out_do (hr x hx).1 (hr x hx).2]; exact h⟩
 have c0 : (∀ x ∈ S, mayR x.1.1 = true) → S.any (fun x => outE x.1.2) = false → chkE (esS S) = 0 := fun h1 h2 => by
  unfold chkE; rw [hma h1, hou, h2]; simp
 refine ⟨fun h H0 hH => k 4 [] _ _ H0 ?_ (nil H0 hH), fun h h2 H0 hH => k 80 [] _ _ H0 ?_ (nil H0 hH), fun h h2 h3 H0 hH => k 80 [] _ _ H0 ?_ (nil H0 hH), fun h h2 out cs ys H0 g1 g2 g3 => k 0 (nzE out) cs ys H0 ?_ g3⟩
 ·have : chkE (esS S) = 4 := by
   obtain ⟨x, hx, h⟩ := List.any_eq_true.1 h
   have hin : (x.1.1, doE x.2 x.1.2) ∈ esS S := List.mem_map.2 ⟨x, hx, rfl⟩
   have hany : (esS S).any (fun e => !(mayR e.1)) = true := List.any_eq_true.2 ⟨_, hin, h⟩
   unfold chkE
   rw [if_pos hany]
  exact ⟨fun _ => ⟨this.symm, rfl⟩, fun c => (by rw [this] at c; cases c), fun c => (by rw [this] at c; cases c)⟩
 ·have : chkE (esS S) = 80 := by unfold chkE; rw [hma h, hou, h2]; simp
  exact ⟨fun _ => ⟨this.symm, rfl⟩, fun c => (by rw [this] at c; cases c), fun c => (by rw [this] at c; cases c)⟩
 ·have c := c0 h h2
  obtain ⟨r, he, ho⟩ := h3
  refine ⟨fun n => absurd c n, fun _ o _ _ => ⟨rfl, rfl⟩, fun _ o hs hn => ?_⟩
  have := (hs.mem r _).2 ⟨he, rfl⟩
  rw [List.any_eq_true.2 ⟨_, this, ho⟩] at hn; cases hn
 ·have c := c0 h h2
  refine ⟨fun n => absurd c n, fun _ o hs hn => ?_, fun _ o hs hn => ⟨rfl, by rw [hs.uniq g1]⟩⟩
  rw [hs.uniq g1, g2] at hn; cases hn
section
variable {C : Ctx} {H A : Heap}
theorem EnL.nil {H : Heap} : EnL H Sl.nil [] := ⟨[], .inl rfl, rfl, rfl, by simp, fun i v x hv => by simp at hv⟩
theorem dCleanR {s : Sl} {l : List En} {K : Sl → Int → Heap → Prop} (hs : EnL A s l) (hA : A.le H) (hn : l.length ≤ 1000000) (hsz : ∀ x ∈ l, vsizes x.1 ≤ 1000000) (k : ∀ e out r H0, ResD l e out → out.length ≤ l.length → H.le H0 → EnL H0 r out → K r e H0) : c_ref16_Clean C s K H :=
 dClean_ok hs hA hn hsz (fun c => k _ _ _ _ (.inl ⟨c, rfl, rfl⟩) (Nat.zero_le _) (Heap.le.refl _) EnL.nil) (fun c o ho h H0 hH => k _ _ _ _ (.inr ⟨c, o, ho, .inl ⟨h, rfl, rfl⟩⟩) (Nat.zero_le _) hH EnL.nil) fun c o ho hf h r H0 hH he => k _ _ _ _ (.inr ⟨c, o, ho, .inr ⟨h, rfl, rfl⟩⟩) (Nat.le_trans (List.length_filter_le ..) hf) hH he
theorem esS2 {la lb : List En} {tb : Bool} : esS (seqS [(la, false), (lb, tb)]) = la ++ lb.map fun e => (e.1, doE tb e.2) := by
 unfold esS seqS
 simp [List.map_append, Function.comp_def, doE]
theorem dAdd_ok {a b : Sl} {la lb : List En} {K : Sl → Int → Heap → Prop} (ha : EnL A a la) (hb : EnL A b lb) (hA : A.le H) (hn : la.length + lb.length ≤ 1000000) (hsz : ∀ x ∈ la ++ lb, vsizes x.1 ≤ 1000000) (k : ∀ e out r H0, ResD (esS (seqS [(la, false), (lb, false)])) e out → out.length ≤ la.length + lb.length → H.le H0 → EnL H0 r out → K r e H0) : c_ref16_Add C a b K H := by
 apply ad_ref16_Add
 unfold sh_ref16_Add
 refine both_ok ha hb hA hn fun r H2 h2 he => ?_
 rw [← esS2] at he
 refine dCleanR he (Heap.le.refl _) (by rw [esS2]; simp; omega) (fun x hx => ?_) fun e out r' H0 g1 gl g2 g3 => k e out r' H0 g1 (by rw [esS2, List.length_append, List.length_map] at gl; exact gl) (h2.trans g2) g3
 rw [esS2] at hx
 rcases List.mem_append.1 hx with hx | hx
 ·exact hsz x (List.mem_append_left _ hx)
 ·obtain ⟨y, hy, rfl⟩ := List.mem_map.1 hx; exact hsz y (List.mem_append_right _ hy)
theorem dLess_ok {a b : Sl} {la lb : List En} {K : Sl → Int → Heap → Prop} (ha : EnL A a la) (hb : EnL A b lb) (hA : A.le H) (hn : la.length + lb.length ≤ 1000000) (hsz : ∀ x ∈ la ++ lb, vsizes x.1 ≤ 1000000) (k : ∀ e out r H0, ResD (esS (seqS [(la, false), (lb, true)])) e out → out.length ≤ la.length + lb.length → H.le H0 → EnL H0 r out → K r e H0) : c_ref16_Less C a b K H := by
 apply ad_ref16_Less
 unfold sh_ref16_Less
 refine both_ok ha hb hA hn fun r H2 h2 he => ?_
 rw [← esS2] at he
 refine dCleanR he (Heap.le.refl _) (by rw [esS2]; simp; omega) (fun x hx => ?_) fun e out r' H0 g1 gl g2 g3 => k e out r' H0 g1 (by rw [esS2, List.length_append, List.length_map] at gl; exact gl) (h2.trans g2) g3
 rw [esS2] at hx
 rcases List.mem_append.1 hx with hx | hx
 ·exact hsz x (List.mem_append_left _ hx)
 ·obtain ⟨y, hy, rfl⟩ := List.mem_map.1 hx; exact hsz y (List.mem_append_right _ hy)
end
end Sx
end

noncomputable section
set_option linter.unusedVariables false
set_option linter.unusedSimpArgs false
set_option maxRecDepth 10000
namespace Sx
open Go Go.Proofs
theorem nz_mem {es out : List En} (h : IsSum es out) (r : List V) (n : Int) : (r, n) ∈ nzE out ↔ n = totE es r ∧ n ≠ 0 := by
 unfold nzE
 rw [List.mem_filter, h.mem]
 constructor
 ·rintro ⟨⟨_, h1⟩, h2⟩
  exact ⟨h1, by simpa using h2⟩
 ·rintro ⟨h1, h2⟩
  refine ⟨⟨?_, h1⟩, by simpa using h2⟩
  exact Classical.byContradiction fun hn => h2 (by rw [h1]; exact totE_none fun e he e' => hn ⟨e, he, e'⟩)
theorem nz_rise {es out : List En} (h : IsSum es out) : (nzE out).Pairwise fun a b => cmpR a.1 b.1 < 0 := h.rise.filter _
/-- entries that may be, whose sums may be -/
structure OkS (es : List En) : Prop where
 may : ∀ e ∈ es, mayR e.1 = true
 n : ∀ e ∈ es, outE e.2 = false
 tot : ∀ r, outE (totE es r) = false
theorem sumsK_ok {S : List (En × Bool)} {H : Heap} {K : Sl → Int → Heap → Prop} (hr : ∀ x ∈ S, -9223372036854775808 ≤ x.1.2 ∧ x.1.2 < 9223372036854775808) (h : OkS (esS S))
 (k : ∀ out cs ys H0, IsSum (esS S) out → OgE H H0 (nzE out) cs ys → K cs 0 H0) : SumsK S H K := by
 have hin : ∀ x ∈ S, (x.1.1, doE x.2 x.1.2) ∈ esS S := fun x hx => List.mem_map.2 ⟨x, hx, rfl⟩
 refine ⟨fun hb H0 _ => ?_, fun _ hb H0 _ => ?_, fun _ _ hb H0 _ => ?_, fun _ _ out cs ys H0 g1 _ g3 => k out cs ys H0 g1 g3⟩
 ·obtain ⟨x, hx, h1⟩ := List.any_eq_true.1 hb
  rw [h.may _ (hin x hx)] at h1; cases h1
 ·obtain ⟨x, hx, h1⟩ := List.any_eq_true.1 hb
  have := h.n _ (hin x hx)
  rw [show outE (doE x.2 x.1.2) = outE x.1.2 from out_do (hr x hx).1 (hr x hx).2] at this
  rw [this] at h1; cases h1
 ·obtain ⟨r, _, h1⟩ := hb
  rw [h.tot r] at h1; cases h1
theorem OkS.of {l m : List En} (h : OkS m) (ht : ∀ r, totE l r = totE m r) (hm : ∀ e ∈ l, mayR e.1 = true) (hn : ∀ e ∈ l, outE e.2 = false) : OkS l := ⟨hm, hn, fun r => by rw [ht r]; exact h.tot r⟩
theorem len_sub {α : Type} : ∀ {a b : List α}, a.Pairwise (fun x y => x ≠ y) → (∀ x ∈ a, x ∈ b) → a.length ≤ b.length
 | [], b, _, _ => Nat.zero_le _
 | x :: a, b, hp, hs => by
  have hp' := List.pairwise_cons.1 hp
  obtain ⟨b1, b2, rfl⟩ := List.append_of_mem (hs x (List.mem_cons_self ..))
  have := len_sub (b := b1 ++ b2) hp'.2 fun y hy => by
   have h1 := hs y (List.mem_cons_of_mem _ hy)
   rcases List.mem_append.1 h1 with h1 | h1
   ·exact List.mem_append_left _ h1
   ·rcases List.mem_cons.1 h1 with h1 | h1
    ·exact absurd h1.symm (hp'.1 y hy)
    ·exact List.mem_append_right _ h1
  simp only [List.length_append, List.length_cons] at this ⊢
  omega
theorem sum_len {es out : List En} (h : IsSum es out) : out.length ≤ es.length := by
 have := len_sub (a := out.map fun e => e.1) (b := es.map fun e => e.1) (by
  rw [List.pairwise_map]
  exact h.rise.imp fun {a b} hab e => by rw [e] at hab; exact lt_irr hab) fun r hr => by
   obtain ⟨e, he, rfl⟩ := List.mem_map.1 hr
   obtain ⟨⟨x, hx, hxr⟩, _⟩ := (h.mem e.1 e.2).1 he
   exact List.mem_map.2 ⟨x, hx, hxr⟩
 simpa using this
theorem nz_len {es out : List En} (h : IsSum es out) : (nzE out).length ≤ es.length := Nat.le_trans (List.length_filter_le ..) (sum_len h)
theorem esA {la lb : List En} : esS (seqS [(la, false), (lb, false)]) = la ++ lb := by
 rw [esS2]
 have : (lb.map fun e : En => (e.1, doE false e.2)) = lb := by
  rw [show (fun e : En => (e.1, doE false e.2)) = id from rfl, List.map_id]
 rw [this]
theorem esC {la : List En} : esS (seqS [(la, false)]) = la := by
 have : esS (seqS [(la, false)]) = la.map fun e : En => (e.1, doE false e.2) := by
  unfold esS seqS
  simp [Function.comp_def]
 rw [this, show (fun e : En => (e.1, doE false e.2)) = id from rfl, List.map_id]
end Sx
end

noncomputable section
set_option linter.unusedVariables false
set_option linter.unusedSimpArgs false
set_option maxRecDepth 10000
namespace Sx
open Go Go.Proofs
section
variable {C : Ctx} {H A : Heap}
theorem EnL.oks {s : Sl} {l : List En} (hs : EnL A s l) : ∀ e ∈ l, Sx.okE e := fun e he => by
 obtain ⟨xs, x1, x2, x3, x4, x5⟩ := hs
 obtain ⟨j, hj, rfl⟩ := List.getElem_of_mem he
 have := x5 j _ _ (List.getElem?_eq_getElem hj) (List.getElem?_eq_getElem (by omega))
 exact ⟨this.2.1, this.2.2.1, this.2.2.2.2⟩
theorem parts1 {a : Sl} {la : List En} {c : Nat} {m : Bool} {cap : Nat} (ha : EnL H a la) (h : H c = some (m, .row (T_zset_part.c (⟨a, fnv false⟩ : T_zset_part) ++ []))) :
 SlIs (PtIs H) T_zset_part.c H (Sl.of (some (c, 0)) 1 cap) [(la, false)] := by
 refine ⟨[(⟨a, fnv false⟩ : T_zset_part)], .inr ⟨rfl, _, rfl, rds_row h fun j v hj => by simpa using hj⟩, rfl, rfl, by simp, fun i v x hv hx => ?_⟩
 match i with
 | 0 => simp at hv hx; subst hv; subst hx; exact ⟨ha, rfl⟩
 | i + 1 => simp at hv
theorem pClean_ok {a : Sl} {la : List En} {K : Sl → Int → Heap → Prop} (ha : EnL H a la) (hn : la.length ≤ 1000000) (hsz : ∀ x ∈ la, vsizes x.1 ≤ 1000000) (k : SumsK (seqS [(la, false)]) H K) : c_zset_Clean C a K H := by
 apply ad_zset_Clean
 unfold sh_zset_Clean
 intro b1 n1
 have hle := Heap.le_put n1 (g := .row (T_zset_part.c (⟨a, fnv false⟩ : T_zset_part) ++ [])) (m := true)
 exact sums_ok (parts1 (ha.le hle) (Heap.put_same ..)) (by simp [seqS]; omega) (fun x hx => by
  simp [seqS] at hx
  obtain ⟨r, n, h, rfl⟩ := hx
  exact hsz (r, n) h) (k.up hle)
theorem pAddS {a b : Sl} {la lb : List En} {K : Sl → Int → Heap → Prop} (ha : EnL H a la) (hb : EnL H b lb) (hn : la.length + lb.length ≤ 1000000) (hsz : ∀ x ∈ la ++ lb, vsizes x.1 ≤ 1000000) (ho : OkS (la ++ lb))
 (k : ∀ out cs ys H0, IsSum (la ++ lb) out → OgE H H0 (nzE out) cs ys → K cs 0 H0) : c_zset_Add C a b K H := by
 refine pAdd_ok ha hb hn hsz (sumsK_ok (fun x hx => ?_) (by rw [esA]; exact ho) fun out cs ys H0 h1 h2 => k out cs ys H0 (by rw [esA] at h1; exact h1) h2)
 simp [seqS] at hx
 rcases hx with ⟨r, n, h, rfl⟩ | ⟨r, n, h, rfl⟩
 ·exact (ha.oks _ h).2.2
 ·exact (hb.oks _ h).2.2
theorem pCleanS {a : Sl} {la : List En} {K : Sl → Int → Heap → Prop} (ha : EnL H a la) (hn : la.length ≤ 1000000) (hsz : ∀ x ∈ la, vsizes x.1 ≤ 1000000) (ho : OkS la)
 (k : ∀ out cs ys H0, IsSum la out → OgE H H0 (nzE out) cs ys → K cs 0 H0) : c_zset_Clean C a K H := by
 refine pClean_ok ha hn hsz (sumsK_ok (fun x hx => ?_) (by rw [esC]; exact ho) fun out cs ys H0 h1 h2 => k out cs ys H0 (by rw [esC] at h1; exact h1) h2)
 simp [seqS] at hx
 obtain ⟨r, n, h, rfl⟩ := hx
 exact (ha.oks _ h).2.2
end
end Sx
end

noncomputable section
set_option linter.unusedVariables false
set_option linter.unusedSimpArgs false
set_option maxRecDepth 10000
namespace Sx
open Go Go.Proofs
section
variable {C : Ctx} {H A : Heap}
theorem eL {g : Nat} {s : Sl} {m : Bool} {zs : List T_zset_Entry} {sp : List Value} (hp : s.p = some (g, 0)) (hx : s.x = none) (hl : s.len = zs.length) (hn : zs.length ≤ 1000000) (hg : H g = some (m, .row (zs.flatMap T_zset_Entry.c ++ sp))) :
 SlIs (fun a b => b = a) T_zset_Entry.c H s zs :=
 ⟨zs, .inr ⟨hx, _, hp, rds_row hg fun j v hj => by rw [Nat.zero_add]; exact (List.getElem?_append_left (List.getElem?_eq_some_iff.1 hj).1).trans hj⟩, hl, rfl, by omega, fun i v x hv hx => by rw [hv] at hx; injection hx with hx; exact hx.symm⟩
theorem ysE_splice {zs : List T_zset_Entry} {sp : List Value} {i : Nat} {y : T_zset_Entry} (hi : i < zs.length) : splice (zs.flatMap T_zset_Entry.c ++ sp) (i * 2) (T_zset_Entry.c y) = (zs.set i y).flatMap T_zset_Entry.c ++ sp := by
 have hf := ysE_len zs
 unfold splice
 rw [List.take_append_of_le_length (by omega), ysE_take, show (T_zset_Entry.c y).length = 2 from rfl, show i * 2 + 2 = (i + 1) * 2 by omega, List.drop_append_of_le_length (by omega), ysE_drop, List.set_eq_take_append_cons_drop, if_pos hi]
 simp
theorem indexE_ok {xs : List T_zset_Entry} {s : Sl} {f : Value} {φ : T_zset_Entry → Bool} {K : Int → Heap → Prop} (hs : SlIs (fun a b => b = a) T_zset_Entry.c H s xs)
 (hf : ∀ x ∈ xs, ∀ Φ : Value → Heap → Prop, Φ (.bool (φ x)) H → callU Tryz.prog C f [.agg (T_zset_Entry.c x).toArray] H Φ)
 (k0 : xs.all (fun x => !(φ x)) = true → K (-1) H) (k1 : ∀ (i : Nat) (h : i < xs.length), φ xs[i] = true → (xs.take i).all (fun x => !(φ x)) = true → K i H) : c_slices_IndexFunc_zset_Entry_zset_Entry C s f K H := by
 apply ad_slices_IndexFunc_zset_Entry_zset_Entry
 unfold sh_slices_IndexFunc_zset_Entry_zset_Entry
 have hb := hs.bd
 rw [hs.len]
 refine ⟨fun x D => D = H ∧ ∃ i : Nat, x = (i : Int) ∧ i ≤ xs.length ∧ (xs.take i).all (fun x => !(φ x)) = true, fun x _ => xs.length - x.toNat, ⟨rfl, 0, rfl, Nat.zero_le _, by simp⟩, ?_⟩
 rintro _ D ⟨rfl, i, rfl, hi, hq⟩
 refine ift.of (fun h => ?_) (fun h => ?_)
 ·have hlt : i < xs.length := by have := of_decide_eq_true h; omega
  refine hs.ld (Heap.le.refl _) (fun _ => rfl) (by omega) rfl hlt fun y hy => ?_
  subst hy
  refine hf _ (List.getElem_mem hlt) _ ⟨_, rfl, ?_⟩
  refine ift.of (fun h2 => k1 i hlt h2 hq) (fun h2 => ?_)
  rw [w_i64 (by omega) (by omega)]
  refine ⟨⟨rfl, i + 1, by omega, by omega, ?_⟩, by first | omega | (dsimp only; omega)⟩
  rw [List.take_add_one, List.getElem?_eq_getElem hlt, List.all_append, hq]
  simp [h2]
 ·have hie : i = xs.length := by have := of_decide_eq_false h; omega
  rw [hie, List.take_length] at hq
  exact k0 hq
theorem filter_keep {α : Type} {p : α → Bool} {l : List α} {j : Nat} (hj : j < l.length) : (l.take (j + 1)).filter p = (l.take j).filter p ++ if p l[j] then [l[j]] else [] := by
 rw [List.take_add_one, List.getElem?_eq_getElem hj, List.filter_append]
 simp [List.filter_cons]
theorem deleteE_ok {Bo : Heap} {g : Nat} {s : Sl} {ys : List T_zset_Entry} {sp : List Value} {f : Value} {φ : T_zset_Entry → Bool} {K : Sl → Heap → Prop} (hp : s.p = some (g, 0)) (hx : s.x = none) (hl : s.len = ys.length) (hc : s.len ≤ s.cap)
 (hn : ys.length ≤ 1000000) (hB : Bo g = none) (hf : ∀ (E : Heap) (x : T_zset_Entry), x ∈ ys → Bo.le E → ∀ Φ : Value → Heap → Prop, Φ (.bool (φ x)) E → callU Tryz.prog C f [.agg (T_zset_Entry.c x).toArray] E Φ)
 (k : ∀ (E : Heap) (sp2 : List Value), Bo.le E → ((ys.filter fun x => !(φ x)).flatMap T_zset_Entry.c ++ sp2).length = (ys.flatMap T_zset_Entry.c ++ sp).length →
  K ⟨some (g, 0), (ys.filter fun x => !(φ x)).length, s.cap, none⟩ (E.put g (.row ((ys.filter fun x => !(φ x)).flatMap T_zset_Entry.c ++ sp2)))) :
 c_slices_DeleteFunc_zset_Entry_zset_Entry C s f K (Bo.put g (.row (ys.flatMap T_zset_Entry.c ++ sp))) := by
 have hse : s = ⟨some (g, 0), ys.length, s.cap, none⟩ := by
  obtain ⟨p, l, c, x⟩ := s
  simp only at hp hx hl
  subst hp; subst hx; subst hl; rfl
 apply ad_slices_DeleteFunc_zset_Entry_zset_Entry
 unfold sh_slices_DeleteFunc_zset_Entry_zset_Entry
 have hgg : (Bo.put g (.row (ys.flatMap T_zset_Entry.c ++ sp))) g = some (true, .row (ys.flatMap T_zset_Entry.c ++ sp)) := Heap.put_same ..
 refine indexE_ok (eL hp hx hl hn hgg) (fun x hx Φ h => hf _ x hx (le_put_off (Heap.le.refl _) hB) Φ h) (fun h => ?_) (fun i0 hi0 h1 h2 => ?_)
 ·refine ift_pos rfl ?_
  have e : (ys.filter fun x => !(φ x)) = ys := List.filter_eq_self.2 fun a ha => List.all_eq_true.1 h a ha
  have := k Bo sp (Heap.le.refl _) (by rw [e])
  rw [e, ← hse] at this
  exact this
 refine ift_neg (by simp) ?_
 rw [w_i64 (x := (i0 : Int) + 1) (by omega) (by omega), hl]
 refine ⟨fun x D => ∃ (E : Heap) (zs : List T_zset_Entry) (i j : Nat), x = ((i : Int), (j : Int)) ∧ D = E.put g (.row (zs.flatMap T_zset_Entry.c ++ sp)) ∧ Bo.le E ∧ zs.length = ys.length ∧ i < j ∧ j ≤ ys.length ∧ zs.take i = (ys.take j).filter (fun x => !(φ x)) ∧ zs.drop j = ys.drop j,
  fun x _ => ys.length - x.2.toNat, ⟨Bo, ys, i0, i0 + 1, rfl, rfl, Heap.le.refl _, rfl, by omega, by omega, ?_, rfl⟩, ?_⟩
 ·rw [filter_keep hi0, h1, List.filter_eq_self.2 fun a ha => List.all_eq_true.1 h2 a ha]
  simp
 rintro _ D ⟨E, zs, i, j, rfl, rfl, hE, hz, hij, hj, ht, hd⟩
 have hD : (E.put g (.row (zs.flatMap T_zset_Entry.c ++ sp))) g = some (true, .row (zs.flatMap T_zset_Entry.c ++ sp)) := Heap.put_same ..
 have hf2 := ysE_len zs
 refine ift.of (fun h => ?_) (fun h => ?_)
 ·have hlt : j < ys.length := by have := of_decide_eq_true h; dsimp only at this; omega
  have hzj : zs[j]'(by omega) = ys[j] := by
   have := congrArg (fun l => l[0]?) hd
   simp only [List.getElem?_drop, Nat.add_zero] at this
   rw [List.getElem?_eq_getElem (by omega), List.getElem?_eq_getElem hlt] at this
   injection this
  have hsl := eL hp hx (by rw [hl, hz]) (by omega) hD
  have w1 : w .i64 ((j : Int) + 1) = ((j + 1 : Nat) : Int) := by rw [w_i64 (by omega) (by omega)]; omega
  have w2 : w .i64 ((i : Int) + 1) = ((i + 1 : Nat) : Int) := by rw [w_i64 (by omega) (by omega)]; omega
  have hdj : zs.drop (j + 1) = ys.drop (j + 1) := by
   have := congrArg (List.drop 1) hd
   simpa [List.drop_drop] using this
  refine ⟨fun x9 D' => ∃ (E' : Heap) (zs' : List T_zset_Entry) (i' : Nat), x9 = (i' : Int) ∧ D' = E'.put g (.row (zs'.flatMap T_zset_Entry.c ++ sp)) ∧ Bo.le E' ∧ zs'.length = ys.length ∧ i' < j + 1 ∧ zs'.take i' = (ys.take (j + 1)).filter (fun x => !(φ x)) ∧ zs'.drop (j + 1) = ys.drop (j + 1), ?_, ?_⟩
  ·refine hsl.ld (Heap.le.refl _) (fun _ => rfl) (by omega) rfl (by omega) fun y hy => ?_
   subst hy
   rw [hzj]
   intro b nb
   refine nwT rfl ?_
   have hbg : b ≠ g := fun e => by subst e; rw [hD] at nb; cases nb
   have hEb : E b = none := by rw [Heap.put_ne _ _ _ hbg] at nb; exact nb
   rw [Heap.put_comm _ _ _ _ _ hbg.symm]
   have hE' : Bo.le (E.put b (.row (T_zset_Entry.c ys[j]))) := hE.trans (Heap.le_put hEb)
   have hb2 : ((E.put b (.row (T_zset_Entry.c ys[j]))).put g (.row (zs.flatMap T_zset_Entry.c ++ sp))) b = some (true, .row (T_zset_Entry.c ys[j])) := by rw [Heap.put_ne _ _ _ hbg, Heap.put_same]
   generalize E.put b (.row (T_zset_Entry.c ys[j])) = E2 at *
   refine bxT hb2 ?_
   refine hf _ _ (List.getElem_mem hlt) (le_put_off hE' hB) _ ⟨_, rfl, ?_⟩
   refine ift.of (fun h3 => ?_) (fun h3 => ?_)
   ·refine bxT hb2 ?_
    refine ⟨(g, 0), hp, hx, by omega, by omega, ?_⟩
    refine ⟨_, Heap.put_same .., ?_, ?_⟩
    ·show 0 + (i : Int).toNat * 2 + 2 ≤ _
     rw [List.length_append, hf2]; omega
    show ∃ E' zs' i', _
    refine ⟨E2, zs.set i ys[j], i + 1, w2, ?_, hE', by simp [hz], by omega, ?_, ?_⟩
    ·rw [Heap.put_put]
     have e0 : (g, 0).2 + ((i : Int)).toNat * 2 = i * 2 := by show 0 + _ = _; omega
     rw [e0, ysE_splice (by omega)]
    ·rw [filter_keep hlt, if_pos h3, ← ht, List.take_add_one, List.getElem?_set_self (by omega), List.take_set_of_le (by omega)]
     rfl
    ·rw [List.drop_set_of_lt (by omega)]; exact hdj
   ·have h4 : φ ys[j] = true := by simpa using h3
    refine ⟨E2, zs, i, rfl, rfl, hE', hz, by omega, ?_, hdj⟩
    rw [filter_keep hlt, if_neg (by simp [h4]), List.append_nil]; exact ht
  ·rintro x9 D' ⟨E', zs', i', rfl, rfl, q1, q2, q3, q4, q5⟩
   rw [w1]
   exact ⟨⟨E', zs', i', j + 1, rfl, rfl, q1, q2, q3, by omega, q4, q5⟩, by first | omega | (dsimp only; omega)⟩
 ·have hje : j = ys.length := by have := of_decide_eq_false h; dsimp only at this; omega
  subst hje
  rw [List.take_length] at ht
  have hfl : (ys.filter fun x => !(φ x)).length = i := by rw [← ht, List.length_take]; omega
  have hne : ¬ ((s.cap : Int) = (i : Int)) := by omega
  refine ⟨by omega, by omega, by omega, by omega, _, rfl, ?_⟩
  rw [if_neg hne, hp]
  have hx0 : (if (s.cap : Int) = (i : Int) ∨ (i : Int).toNat * 2 = 0 then s.x else none) = none := by rw [hx]; split <;> rfl
  rw [hx0]
  refine .inr ⟨(g, 0 + (i : Int).toNat * 2), _, rfl, rfl, Heap.put_same .., ?_, ?_⟩
  ·show 0 + (i : Int).toNat * 2 + ((ys.length : Int) - (i : Int)).toNat * 2 ≤ _
   rw [List.length_append, hf2]; omega
  rw [Heap.put_put]
  refine ⟨by omega, by omega, by omega, by omega, _, rfl, ?_⟩
  have hne2 : ¬ ((s.cap : Int) = 0) := by omega
  rw [if_neg hne2, hp]
  have hx1 : (if (s.cap : Int) = 0 ∨ (0 : Int).toNat * 2 = 0 then s.x else none) = none := by rw [hx]; split <;> rfl
  rw [hx1]
  have e1 : ((g, 0).1, (g, 0).2 + (0 : Int).toNat * 2) = (g, 0) := rfl
  simp only [Option.map_some, e1]
  have hZl : (zeros (T_zset_Entry.c T_zset_Entry.zero) (⟨some ((g, 0).1, (g, 0).2 + (i : Int).toNat * 2), ((ys.length : Int) - (i : Int)).toNat, ((s.cap : Int) - (i : Int)).toNat, none⟩ : Sl).len).length = (ys.length - i) * 2 := by
   rw [zeros_length]
   show ((ys.length : Int) - (i : Int)).toNat * 2 = _
   omega
  generalize zeros (T_zset_Entry.c T_zset_Entry.zero) (⟨some ((g, 0).1, (g, 0).2 + (i : Int).toNat * 2), ((ys.length : Int) - (i : Int)).toNat, ((s.cap : Int) - (i : Int)).toNat, none⟩ : Sl).len = Z at *
  have hs2 : splice (zs.flatMap T_zset_Entry.c ++ sp) (g, 0 + (i : Int).toNat * 2).2 Z = (ys.filter fun x => !(φ x)).flatMap T_zset_Entry.c ++ (Z ++ (zs.flatMap T_zset_Entry.c ++ sp).drop ((g, 0 + (i : Int).toNat * 2).2 + Z.length)) := by
   have e0 : (g, 0 + (i : Int).toNat * 2).2 = i * 2 := by show 0 + _ = _; omega
   unfold splice
   rw [e0, List.take_append_of_le_length (by omega), ysE_take, ht, List.append_assoc]
  have hl2 : (splice (zs.flatMap T_zset_Entry.c ++ sp) (g, 0 + (i : Int).toNat * 2).2 Z).length = (zs.flatMap T_zset_Entry.c ++ sp).length := splice_length (by
   show 0 + (i : Int).toNat * 2 + Z.length ≤ _
   rw [hZl, List.length_append, hf2]; omega)
  rw [hs2] at hl2 ⊢
  have e3 : ((i : Int) - 0).toNat = (ys.filter fun x => !(φ x)).length := by omega
  have e4 : ((s.cap : Int) - 0).toNat = s.cap := by omega
  rw [e3, e4]
  exact k E _ hE (by rw [hl2, List.length_append, List.length_append, hf2, ysE_len, hz])
theorem distinct1_ok {x : T_zset_Entry} {K : Bool → Heap → Prop} (k : K (decide (x.N < 0)) H) : c_zset_Distinct_1 C x K H := by
 apply c_zset_Distinct_1.gh
 apply ad_zset_Distinct_1
 unfold sh_zset_Distinct_1
 intro b1 n1
 exact fI (Heap.put_same ..) rfl ⟨H, Gh.le (Heap.le_put n1), k⟩
def keepE (l : List En) : List En := l.filter fun e => !(decide (e.2 < 0))
def posE (l : List En) : List En := (keepE l).map fun e => (e.1, 1)
theorem filter_two {α β : Type} {p : α → Bool} {q : β → Bool} : ∀ {al : List α} {bs : List β}, al.length = bs.length → (∀ (j : Nat) (a : α) (b : β), al[j]? = some a → bs[j]? = some b → p a = q b) →
 (al.filter p).length = (bs.filter q).length ∧ ∀ (j : Nat) (a : α) (b : β), (al.filter p)[j]? = some a → (bs.filter q)[j]? = some b → ∃ i : Nat, al[i]? = some a ∧ bs[i]? = some b
 | [], [], _, _ => ⟨rfl, fun j a b h => by simp at h⟩
 | a :: al, b :: bs, hl, h => by
  obtain ⟨h1, h2⟩ := filter_two (p := p) (q := q) (al := al) (bs := bs) (by simpa using hl) fun j x y hx hy => h (j + 1) x y (by simpa using hx) (by simpa using hy)
  have h0 := h 0 a b rfl rfl
  simp only [List.filter_cons, h0]
  cases hq : q b with
  | true =>
   simp only [if_true, List.length_cons, h1, true_and]
   intro j x y hx hy
   cases j with
   | zero => simp at hx hy; exact ⟨0, by simp [hx], by simp [hy]⟩
   | succ j =>
    obtain ⟨i, q1, q2⟩ := h2 j x y (by simpa using hx) (by simpa using hy)
    exact ⟨i + 1, by simpa using q1, by simpa using q2⟩
  | false =>
   simp only [Bool.false_eq_true, if_false, h1, true_and]
   intro j x y hx hy
   obtain ⟨i, q1, q2⟩ := h2 j x y hx hy
   exact ⟨i + 1, by simpa using q1, by simpa using q2⟩
theorem delOg {B : Heap} {es : List En} {s : Sl} {ys : List T_zset_Entry} {K : Sl → Heap → Prop} (h : OgE H B es s ys) (hn : es.length ≤ 1000000) (k : ∀ r zs D, OgE H D (keepE es) r zs → K r D) :
 c_slices_DeleteFunc_zset_Entry_zset_Entry C s (.func (.func 37) (List.toArray []) (List.toArray []) : Value) K B := by
 obtain ⟨hle, ⟨q1, q2, q3, q4⟩, hf⟩ := h.own
 have hsl := h.slen
 have hlen := h.len
 have e2 : ∀ x : T_zset_Entry, (!(decide (x.N < 0))) = !(decide (x.N < 0)) := fun _ => rfl
 rcases q4 with ⟨p0, c0⟩ | ⟨g, sp, hp, hb, hcl⟩
 ·have h0 : es = [] := List.length_eq_zero_iff.1 (by omega)
  subst h0
  have hy0 : ys = [] := List.length_eq_zero_iff.1 (by rw [hlen]; rfl)
  subst hy0
  apply ad_slices_DeleteFunc_zset_Entry_zset_Entry
  unfold sh_slices_DeleteFunc_zset_Entry_zset_Entry
  refine indexE_ok (xs := []) (φ := fun _ => false) ⟨[], .inl rfl, hsl, rfl, by simp, fun i v x hv => by simp at hv⟩ (fun x hx => by simp at hx) (fun _ => ift_pos rfl (k s [] B h)) (fun i hi => by simp at hi)
 have hB0 : (B.off s) g = none := Heap.off_fresh s B _ hp
 have heq : B = (B.off s).put g (.row (ys.flatMap T_zset_Entry.c ++ sp)) := by
  funext x
  by_cases hx : x = g
  ·subst hx; rw [Heap.put_same]; exact hb
  ·rw [Heap.put_ne _ _ _ hx]
   unfold Heap.off
   rw [if_neg (by rw [hp]; simpa using fun e : g = x => hx e.symm)]
 rw [heq]
 have hHo : H.le (B.off s) := Heap.le_off hle hf
 refine deleteE_ok (φ := fun x => decide (x.N < 0)) hp q2 (by rw [hsl, hlen]) q3 (by omega) hB0 (fun E x _ _ Φ hΦ => cu ok_zset_Distinct_1 (Spec.mono (distinct1_ok (C := C) (x := x) (H := E) (K := fun r H2 => Φ (.bool r) H2) hΦ) fun v H2 ⟨r, hv, hr⟩ => by rw [hv]; exact hr)) (fun E sp2 hE hl2 => ?_)
 obtain ⟨f1, f2⟩ := filter_two (p := fun e : En => !(decide (e.2 < 0))) (q := fun x : T_zset_Entry => !(decide (x.N < 0))) (al := es) (bs := ys) hlen.symm fun j a b ha hb => by rw [(h.done j a b ha hb).2]
 refine k _ (ys.filter fun x => !(decide (x.N < 0))) _ ⟨⟨le_put_off (hHo.trans hE) (hf _ hp), ⟨?_, rfl, ?_, .inr ⟨g, sp2, rfl, Heap.put_same .., ?_⟩⟩, fun p hp' => by injection hp' with hp'; subst hp'; exact hf _ hp⟩, f1.symm, fun j e y he hy => ?_⟩
 ·rw [ysE_len]
 ·show (ys.filter _).length ≤ s.cap
  have := List.length_filter_le (fun x : T_zset_Entry => !(decide (x.N < 0))) ys
  omega
 ·rw [hl2]; exact hcl
 ·rw [off_put (x := 0) rfl]
  obtain ⟨i, i1, i2⟩ := f2 j e y he hy
  obtain ⟨m1, m2⟩ := h.done i e y i1 i2
  refine ⟨m1.up fun x e hx => ?_, m2⟩
  have hxg : x ≠ g := fun e' => by subst e'; rw [hB0] at hx; cases hx
  unfold Heap.off
  rw [if_neg (by simpa using fun e : g = x => hxg e.symm)]
  exact hE _ _ hx
end
end Sx
end

noncomputable section
set_option linter.unusedVariables false
set_option linter.unusedSimpArgs false
set_option maxRecDepth 10000
namespace Sx
open Go Go.Proofs
section
variable {C : Ctx} {H A : Heap}
def oneE (l : List En) : List En := l.map fun e => (e.1, 1)
theorem ones_ok {B : Heap} {es : List En} {s : Sl} {ys : List T_zset_Entry} {K : Heap → Prop} (h : OgE H B es s ys) (hn : es.length ≤ 1000000) (k : ∀ zs D, OgE H D (oneE es) s zs → K D) :
 lp (α := Int) 0 B (fun x6 J7 H8 =>
  ift (decide ((x6 : Int) < (Sl.len s : Int)))
   (ixa s x6 fun p10 => st ((p10.1, p10.2 + (x6 : Int).toNat * 2).1, (p10.1, p10.2 + (x6 : Int).toNat * 2).2 + 1) (.int .i64 1) (fun H15 => J7 (w .i64 (x6 + 1)) H15) H8)
   (K H8)) := by
 have hlen := h.len
 refine ⟨fun x D => ∃ (i : Nat) (fs : List En) (zs : List T_zset_Entry), x = (i : Int) ∧ i ≤ es.length ∧ fs.length = es.length ∧ OgE H D fs s zs ∧ (∀ j, (hj : j < es.length) → fs[j]? = some (if j < i then (es[j].1, 1) else es[j])), fun x _ => es.length - x.toNat,
  ⟨0, es, ys, rfl, Nat.zero_le _, rfl, h, fun j hj => by rw [List.getElem?_eq_getElem hj, if_neg (by omega)]⟩, ?_⟩
 rintro _ D ⟨i, fs, zs, rfl, hi, hfl, hg, hq⟩
 have hsl := hg.slen
 rw [hsl, hfl]
 refine ift.of (fun hc => ?_) (fun hc => ?_)
 ·have hlt : i < es.length := by have := of_decide_eq_true hc; omega
  have hif : i < fs.length := by omega
  obtain ⟨hle, ⟨q1, q2, q3, q4⟩, hf⟩ := hg.own
  rcases q4 with ⟨p0, c0⟩ | ⟨g, sp, hp, hb, hcl⟩
  ·omega
  have hzl := hg.len
  refine ⟨(g, 0), hp, q2, by omega, by omega, ?_⟩
  have e0 : ((g, 0).1, (g, 0).2 + ((i : Int)).toNat * 2).2 + 1 = i * 2 + 1 := by show 0 + (i : Int).toNat * 2 + 1 = _; omega
  refine ⟨_, hb, ?_, ?_⟩
  ·show ((g, 0).1, (g, 0).2 + ((i : Int)).toNat * 2).2 + 1 < _
   rw [e0, List.length_append, ysE_len]; omega
  show (∃ i' fs' zs', _) ∧ _
  have e1 : (((g, 0).1, (g, 0).2 + ((i : Int)).toNat * 2).1, ((g, 0).1, (g, 0).2 + ((i : Int)).toNat * 2).2 + 1).2 = i * 2 + 1 := e0
  rw [w_i64 (by omega) (by omega)]
  refine ⟨⟨i + 1, fs.set i (fs[i].1, 1), zs.set i (⟨(zs[i]'(by omega)).Row, 1⟩ : T_zset_Entry), by omega, by omega, by rw [List.length_set, hfl], ?_, fun j hj => ?_⟩, by first | omega | (dsimp only; omega)⟩
  ·have := hg.setN (n := 1) hif hp hb
   rw [e1]
   exact this
  ·have h0 := hq i hlt
   rw [if_neg (Nat.lt_irrefl _), List.getElem?_eq_getElem hif] at h0
   injection h0 with h0
   by_cases hji : j = i
   ·subst hji
    rw [List.getElem?_set_self hif, if_pos (by omega), h0]
   ·rw [List.getElem?_set_ne fun e => hji e.symm, hq j hj]
    by_cases hlt2 : j < i
    ·rw [if_pos hlt2, if_pos (by omega)]
    ·rw [if_neg hlt2, if_neg (by omega)]
 ·have hie : i = es.length := by have := of_decide_eq_false hc; omega
  have e : fs = oneE es := by
   unfold oneE
   refine List.ext_getElem? fun j => ?_
   by_cases hj : j < es.length
   ·rw [hq j hj, if_pos (by omega), List.getElem?_map, List.getElem?_eq_getElem hj]; rfl
   ·rw [List.getElem?_eq_none (by omega), List.getElem?_map, List.getElem?_eq_none (by omega)]; rfl
  rw [e] at hg
  exact k zs D hg
theorem keep_len (l : List En) : (keepE l).length ≤ l.length := List.length_filter_le ..
/-- behind Clean -/
theorem dist_rest {H0 : Heap} {out : List En} {cs : Sl} {ys : List T_zset_Entry} {e : Int} {K : Sl → Int → Heap → Prop} (h : OgE H H0 out cs ys) (hn : out.length ≤ 1000000) (k : ∀ r zs D, OgE H D (posE out) r zs → K r e D) :
 c_slices_DeleteFunc_zset_Entry_zset_Entry C cs (.func (.func 37) (List.toArray []) (List.toArray []) : Value) (fun r4 H5 =>
  lp (α := Int) 0 H5 (fun x6 J7 H8 =>
   ift (decide ((x6 : Int) < (Sl.len r4 : Int)))
    (ixa r4 x6 fun p10 => st ((p10.1, p10.2 + (x6 : Int).toNat * 2).1, (p10.1, p10.2 + (x6 : Int).toNat * 2).2 + 1) (.int .i64 1) (fun H15 => J7 (w .i64 (x6 + 1)) H15) H8)
    (K r4 e H8))) H0 :=
 delOg h hn fun r zs D hd => ones_ok hd (by have := keep_len out; omega) fun zs2 D2 h2 => k r zs2 D2 h2
/-- Distinct of small entries -/
theorem pDistS {a : Sl} {la : List En} {K : Sl → Int → Heap → Prop} (ha : EnL H a la) (hn : la.length ≤ 1000000) (hsz : ∀ x ∈ la, vsizes x.1 ≤ 1000000) (ho : OkS la)
 (k : ∀ out cs ys H0, IsSum la out → OgE H H0 (posE (nzE out)) cs ys → K cs 0 H0) : c_zset_Distinct C a K H := by
 apply ad_zset_Distinct
 unfold sh_zset_Distinct
 exact pCleanS ha hn hsz ho fun out cs ys H0 h1 h2 => dist_rest h2 (by have := nz_len h1; omega) fun r zs D hd => k out r zs D h1 hd
/-- sums of closed lists -/
def riseB : List En → Bool
 | [] => true
 | e :: l => l.all (fun x => decide (cmpR e.1 x.1 < 0)) && riseB l
theorem riseB_ok : ∀ {l : List En}, riseB l = true → l.Pairwise fun a b => cmpR a.1 b.1 < 0
 | [], _ => List.Pairwise.nil
 | e :: l, h => by
  simp only [riseB, Bool.and_eq_true] at h
  exact List.pairwise_cons.2 ⟨fun x hx => of_decide_eq_true (List.all_eq_true.1 h.1 x hx), riseB_ok h.2⟩
def calcB (es l : List En) : Bool := riseB l && l.all (fun e => decide (e.2 = totE es e.1) && decide (e.2 ≠ 0)) && es.all fun e => decide (totE es e.1 = 0) || l.any fun x => sameVs x.1 e.1 && decide (x.2 = totE es e.1)
theorem nz_calc {es o l : List En} (h : IsSum es o) (hc : calcB es l = true) : nzE o = l := by
 unfold calcB at hc
 simp only [Bool.and_eq_true] at hc
 obtain ⟨⟨h1, h2⟩, h3⟩ := hc
 refine rise_ext (nz_rise h) (riseB_ok h1) fun x => ?_
 obtain ⟨r, n⟩ := x
 rw [nz_mem h]
 constructor
 ·rintro ⟨rfl, h0⟩
  have : ∃ e ∈ es, e.1 = r := Classical.byContradiction fun hn => h0 (totE_none fun e he e' => hn ⟨e, he, e'⟩)
  obtain ⟨e, he, rfl⟩ := this
  have := List.all_eq_true.1 h3 e he
  rw [Bool.or_eq_true] at this
  rcases this with this | this
  ·exact absurd (of_decide_eq_true this) h0
  ·obtain ⟨x, hx, hb⟩ := List.any_eq_true.1 this
   rw [Bool.and_eq_true] at hb
   obtain ⟨x1, x2⟩ := x
   have e1 := sameVs_iff.1 hb.1
   have e2 := of_decide_eq_true hb.2
   simp only at e1 e2
   rw [← e1, ← e2] at *
   exact hx
 ·intro hx
  have := List.all_eq_true.1 h2 _ hx
  rw [Bool.and_eq_true] at this
  exact ⟨of_decide_eq_true this.1, of_decide_eq_true this.2⟩
def okB (es : List En) : Bool := es.all fun e => mayR e.1 && !(outE e.2) && !(outE (totE es e.1))
theorem okB_ok {es : List En} (h : okB es = true) : OkS es := by
 unfold okB at h
 have h1 : ∀ e ∈ es, (mayR e.1 = true ∧ outE e.2 = false) ∧ outE (totE es e.1) = false := fun e he => by
  have := List.all_eq_true.1 h e he
  simpa [Bool.and_eq_true] using this
 refine ⟨fun e he => (h1 e he).1.1, fun e he => (h1 e he).1.2, fun r => ?_⟩
 by_cases hr : ∃ e ∈ es, e.1 = r
 ·obtain ⟨e, he, rfl⟩ := hr; exact (h1 e he).2
 ·rw [totE_none fun e he e' => hr ⟨e, he, e'⟩]; rfl
theorem lit_ens {b n cap : Nat} {m : Bool} {es : List En} {xs : List T_zset_Entry} {cs : List Value} (h : H b = some (m, .row cs)) (hc : cs = xs.flatMap T_zset_Entry.c ++ []) (hn : n = xs.length) (hl : es.length = xs.length) (hb : es.length ≤ 140737488355328)
 (hr : ∀ (i : Nat) (v : En) (x : T_zset_Entry), es[i]? = some v → xs[i]? = some x → EnIs H v x) : EnL H (Sl.of (some (b, 0)) n cap) es := by
 subst hc
 exact ⟨xs, .inr ⟨rfl, _, rfl, rds_row h fun j v hj => by simpa using hj⟩, hn, hl, hb, hr⟩
end
end Sx
end

