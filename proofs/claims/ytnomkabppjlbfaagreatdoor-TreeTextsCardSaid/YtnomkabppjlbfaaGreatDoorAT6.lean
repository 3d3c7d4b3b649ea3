/-
  Texts of this family, one behind the other: TreeC3, TreeW1, TreeW2, TreeW3, TreeB, TreeL, TreeS, TreeK, TreeA0, TreeA, TreeP2, TreeT2, TreeT3, TreeT4, TreeT5, TreeT6.
-/
import Derived.Test.YtnomkabppjlbfaaGreatDoorAT5
noncomputable section
set_option linter.unusedVariables false
set_option linter.unusedSimpArgs false
set_option maxRecDepth 10000
namespace Sx
section
open Go Go.Proofs
section
variable {C : Ctx} {H A : Heap}
theorem Qq6 (hT : MaxC C) {v : ExV} {x : Qa} {K : Bool → Heap → Prop} (hx : ExIs A v x) (hA : A.le H) (k : K (exOk true v) H) : Qc6 C x K H := by
 apply Qc6.gh
 apply QmG
 unfold QjC
 exact box1 fun b1 H2 hle h1 => bxT h1 (QrT hT v hx (hA.trans hle) ⟨H, Gh.le hle, k⟩)
theorem QpZ (hT : MaxC C) {v : ExV} {x : Qa} {K : Bool → Heap → Prop} (hx : ExIs A v x) (hA : A.le H) (k : K (exOk false v) H) : Qcb C x K H := by
 apply Qcb.gh
 apply QoZ
 unfold QlY
 exact box1 fun b1 H2 hle h1 => bxT h1 (QrT hT v hx (hA.trans hle) ⟨H, Gh.le hle, k⟩)
theorem Qu6 {l : List ExV} (h : l.length = 1) (h0 : 0 < l.length) (p : Bool) : exsOk p l = exOk p l[0] := by
 match l, h with
 | [w], _ => simp [exsOk]
theorem Qp7 (hT : MaxC C) {l : List ExV} {s : Sl} {K : Bool → Heap → Prop} (hs : ExL A s l) (hA : A.le H) (k : K (exsOk true l) H) : QN C s (.func (.func 152) (List.toArray []) (List.toArray []) : Value) K H := by
 rw [Qgv] at k
 exact QpR hs hA (fun w hw y D Φ hD hR hΦ => cu Qm7 (Qq6 hT hR hD hΦ)) k
theorem QsW (hT : MaxC C) {l : List ExV} {s : Sl} {K : Bool → Heap → Prop} (hs : ExL A s l) (hA : A.le H) (k : K (exsOk false l) H) : QN C s (.func (.func 92) (List.toArray []) (List.toArray []) : Value) K H := by
 rw [Qgv] at k
 exact QpR hs hA (fun w hw y D Φ hD hR hΦ => cu QgX (QpZ hT hR hD hΦ)) k
theorem Qq1 (hT : MaxC C) {v : LiV} {x : Qd} {K : Bool → Heap → Prop} (hx : LiIs A v x) (hA : A.le H) (k : K (liOk v) H) : Qc5 C x K H := by
 obtain ⟨ek, en, hs⟩ := hx
 have hlen := hs.len
 apply Qc5.gh
 apply QmF
 unfold QjB
 refine box1 fun b1 H2 hle h1 => fI h1 rfl ?_
 have hA2 := hA.trans hle
 rw [ek]
 unfold liOk at k
 refine jp (P := v.k = 1 ∨ v.k = 2) H2 (ift.of (fun h => ⟨rfl, fun _ => .inl (by simpa using h), fun _ => h⟩) (fun h => ⟨rfl, fun h => .inr (by simpa using h), fun h' => ?_⟩)) fun b hb => ?_
 ·rcases h' with h' | h'
  ·rw [h'] at h; cases h
  ·rw [h']; rfl
 refine ift.of (fun h => ?_) (fun h => ?_)
 ·rw [if_pos (hb.1 h)] at k
  refine fS h1 rfl (QoE hT en ?_)
  refine ja (decide (v.a.length ≤ 8)) H2 (fun _ => fL h1 rfl ⟨rfl, by rw [hlen]; exact lenL (m := 8)⟩) ?_
  exact ja (exsOk true v.a) H2 (fun _ => fL h1 rfl (Qp7 hT hs hA2 ⟨rfl, rfl⟩)) ⟨H, Gh.le hle, k⟩
 rw [if_neg (fun p => by rw [hb.2 p] at h; cases h)] at k
 have hone : ∀ {b : Bool} {K : Bool → Heap → Prop}, (b && decide (v.a.length = 1)) = true → K (exsOk false v.a) H2 → ldL H2 ((b1, 0).1, (b1, 0).2 + 4) fun x45 => ixa x45 0 fun p47 => ldT H2 Qa.c (p47.1, p47.2 + (0 : Int).toNat * 9) fun x52 => Qcb C x52 K H2 := fun {b} {K} hb hk => by
  simp only [Bool.and_eq_true, decide_eq_true_eq] at hb
  have h0 : 0 < v.a.length := by omega
  rw [Qu6 hb.2 h0] at hk
  exact fL h1 rfl (SlIs.ld hs hA2 Qbw (by omega) (i := 0) rfl h0 fun y hy => QpZ hT hy hA2 hk)
 refine ift.of (fun h => ?_) (fun h => ?_)
 ·rw [if_pos (by simpa using h)] at k
  refine fS h1 rfl ?_
  refine ja (decide (v.a.length = 1)) H2 (fun _ => fL h1 rfl ⟨rfl, by rw [hlen]; exact lenI (m := 1)⟩) ?_
  refine ja (exsOk false v.a) H2 (fun h => hone h ⟨rfl, rfl⟩) ?_
  rw [en.1, Qk3]; exact ⟨H, Gh.le hle, k⟩
 rw [if_neg (by simpa using h)] at k
 refine ift.of (fun h => ?_) (fun h => ?_)
 ·rw [if_pos (by simpa using h)] at k
  refine fS h1 rfl (Qnm en ?_)
  refine ja (decide (v.a.length = 1)) H2 (fun _ => fL h1 rfl ⟨rfl, by rw [hlen]; exact lenI (m := 1)⟩) ?_
  exact ja (exsOk false v.a) H2 (fun h => hone h ⟨rfl, rfl⟩) ⟨H, Gh.le hle, k⟩
 ·rw [if_neg (by simpa using h)] at k
  exact ⟨H, Gh.le hle, k⟩
theorem QmX (hT : MaxC C) {l : List LiV} {s : Sl} {K : Bool → Heap → Prop} (hs : LiL A s l) (hA : A.le H) (k : K (l.all liOk) H) : QS C s (.func (.func 59) (List.toArray []) (List.toArray []) : Value) K H :=
 QqU hs hA (fun w hw y D Φ hD hR hΦ => cu Qm6 (Qq1 hT hR hD hΦ)) k
theorem QqZ (hT : MaxC C) {v : FdV} {x : Qc} {b : Nat} {nm : Bool} {K : Bool → Heap → Prop} (hx : FdIs A v x) (hA : A.le H) (hb : H b = some (true, .row [.bool nm])) (k : K (fdOk nm v) H) : Qct C x (b, 0) K H := by
 apply Qct.gh
 apply Qmb
 unfold QiH
 refine box1 fun b1 H2 hle h1 => fS h1 rfl (QfW hT hx.1 ?_)
 refine jo' (!nm && v.n.isEmpty) H2 (fun _ => fB0 (hle _ _ hb) (ja v.n.isEmpty H2 (fun _ => fS h1 rfl ⟨rfl, by rw [hx.1.1, Qk3]⟩) ⟨rfl, rfl⟩)) ?_
 exact ja (tyOk v.t) H2 (fun _ => fT h1 Qtl (Qtm hT v.t hx.2 (hA.trans hle) ⟨rfl, rfl⟩)) ⟨H, Gh.le hle, k⟩
theorem Qpg (hT : MaxC C) {l : List FdV} {s : Sl} {nm : Bool} {K : Bool → Heap → Prop} (hs : FdL A s l) (hA : A.le H) (k : K (fdsOk nm l) H) : Qb2 C s nm K H := by
 apply Qb2.gh
 apply QnC
 unfold Qku
 refine box1 fun b1 H2 hle h1 => ?_
 have hA2 := hA.trans hle
 refine ja (l.all (fdOk nm)) H2 (fun _ => ?_) ?_
 ·exact QpS (hs.le hA2 fun _ _ _ h => h) (Heap.le.refl H2) (ok := fdOk nm) (fun w hw y D Φ hD hR hΦ => ⟨_, [], [pv (some (b1, 0))], rfl, Qmj, QqZ hT hR (hA2.trans hD) (hD _ _ h1) hΦ⟩) ⟨rfl, rfl⟩
 rw [hs.len, show decide (((l.length : Nat) : Int) ≤ 8) = decide (l.length ≤ 8) from lenL (m := 8)]
 exact ⟨H, Gh.le hle, k⟩
theorem Qt3 (hT : MaxC C) {v : CnV} {x : Qe} {K : Bool → Heap → Prop} (hx : CnIs A v x) (hA : A.le H) (k : K (cnOk v) H) : QbY C x K H := by
 apply QbY.gh
 apply QlA
 unfold Qh1
 refine box1 fun b1 H2 hle h1 => fS h1 rfl (QfW hT hx.1 ?_)
 exact ja (fdsOk false v.f) H2 (fun _ => fL h1 rfl (Qpg hT hx.2 (hA.trans hle) ⟨rfl, rfl⟩)) ⟨H, Gh.le hle, k⟩
theorem geI {n m : Nat} : decide (((n : Nat) : Int) ≥ (m : Int)) = decide (m ≤ n) := by rw [decide_eq_decide]; omega
theorem gtI {n m : Nat} : decide (((n : Nat) : Int) > (m : Int)) = decide (m < n) := by rw [decide_eq_decide]; omega
theorem Qrd (hT : MaxC C) {v : TdV} {x : Qg} {K : Bool → Heap → Prop} (hx : TdIs A v x) (hA : A.le H) (k : K (tdOk v) H) : Qc7 C x K H := by
 apply Qc7.gh
 apply QmH
 unfold QjD
 obtain ⟨_, en, hps, hcs⟩ := hx
 have l1 := SlIs.len hps
 have l2 := hcs.len
 refine box1 fun b1 H2 hle h1 => fS h1 rfl (QfW hT en ?_)
 have hA2 := hA.trans hle
 refine ja (decide (v.ps.length ≤ 8)) H2 (fun _ => fL h1 rfl ⟨rfl, by rw [l1]; exact lenL (m := 8)⟩) ?_
 refine ja (v.ps.all parS) H2 (fun _ => fL h1 rfl (Qo7 hps hA2 (fun w hw D Φ hD hl hΦ => cu Qlf (QqF hT ⟨rfl, hl⟩ hΦ)) ⟨rfl, rfl⟩)) ?_
 refine ja (decide (1 ≤ v.cs.length)) H2 (fun _ => fL h1 rfl ⟨rfl, by rw [l2]; exact geI (m := 1)⟩) ?_
 refine ja (decide (v.cs.length ≤ 16)) H2 (fun _ => fL h1 rfl ⟨rfl, by rw [l2]; exact lenL (m := 16)⟩) ?_
 exact ja (v.cs.all cnOk) H2 (fun _ => fL h1 rfl (QqT hcs hA2 (fun w hw y D Φ hD hR hΦ => cu QlI (Qt3 hT hR hD hΦ)) ⟨rfl, rfl⟩)) ⟨H, Gh.le hle, k⟩
theorem Qut (hT : MaxC C) {v : RuV} {x : Qk} {K : Bool → Heap → Prop} (hx : RuIs A v x) (hA : A.le H) (k : K (ruOk v) H) : Qfs C x K H := by
 apply Qfs.gh
 apply Qo4
 unfold Ql3
 obtain ⟨en, ha, hg, hb⟩ := hx
 have l1 := ha.len
 have l2 := SlIs.len hg
 refine box1 fun b1 H2 hle h1 => fS h1 rfl (QoE hT en ?_)
 have hA2 := hA.trans hle
 refine ja (decide (v.a.length ≤ 8)) H2 (fun _ => fL h1 rfl ⟨rfl, by rw [l1]; exact lenL (m := 8)⟩) ?_
 refine ja (decide (v.g.length = v.a.length)) H2 (fun _ => fL h1 rfl (fL h1 rfl ⟨rfl, by rw [l1, l2]; exact lenI⟩)) ?_
 refine ja (exsOk false v.a) H2 (fun _ => fL h1 rfl (QsW hT ha hA2 ⟨rfl, rfl⟩)) ?_
 refine ja (v.b.all liOk) H2 (fun _ => fL h1 rfl (QmX hT hb hA2 ⟨rfl, rfl⟩)) ?_
 refine ja (v.g.all agOk) H2 (fun _ => fL h1 rfl (Qo7 hg hA2 (fun w hw D Φ hD hl hΦ => cu QnS ?_) ⟨rfl, rfl⟩)) ⟨H, Gh.le hle, k⟩
 show Qk0 C w Φ D
 apply QnE
 unfold Qkw
 have e : (((((w == ([] : Str)) || (w == ([99, 111, 117, 110, 116] : Str))) || (w == ([115, 117, 109] : Str))) || (w == ([109, 105, 110] : Str))) || (w == ([109, 97, 120] : Str))) = agOk w := by
  unfold agOk countS sumS minS maxS
  rw [Bool.eq_iff_iff]; simp only [Bool.or_eq_true, beq_iff_eq, decide_eq_true_eq, or_assoc]
 rw [e]; exact hΦ
theorem Qs4 (hT : MaxC C) {v : NeV} {x : Qj} {K : Bool → Heap → Prop} (hx : NeIs A v x) (hA : A.le H) (k : K (neOk v) H) : Qc2 C x K H := by
 apply Qc2.gh
 apply QmA
 unfold Qjw
 have l1 := hx.2.len
 refine box1 fun b1 H2 hle h1 => fS h1 rfl (QfW hT hx.1 ?_)
 refine ja (decide (0 < v.b.length)) H2 (fun _ => fL h1 rfl ⟨rfl, by rw [l1]; exact gtI (m := 0)⟩) ?_
 exact ja (v.b.all liOk) H2 (fun _ => fL h1 rfl (QmX hT hx.2 (hA.trans hle) ⟨rfl, rfl⟩)) ⟨H, Gh.le hle, k⟩
theorem Qsm (hT : MaxC C) {v : RdV} {x : Qh} {K : Bool → Heap → Prop} (hx : RdIs A v x) (hA : A.le H) (k : K (rdOk v) H) : Qc1 C x K H := by
 apply Qc1.gh
 apply Qmz
 unfold Qjv
 refine box1 fun b1 H2 hle h1 => fS h1 rfl (QfW hT hx.2.2.1 ?_)
 exact ja (fdsOk true v.f) H2 (fun _ => fL h1 rfl (Qpg hT hx.2.2.2 (hA.trans hle) ⟨rfl, rfl⟩)) ⟨H, Gh.le hle, k⟩
theorem QrU (hT : MaxC C) {v : Str} {x : Ql} {K : Bool → Heap → Prop} (hx : ImIs v x) (k : K (namS v) H) : Qc0 C x K H := by
 apply Qc0.gh
 apply Qmy
 unfold Qju
 exact box1 fun b1 H2 hle h1 => fS h1 rfl (QfW hT hx ⟨H, Gh.le hle, k⟩)
theorem Qt8 {v : RuV} {x : Qk} {K : Bool → Heap → Prop} (hx : RuIs A v x) (k : K (decide (v.b.length ≤ 12)) H) : Qc3 C x K H := by
 apply Qc3.gh
 apply QmB
 unfold Qjx
 refine box1 fun b1 H2 hle h1 => fL h1 rfl ?_
 rw [hx.2.2.2.len, show decide (((v.b.length : Nat) : Int) ≤ 12) = decide (v.b.length ≤ 12) from lenL (m := 12)]
 exact ⟨H, Gh.le hle, k⟩
theorem Qt9 {v : NeV} {x : Qj} {K : Bool → Heap → Prop} (hx : NeIs A v x) (k : K (decide (v.b.length ≤ 12)) H) : Qc4 C x K H := by
 apply Qc4.gh
 apply QmC
 unfold Qjy
 refine box1 fun b1 H2 hle h1 => fL h1 rfl ?_
 rw [hx.2.len, show decide (((v.b.length : Nat) : Int) ≤ 12) = decide (v.b.length ≤ 12) from lenL (m := 12)]
 exact ⟨H, Gh.le hle, k⟩
theorem QsD (hT : MaxC C) {v : MoV} {x : Qi} {K : Int → Heap → Prop} (hx : MoIs A v x) (hA : A.le H) (hb : moD v ≤ 4611686018427387904) (k : K (moC v) H) : Qdw C x K H := by
 apply Qdw.gh
 apply Qod
 unfold Qll
 refine box1 fun b1 H2 hle h1 => bxT h1 ?_
 have hA2 := hA.trans hle
 refine Qt4 hx hA2 hb ?_
 obtain ⟨en, him, hty, hre, hru, hne⟩ := hx
 unfold moC at k
 refine ift.of (fun h => ?_) (fun h => ?_)
 ·rw [if_pos (by have := of_decide_eq_true h; omega)] at k; exact ⟨H, Gh.le hle, k⟩
 rw [if_neg (by have := of_decide_eq_false h; omega)] at k
 refine fS h1 rfl (QfW hT en ?_)
 refine jo' (!v.im.all namS) H2 (fun _ => fL h1 rfl (Qrr him hA2 (fun w hw y D Φ hD hR hΦ => cu QmZ (QrU hT hR hΦ)) ⟨rfl, rfl⟩)) ?_
 refine jo' (!v.ty.all tdOk) H2 (fun _ => fL h1 rfl (QqV hty hA2 (fun w hw y D Φ hD hR hΦ => cu Qm8 (Qrd hT hR hD hΦ)) ⟨rfl, rfl⟩)) ?_
 refine jo' (!v.re.all rdOk) H2 (fun _ => fL h1 rfl (Qrs hre hA2 (fun w hw y D Φ hD hR hΦ => cu Qm0 (Qsm hT hR hD hΦ)) ⟨rfl, rfl⟩)) ?_
 refine jo' (!v.ru.all ruOk) H2 (fun _ => fL h1 rfl (Qrt hru hA2 (fun w hw y D Φ hD hR hΦ => cu Qpp (Qut hT hR hD hΦ)) ⟨rfl, rfl⟩)) ?_
 refine jo' (!v.ne.all neOk) H2 (fun _ => fL h1 rfl (Qqi hne hA2 (fun w hw y D Φ hD hR hΦ => cu Qm1 (Qs4 hT hR hD hΦ)) ⟨rfl, rfl⟩)) ?_
 have e1 : (((((!namS v.n || !v.im.all namS) || !v.ty.all tdOk) || !v.re.all rdOk) || !v.ru.all ruOk) || !v.ne.all neOk) = !moOk v := by unfold moOk; simp only [Bool.not_and]
 rw [e1]
 refine ift.of (fun h => ?_) (fun h => ?_)
 ·rw [if_pos (by simpa using h)] at k; exact ⟨H, Gh.le hle, k⟩
 rw [if_neg (by simpa using h)] at k
 refine fL h1 rfl ?_
 refine jo' (decide (64 < v.ty.length)) H2 (fun _ => fL h1 rfl ⟨rfl, by rw [hty.len]; exact gtI (m := 64)⟩) ?_
 refine jo' (decide (64 < v.re.length)) H2 (fun _ => fL h1 rfl ⟨rfl, by rw [hre.len]; exact gtI (m := 64)⟩) ?_
 refine jo' (decide (256 < v.ru.length)) H2 (fun _ => fL h1 rfl ⟨rfl, by rw [hru.len]; exact gtI (m := 256)⟩) ?_
 refine jo' (decide (256 < v.ne.length)) H2 (fun _ => fL h1 rfl ⟨rfl, by rw [hne.len]; exact gtI (m := 256)⟩) ?_
 refine jo' (!v.ru.all (fun r => decide (r.b.length ≤ 12))) H2 (fun _ => fL h1 rfl (Qrt hru hA2 (fun w hw y D Φ hD hR hΦ => cu Qm2 (Qt8 hR hΦ)) ⟨rfl, rfl⟩)) ?_
 refine jo' (!v.ne.all (fun n => decide (n.b.length ≤ 12))) H2 (fun _ => fL h1 rfl (Qqi hne hA2 (fun w hw y D Φ hD hR hΦ => cu Qm3 (Qt9 hR hΦ)) ⟨rfl, rfl⟩)) ?_
 rw [him.len, show decide (((v.im.length : Nat) : Int) > 8) = decide (8 < v.im.length) from gtI (m := 8)]
 have nd : ∀ a b : Nat, decide (a < b) = !decide (b ≤ a) := fun a b => by rw [Bool.eq_iff_iff]; simp
 have e2 : (((((((decide (8 < v.im.length)) || decide (64 < v.ty.length)) || decide (64 < v.re.length)) || decide (256 < v.ru.length)) || decide (256 < v.ne.length)) || !v.ru.all (fun r => decide (r.b.length ≤ 12))) || !v.ne.all (fun n => decide (n.b.length ≤ 12))) = !moFew v := by
  unfold moFew; simp only [Bool.not_and, nd]
 rw [e2]
 refine ift.of (fun h => ?_) (fun h => ?_)
 ·rw [if_pos (by simpa using h)] at k; exact ⟨H, Gh.le hle, k⟩
 ·rw [if_neg (by simpa using h)] at k; exact ⟨H, Gh.le hle, k⟩
end
end
section
open Go Go.Proofs
theorem Qsx : ∀ (i : Nat) (l : List TyV), tysT i l = jo [44, 32] tyT i l
 | i, [] => rfl
 | i, v :: l => by
  simp only [tysT, jo, Qsx (i + 1) l]
  cases i <;> rfl
theorem Qp0 (sp : Str) {sep : Nat → Str} (h : ∀ i, sep i = if i = 0 then [] else sp) : ∀ (i : Nat) (l : List ExV), exsT sep i l = jo sp exT i l
 | i, [] => rfl
 | i, v :: l => by simp only [exsT, jo, Qp0 sp h (i + 1) l, h i]
theorem Qvm (i : Nat) (l : List ExV) : exsT cm i l = jo [44, 32] exT i l := Qp0 _ (fun i => by cases i <;> rfl) i l
theorem Qvr (n : Str) (i : Nat) (l : List ExV) : exsT (opSep n) i l = jo (32 :: (n ++ [32])) exT i l := Qp0 _ (fun i => by cases i <;> rfl) i l
theorem Qpe (sep : Nat → Str) : ∀ (l : List ExV) (j : Nat) (w : ExV), exsT sep j (l ++ [w]) = exsT sep j l ++ (sep (j + l.length) ++ exT w)
 | [], j, w => by simp [exsT]
 | v :: l, j, w => by
  rw [List.cons_append]
  simp only [exsT, Qpe sep l (j + 1) w, List.append_assoc, List.length_cons]
  rw [show j + 1 + l.length = j + (l.length + 1) by omega]
theorem QrN {sep : Nat → Str} {l : List ExV} {i : Nat} (h : i < l.length) : exsT sep 0 (l.take (i + 1)) = exsT sep 0 (l.take i) ++ (sep i ++ exT l[i]) := by
 rw [List.take_add_one, List.getElem?_eq_getElem h, Option.toList_some, Qpe, List.length_take, Nat.min_eq_left (by omega), Nat.zero_add]
theorem QsX {sep : Nat → Str} (l : List ExV) (i : Nat) : (exsT sep 0 (l.take i)).length ≤ (exsT sep 0 l).length := by
 have : ∀ (a b : List ExV) (k : Nat), (exsT sep k a).length ≤ (exsT sep k (a ++ b)).length := by
  intro a
  induction a with
  | nil => intro b k; simp [exsT]
  | cons x a ih => intro b k; have := ih b (k + 1); simp only [List.cons_append, exsT, List.length_append]; omega
 have := this (l.take i) (l.drop i) 0
 rwa [List.take_append_drop] at this
theorem QtK (v : TyV) : tyT v = (if v.n = tupS then [] else v.n) ++ (if v.n = tupS ∨ 0 < v.a.length then 40 :: (jo [44, 32] tyT 0 v.a ++ [41]) else []) := by
 obtain ⟨n, a⟩ := v
 show tyT (.mk n a) = (if n = tupS then [] else n) ++ (if n = tupS ∨ 0 < a.length then 40 :: (jo [44, 32] tyT 0 a ++ [41]) else [])
 simp only [tyT, Qsx]
 by_cases h : n = tupS
 ·rw [if_pos h, if_pos h, if_pos (.inl h)]; rfl
 ·rw [if_neg h, if_neg h]
  by_cases h2 : a.length = 0
  ·rw [if_pos h2, if_neg (by rintro (e | e); exact h e; omega)]
  ·rw [if_neg h2, if_pos (.inr (by omega))]
theorem exE1 {v : ExV} (h : v.k = 1) : exT v = showV v.v := by obtain ⟨k, n, u, a⟩ := v; have h : k = 1 := h; subst h; simp [exT, ExV.v]
theorem exE2 {v : ExV} (h : v.k = 2) : exT v = v.n := by obtain ⟨k, n, u, a⟩ := v; have h : k = 2 := h; subst h; simp [exT, ExV.n]
theorem exE3 {v : ExV} (h : v.k = 3) : exT v = [95] := by obtain ⟨k, n, u, a⟩ := v; have h : k = 3 := h; subst h; simp [exT]
theorem exE4 {v : ExV} (h : v.k = 4) : exT v = 40 :: (exsT cm 0 v.a ++ [41]) := by obtain ⟨k, n, u, a⟩ := v; have h : k = 4 := h; subst h; simp [exT, ExV.a]
theorem exE5 {v : ExV} (h : v.k = 5) : exT v = v.n ++ (if v.a.length = 0 then [] else 40 :: (exsT cm 0 v.a ++ [41])) := by obtain ⟨k, n, u, a⟩ := v; have h : k = 5 := h; subst h; simp [exT, ExV.a, ExV.n]
theorem exE6 {v : ExV} (h : v.k = 6) : exT v = if funB v.n = true then v.n ++ 40 :: (exsT cm 0 v.a ++ [41]) else if v.a.length = 1 then 40 :: (v.n ++ 32 :: (exsT noSep 0 v.a ++ [41])) else 40 :: (exsT (opSep v.n) 0 v.a ++ [41]) := by obtain ⟨k, n, u, a⟩ := v; have h : k = 6 := h; subst h; simp [exT, ExV.a, ExV.n]; rfl
theorem exE7 {v : ExV} (h : v.k = 7) : exT v = (if brkE v.a = true then 40 :: (exsT cm 0 v.a ++ [41]) else exsT cm 0 v.a) ++ 46 :: v.n := by obtain ⟨k, n, u, a⟩ := v; have h : k = 7 := h; subst h; simp [exT, ExV.a, ExV.n]; rfl
theorem exE8 {v : ExV} (h : v.k = 8) : exT v = exsT ifSep 0 v.a ++ [41] := by obtain ⟨k, n, u, a⟩ := v; have h : k = 8 := h; subst h; simp [exT, ExV.a]
theorem Qow {l : List ExV} {sep : Nat → Str} (hs : sep 0 = []) (h : l.length = 1) (h0 : 0 < l.length) : exsT sep 0 l = exT l[0] := by
 match l, h with
 | [w], _ => simp [exsT, hs]
section
variable {C : Ctx} {A : Heap} {b : Nat}
/-- a copy of an argument, laid beside the writer -/
theorem Ww.box {B : Heap} {t : Str} {cx : List Value} {K : Nat → Heap → Prop} (h : Ww A B b t) (k : ∀ b1 F D, A.le F → F b1 = some (true, .row cx) → Ww F D b t → K b1 D) : nw cx K B := fun b1 n1 => by
 have l1 := Heap.le_put n1 (g := .row cx) (m := true)
 obtain ⟨hF, hAF⟩ := (h.up l1).full
 have hbb : b1 ≠ b := fun e => by
  obtain ⟨g, hg⟩ := h.bl.some
  rw [e, hg] at n1; cases n1
 exact k b1 _ _ hAF (by rw [Heap.del_ne _ hbb]; exact Heap.put_same ..) hF
theorem Ww.texts {B : Heap} {t : Str} {cs : List Value} {n : Nat} {K : Heap → Prop} (ss : List Str) (h : Ww A B b t) (hl : t.length + ss.flatten.length ≤ 140737488355328) (k : ∀ D, Ww A D b (t ++ ss.flatten) → K D)
 (hs : cs = ss.map sv := by rfl) (hn : n = ss.length := by rfl) (hb : n ≤ 100 := by omega) : nw cs (fun b2 H => QG C (some (b, 0)) (Sl.of (some (b2, 0)) n n) K H) B := fun b2 n2 => by
 have l1 := Heap.le_put n2 (g := .row cs) (m := true)
 have hU := h.up l1
 have hAF := hU.full.2
 exact Qth hU (Heap.put_same ..) hs hn hb hl fun D hD => k D (hD.down hAF)
theorem Qvk : ∀ (v : TyV) {A' B : Heap} {x : Qf} {t : Str} {K : Heap → Prop}, TyIs A v x → A.le A' → Ww A' B b t → t.length + (tyT v).length ≤ 140737488355328 → (∀ D, Ww A' D b (t ++ tyT v) → K D) → Qft C (some (b, 0)) x K B := by
 refine TyV.rec_ fun v ih A' B x t K hx hA hW hl k => ?_
 obtain ⟨en, hs⟩ := Qeq.1 hx
 have hlen := hs.len
 apply QkX
 unfold Qg8
 refine hW.box fun b1 F D hF h1 hD => ?_
 rw [QtK] at hl k
 simp only [List.length_append] at hl
 refine ⟨fun _ E => Ww F E b (t ++ if v.n = tupS then [] else v.n), ?_, ?_⟩
 ·refine fS (hD.le _ _ h1) rfl ?_
  rw [en.1]
  refine ift.of (fun h => ⟨F, hD.le, (b, 0), rfl, fS h1 rfl ?_⟩) (fun h => ?_)
  ·have hn : v.n ≠ tupS := fun e => by rw [e] at h; exact absurd h (by decide)
   rw [if_neg hn] at hl ⊢
   rw [en.1]
   exact hD.str (by omega) fun E hE => ⟨hE.le, hE⟩
  ·have hn : v.n = tupS := beq_iff_eq.1 (by rw [Bool.not_eq_false'] at h; exact h)
   rw [if_pos hn, List.append_nil]; exact hD
 rintro _ E hE
 refine fS (hE.le _ _ h1) rfl ?_
 rw [en.1]
 refine jp (P := v.n = tupS ∨ 0 < v.a.length) E (ift.of (fun h => ⟨rfl, fun _ => .inl (beq_iff_eq.1 h), fun _ => rfl⟩) (fun h => fL (hE.le _ _ h1) rfl ⟨rfl, ?_⟩)) fun b0 hb0 => ?_
 ·rw [hlen]
  constructor
  ·intro h'; exact .inr (by have := of_decide_eq_true h'; omega)
  ·rintro (e | e)
   ·rw [e] at h; exact absurd h (by decide)
   ·exact decide_eq_true (by omega)
 refine ift.of (fun h => fL (hE.le _ _ h1) rfl ?_) (fun h => ?_)
 ·have hp := hb0.1 h
  rw [if_pos hp] at hl k
  simp only [List.length_append, List.length_cons, List.length_nil] at hl
  refine QtZ (hs.le (hA.trans hF) fun _ _ _ h => h) hE (f := tyT) (fun w hw y D u Φ hW hR hl hk => ⟨_, [pv (some (b, 0))], [], rfl, Qg0, ih w hw hR (hA.trans hF) hW hl hk⟩) (by simp only [List.length_append]; omega) fun D2 h2 => ?_
  exact k D2 (by rw [← List.append_assoc]; exact h2.down hF)
 ·have hp : ¬ (v.n = tupS ∨ 0 < v.a.length) := fun p => by rw [hb0.2 p] at h; cases h
  rw [if_neg hp, List.append_nil] at k
  exact k E (hE.down hF)
/-- an expression's text, by the program -/
def EW (C : Ctx) (A : Heap) (b : Nat) (w : ExV) : Prop := ∀ {A' B : Heap} {x : Qa} {t : Str} {K : Heap → Prop}, ExIs A w x → A.le A' → Ww A' B b t → t.length + (exT w).length ≤ 140737488355328 → (∀ D, Ww A' D b (t ++ exT w) → K D) → Q4 C (some (b, 0)) x K B
theorem lsE {A' D : Heap} {l : List ExV} {s : Sl} {sp u : Str} {K : Heap → Prop} (hs : ExL A s l) (he : ∀ w ∈ l, EW C A b w) (hA : A.le A') (hW : Ww A' D b u) (hl : u.length + (jo sp exT 0 l).length ≤ 140737488355328) (k : ∀ D2, Ww A' D2 b (u ++ jo sp exT 0 l) → K D2) :
 Qa0 C (some (b, 0)) s sp (.func (.func 93) (List.toArray [pv (some (b, 0))]) (List.toArray []) : Value) K D :=
 Qr2 (hs.le hA fun _ _ _ h => h) hW (f := exT) (fun w hw y D u Φ hW hR hl hk => ⟨_, [pv (some (b, 0))], [], rfl, Q0, he w hw hR hA hW hl hk⟩) hl k
theorem brE {A' D : Heap} {l : List ExV} {s : Sl} {u : Str} {K : Heap → Prop} (hs : ExL A s l) (he : ∀ w ∈ l, EW C A b w) (hA : A.le A') (hW : Ww A' D b u) (hl : u.length + (exsT cm 0 l).length + 2 ≤ 140737488355328) (k : ∀ D2, Ww A' D2 b (u ++ 40 :: (exsT cm 0 l ++ [41])) → K D2) :
 QE C (some (b, 0)) s (.func (.func 93) (List.toArray [pv (some (b, 0))]) (List.toArray []) : Value) K D := by
 rw [Qvm] at hl k
 exact QtY (hs.le hA fun _ _ _ h => h) hW (f := exT) (fun w hw y D u Φ hW hR hl hk => ⟨_, [pv (some (b, 0))], [], rfl, Q0, he w hw hR hA hW hl hk⟩) hl k
theorem Qt0 {v : ExV} (hk6 : v.k = 6) (he : ∀ w ∈ v.a, EW C A b w) {A' B : Heap} {x : Qa} {t : Str} {K : Heap → Prop} (hx : ExIs A v x) (hA : A.le A') (hW : Ww A' B b t) (hl : t.length + (exT v).length ≤ 140737488355328) (k : ∀ D, Ww A' D b (t ++ exT v) → K D) : QeZ C (some (b, 0)) x K B := by
 obtain ⟨ek, en, hv, hB, hs⟩ := Qa6.1 hx
 have hlen := hs.len
 apply QkE
 unfold QgG
 rw [exE6 hk6] at hl k
 refine hW.box fun b1 F D hF h1 hD => fS (hD.le _ _ h1) rfl ?_
 have hAF := hA.trans hF
 refine QmS ?_
 rw [en.1]
 refine ift.of (fun h => ?_) (fun h => ?_)
 ·rw [if_pos h] at hl k
  simp only [List.length_append, List.length_cons, List.length_nil] at hl
  refine ⟨F, hD.le, (b, 0), rfl, fS h1 rfl ?_⟩
  rw [en.1]
  refine hD.str (by omega) fun E hE => ⟨hE.le, fL (hE.le _ _ h1) rfl ?_⟩
  refine brE hs he hAF hE (by simp only [List.length_append]; omega) fun D2 h2 => k D2 ?_
  rw [← List.append_assoc]; exact h2.down hF
 rw [if_neg (by rw [h]; decide)] at hl k
 refine fL (hD.le _ _ h1) rfl ?_
 rw [hlen]
 refine ift.of (fun h1l => ?_) (fun h1l => ?_)
 ·have hl1 : v.a.length = 1 := Int.ofNat.inj (show ((v.a.length : Nat) : Int) = ((1 : Nat) : Int) from beq_iff_eq.1 h1l)
  have h0 : 0 < v.a.length := by omega
  rw [if_pos hl1, Qow rfl hl1 h0] at hl k
  simp only [List.length_append, List.length_cons, List.length_nil] at hl
  refine fS (hD.le _ _ h1) rfl ?_
  rw [en.1]
  refine Ww.texts [[40], v.n, [32]] hD (by simp; omega) fun E hE => fL (hE.le _ _ h1) rfl ?_
  refine SlIs.ld hs (hAF.trans hE.le) Qbw (by omega) (i := 0) rfl h0 fun y hy => ?_
  refine he _ (List.getElem_mem h0) hy hAF hE (by simp; omega) fun E2 h2 => ⟨(b, 0), rfl, ?_⟩
  refine h2.byte (c := 41) rfl (by simp; omega) fun E3 h3 => k E3 ?_
  have := h3.down hF
  simpa using this
 ·have hl1 : ¬ v.a.length = 1 := fun e => by rw [e] at h1l; cases h1l
  rw [if_neg hl1, Qvr] at hl k
  simp only [List.length_append, List.length_cons, List.length_nil] at hl
  refine ⟨(b, 0), rfl, hD.byte (c := 40) rfl (by omega) fun E hE => fL (hE.le _ _ h1) rfl (fS (hE.le _ _ h1) rfl ?_)⟩
  have hn := en.2
  rw [en.1]
  refine ⟨by simp [catOk]; omega, by simp [catOk]; omega, ?_⟩
  refine lsE hs he hAF hE (by simp; omega) fun E2 h2 => ⟨(b, 0), rfl, h2.byte (c := 41) rfl (by simp; omega) fun E3 h3 => k E3 ?_⟩
  have := h3.down hF
  simpa using this
theorem QsY {v : ExV} (hk7 : v.k = 7) (hl1 : v.a.length = 1) (he : ∀ w ∈ v.a, EW C A b w) {A' B : Heap} {x : Qa} {t : Str} {K : Heap → Prop} (hx : ExIs A v x) (hA : A.le A') (hW : Ww A' B b t) (hl : t.length + (exT v).length ≤ 140737488355328) (k : ∀ D, Ww A' D b (t ++ exT v) → K D) : Qes C (some (b, 0)) x K B := by
 obtain ⟨ek, en, hv, hB, hs⟩ := Qa6.1 hx
 have h0 : 0 < v.a.length := by omega
 apply QjS
 unfold Qga
 rw [exE7 hk7] at hl k
 refine hW.box fun b1 F D hF h1 hD => fL (hD.le _ _ h1) rfl ?_
 have hAF := hA.trans hF
 refine SlIs.ld hs (hAF.trans hD.le) Qbw (by omega) (i := 0) rfl h0 fun y hy => ?_
 obtain ⟨yk, yn, _⟩ := Qa6.1 hy
 have hbk : brkE v.a = decide (v.a[0].k = 1 ∨ v.a[0].k = 5 ∨ (v.a[0].k = 6 ∧ funB v.a[0].n = true)) := by
  generalize v.a = l at *
  cases l with
  | nil => simp at h0
  | cons w l => rfl
 intro b12 n12
 refine nwT rfl ?_
 have l12 := Heap.le_put n12 (g := .row (Qa.c y)) (m := true)
 have c12 : (D.put b12 (.row (Qa.c y))) b12 = some (true, .row (Qa.c y)) := Heap.put_same ..
 have hD2 := hD.up l12
 obtain ⟨hF2, hAF2⟩ := hD2.full
 have hbb : b12 ≠ b := fun e' => by
  obtain ⟨g, hg⟩ := hD.bl.some
  rw [← e', n12] at hg; cases hg
 have c12' : ((D.put b12 (.row (Qa.c y))).del b) b12 = some (true, .row (Qa.c y)) := by rw [Heap.del_ne _ hbb]; exact c12
 generalize D.put b12 (.row (Qa.c y)) = D2 at *
 generalize D2.del b = F2 at *
 have h1' := hAF2 _ _ h1
 have hAF' := hAF.trans hAF2
 simp only [List.length_append, List.length_cons] at hl
 refine ⟨fun _ E => Ww F2 E b (t ++ if brkE v.a = true then 40 :: (exsT cm 0 v.a ++ [41]) else exsT cm 0 v.a), ?_, ?_⟩
 ·refine fI c12 rfl ?_
  rw [yk]
  refine jp (P := v.a[0].k = 1 ∨ v.a[0].k = 5) D2 (ift.of (fun h => ⟨rfl, fun _ => .inl (by simpa using h), fun _ => rfl⟩) (fun h => fI c12 rfl ⟨rfl, ?_⟩)) fun b1 hb1 => ?_
  ·rw [yk]
   constructor
   ·intro h'; exact .inr (by simpa using h')
   ·rintro (e | e)
    ·rw [e] at h; cases h
    ·rw [e]; rfl
  refine jp (P := v.a[0].k = 1 ∨ v.a[0].k = 5 ∨ (v.a[0].k = 6 ∧ funB v.a[0].n = true)) D2 (ift.of (fun h => ⟨rfl, fun _ => (hb1.1 h).elim .inl fun e => .inr (.inl e), fun _ => rfl⟩) (fun h => fI c12 rfl ?_)) fun b2 hb2 => ?_
  ·rw [yk]
   have hno : ¬ (v.a[0].k = 1 ∨ v.a[0].k = 5) := fun p => by rw [hb1.2 p] at h; cases h
   refine ja (funB v.a[0].n) D2 (fun _ => fS c12 rfl ?_) ⟨rfl, ?_⟩
   ·rw [yn.1]; exact QmS ⟨rfl, rfl⟩
   ·rw [Bool.and_eq_true]
    constructor
    ·rintro ⟨a1, a2⟩; exact .inr (.inr ⟨by simpa using a1, a2⟩)
    ·rintro (e | e | ⟨e1, e2⟩)
     ·exact absurd (.inl e) hno
     ·exact absurd (.inr e) hno
     ·exact ⟨by rw [e1]; rfl, e2⟩
  refine ift.of (fun h => fL (hD2.le _ _ h1) rfl ?_) (fun h => bxT c12 ?_)
  ·have hp : brkE v.a = true := by rw [hbk]; exact decide_eq_true (hb2.1 h)
   rw [if_pos hp] at hl ⊢
   simp only [List.length_append, List.length_cons, List.length_nil] at hl
   exact brE hs he hAF' hF2 (by omega) fun E hE => hE
  ·have hp : ¬ brkE v.a = true := fun p => by rw [hbk] at p; rw [hb2.2 (of_decide_eq_true p)] at h; cases h
   rw [if_neg hp] at hl ⊢
   rw [Qow rfl hl1 h0] at hl ⊢
   exact he _ (List.getElem_mem h0) hy hAF' hF2 (by omega) fun E hE => hE
 rintro _ E hE
 refine fS (hE.le _ _ h1') rfl ?_
 rw [en.1]
 refine Ww.texts [[46], v.n] hE (by simp only [List.length_append]; simp; omega) fun E2 h2 => k E2 ?_
 have := (h2.down hAF2).down hF
 simpa using this
theorem QrL {p : Bool} {k : Int} {n : Str} {m : Nat} (h1 : k ≠ 1) (h : exN p k n m = true) : k = 2 ∨ k = 3 ∨ k = 4 ∨ k = 5 ∨ k = 6 ∨ k = 7 ∨ k = 8 := by
 refine Classical.byContradiction fun hn => ?_
 unfold exN at h
 rw [if_neg fun e => hn (by simp [e]), if_neg fun e => hn (by simp [e]), if_neg fun e => hn (by simp [e]), if_neg fun e => hn (by simp [e]), if_neg fun e => hn (by simp [e]), if_neg fun e => hn (by simp [e]), if_neg fun e => hn (by simp [e])] at h
 cases h
theorem Qqq {p : Bool} {v : ExV} (h : exOk p v = true) : ∀ w ∈ v.a, exOk p w = true := by
 rw [Qoo] at h
 by_cases h1 : v.k = 1
 ·rw [if_pos h1] at h
  simp only [Bool.and_eq_true, decide_eq_true_eq] at h
  intro w hw
  rw [List.length_eq_zero_iff.1 h.1.2] at hw; cases hw
 ·rw [if_neg h1, Bool.and_eq_true] at h
  exact List.all_eq_true.1 h.2
theorem QpI (hFm : FmtC C) : ∀ (v : ExV), (∃ p, exOk p v = true) → EW C A b v := by
 refine ExV.rec_ fun v ih ⟨p, hok⟩ A' B x t K hx hA hW hl k => ?_
 have he : ∀ w ∈ v.a, EW C A b w := fun w hw => ih w hw ⟨p, Qqq hok w hw⟩
 have hx0 := hx
 obtain ⟨ek, en, hv, hB, hs⟩ := Qa6.1 hx
 have hlen := hs.len
 apply QkF
 unfold QgH
 refine hW.box fun b1 F D hF h1 hD => fI (hD.le _ _ h1) rfl ?_
 have hAF := hA.trans hF
 rw [ek]
 rw [Qoo] at hok
 refine ift.of (fun h => ?_) (fun n1 => ?_)
 ·have hk : v.k = 1 := by simpa using h
  rw [if_pos hk] at hok
  simp only [Bool.and_eq_true] at hok
  have hm : mayV v.v = true := by have := hok.1.1; unfold litV at this; simp only [Bool.and_eq_true] at this; exact this.2
  rw [exE1 hk] at hl k
  refine ⟨F, hD.le, (b, 0), rfl, fT h1 Quz (QtS hFm (hv.le (hAF.trans hD.le)) hB (fun _ => by omega) fun E hE => ⟨hD.le.trans hE, ?_⟩)⟩
  rw [if_pos hm]
  exact (hD.up hE).str (by omega) fun E2 h2 => ⟨h2.le, k E2 (h2.down hF)⟩
 have n1 : v.k ≠ 1 := by simpa using n1
 rw [if_neg n1, Bool.and_eq_true, Bool.and_eq_true] at hok
 have hN := hok.1.1
 refine ift.of (fun h => ?_) (fun n2 => ?_)
 ·have hk : v.k = 2 := by simpa using h
  rw [exE2 hk] at hl k
  refine ⟨F, hD.le, (b, 0), rfl, fS h1 rfl ?_⟩
  rw [en.1]
  exact hD.str (by omega) fun E2 h2 => ⟨h2.le, k E2 (h2.down hF)⟩
 refine ift.of (fun h => ?_) (fun n3 => ?_)
 ·have hk : v.k = 3 := by simpa using h
  rw [exE3 hk] at hl k
  exact ⟨(b, 0), rfl, hD.byte (c := 95) rfl (by simpa using hl) fun E2 h2 => k E2 (h2.down hF)⟩
 refine ift.of (fun h => ?_) (fun n4 => ?_)
 ·have hk : v.k = 4 := by simpa using h
  rw [exE4 hk] at hl k
  simp only [List.length_append, List.length_cons, List.length_nil] at hl
  exact fL (hD.le _ _ h1) rfl (brE hs he hAF hD (by omega) fun E2 h2 => k E2 (h2.down hF))
 refine ift.of (fun h => ?_) (fun n5 => ?_)
 ·have hk : v.k = 5 := by simpa using h
  rw [exE5 hk] at hl k
  simp only [List.length_append] at hl
  refine ⟨F, hD.le, (b, 0), rfl, fS h1 rfl ?_⟩
  rw [en.1]
  refine hD.str (by omega) fun E2 h2 => ⟨h2.le, fL (h2.le _ _ h1) rfl ?_⟩
  rw [hlen]
  refine ift.of (fun h => ?_) (fun h => ?_)
  ·have h0 : ¬ v.a.length = 0 := by have := of_decide_eq_true h; omega
   rw [if_neg h0] at hl k
   simp only [List.length_append, List.length_cons, List.length_nil] at hl
   refine fL (h2.le _ _ h1) rfl (brE hs he hAF h2 (by simp only [List.length_append]; omega) fun E3 h3 => k E3 ?_)
   rw [← List.append_assoc]; exact h3.down hF
  ·have h0 : v.a.length = 0 := by have := of_decide_eq_false h; omega
   rw [if_pos h0, List.append_nil] at k
   exact k E2 (h2.down hF)
 refine ift.of (fun h => ?_) (fun n6 => ?_)
 ·have hk : v.k = 6 := by simpa using h
  exact bxT (hD.le _ _ h1) (Qt0 hk he hx0 hAF hD hl fun E2 h2 => k E2 (h2.down hF))
 refine ift.of (fun h => ?_) (fun n7 => ?_)
 ·have hk : v.k = 7 := by simpa using h
  rw [hk, exN7] at hN
  simp only [Bool.and_eq_true, decide_eq_true_eq] at hN
  exact bxT (hD.le _ _ h1) (QsY hk hN.2 he hx0 hAF hD hl fun E2 h2 => k E2 (h2.down hF))
 refine ift.of (fun h => ?_) (fun n8 => ?_)
 ·have hk : v.k = 8 := by simpa using h
  rw [hk, exN8] at hN
  simp only [Bool.and_eq_true, decide_eq_true_eq] at hN
  have hl3 : v.a.length = 3 := hN.2
  rw [exE8 hk] at hl k
  simp only [List.length_append, List.length_cons, List.length_nil] at hl
  refine hD.box fun b65 F2 D2 hF2 h65 hD2 => ?_
  have h1' := hF2 _ _ h1
  have hAF2 := hAF.trans hF2
  refine ⟨fun y E => ∃ i : Nat, y = (i : Int) ∧ i ≤ 3 ∧ Ww F2 E b (t ++ exsT ifSep 0 (v.a.take i)), fun y _ => 3 - y.toNat, ⟨0, rfl, by omega, by simpa [exsT] using hD2⟩, ?_⟩
  rintro _ E ⟨i, rfl, hi, hE⟩
  refine ift.of (fun h => ?_) (fun h => ?_)
  ·have hlt : i < 3 := by have := of_decide_eq_true h; simp only [Sl.of] at this; omega
   have hlt2 : i < v.a.length := by omega
   have hp := QsX (sep := ifSep) v.a (i + 1)
   have hst := QrN (sep := ifSep) hlt2
   rw [hst] at hp
   simp only [List.length_append] at hp
   refine ⟨(b65, 0), rfl, rfl, by omega, by simp only [Sl.of]; omega, ifSep i, ?_, ?_⟩
   ·show rd E (b65, 0 + (i : Int).toNat * 1) = _
    rw [QbU (hE.le _ _ h65), show 0 + (i : Int).toNat * 1 = i by omega]
    match i, hlt with
    | 0, _ => rfl
    | 1, _ => rfl
    | 2, _ => rfl
   refine ⟨(b, 0), rfl, hE.str (by simp only [List.length_append]; omega) fun E2 h2 => fL (h2.le _ _ h1') rfl ?_⟩
   refine SlIs.ld hs (hAF2.trans h2.le) Qbw (by omega) rfl hlt2 fun y hy => ?_
   refine he _ (List.getElem_mem hlt2) hy hAF2 h2 (by simp only [List.length_append]; omega) fun E3 h3 => ?_
   rw [QM (by omega) (by omega)]
   refine ⟨⟨i + 1, by omega, by omega, ?_⟩, by first | omega | (dsimp only; omega)⟩
   rw [hst]; simpa using h3
  ·have hie : i = 3 := by have := of_decide_eq_false h; simp only [Sl.of] at this; omega
   subst hie
   rw [List.take_of_length_le (by omega)] at hE
   refine ⟨(b, 0), rfl, hE.byte (c := 41) rfl (by simp only [List.length_append]; omega) fun E2 h2 => k E2 ?_⟩
   rw [← List.append_assoc]; exact (h2.down hF2).down hF
 ·exfalso
  rcases QrL n1 hN with e | e | e | e | e | e | e
  ·rw [e] at n2; cases n2
  ·rw [e] at n3; cases n3
  ·rw [e] at n4; cases n4
  ·rw [e] at n5; cases n5
  ·rw [e] at n6; cases n6
  ·rw [e] at n7; cases n7
  ·rw [e] at n8; cases n8
end
end
section
open Go Go.Proofs
section
variable {C : Ctx} {A H : Heap} {b : Nat}
theorem fP0 {c : Nat} {m : Bool} {q : Option (Nat × Nat)} {K : Option (Nat × Nat) → Prop} (h : H c = some (m, .row [pv q])) (k : K q) : ldP H (c, 0) K := ⟨q, by rw [QbU h]; rfl, k⟩
theorem jS {R : Str → Heap → Prop} {body : (Str → Heap → Prop) → Prop} (v : Str) (H0 : Heap) (h1 : body (fun b E => E = H0 ∧ b = v)) (h2 : R v H0) : jn (α := Str) R body := ⟨fun b E => E = H0 ∧ b = v, h1, by rintro _ _ ⟨rfl, rfl⟩; exact h2⟩
theorem Ww.byteX {B : Heap} {bs : Str} {c : UInt8} {i : Int} {K : Value → Heap → Prop} (h : Ww A B b bs) (hi : i = (c.toNat : Int)) (hl : bs.length + 1 ≤ 140737488355328) (k : ∀ D, Ww A D b (bs ++ [c]) → (∀ c, c ≠ b → D c = B c) → K .nilIface D) : Qo C (some (b, 0)) i K B := by
 subst hi
 exact Qi4 h.bl liB87 hl (k _ ⟨h.le.put _ _ h.nb, h.nb, IsB.put⟩ fun c hc => Heap.put_ne _ _ _ hc)
theorem ews (hFm : FmtC C) {p : Bool} {l : List ExV} (h : exsOk p l = true) : ∀ w ∈ l, EW C A b w := fun w hw => by
 rw [Qgv] at h
 exact QpI hFm w ⟨p, List.all_eq_true.1 h w hw⟩
theorem Qud (hFm : FmtC C) {v : LiV} (hok : liOk v = true) {A' B : Heap} {x : Qd} {t : Str} {K : Heap → Prop} (hx : LiIs A v x) (hA : A.le A') (hW : Ww A' B b t) (hl : t.length + (liT v).length ≤ 140737488355328) (k : ∀ D, Ww A' D b (t ++ liT v) → K D) : QfE C (some (b, 0)) x K B := by
 obtain ⟨ek, en, hs⟩ := hx
 have hlen := hs.len
 apply QiT
 unfold Qfo
 refine hW.box fun b1 F D hF h1 hD => fI (hD.le _ _ h1) rfl ?_
 have hAF := hA.trans hF
 rw [ek]
 unfold liOk at hok
 unfold liT at hl k
 refine ⟨fun _ E => Ww F E b (t ++ if v.k = 2 then [110, 111, 116, 32] else []) ∧ (v.k = 1 ∨ v.k = 2), ?_, ?_⟩
 ·refine ift.of (fun h => ?_) (fun n2 => ?_)
  ·have hk : v.k = 2 := by simpa using h
   rw [if_neg (by rw [hk]; decide), if_pos hk] at hl
   simp only [List.length_append, List.length_cons, List.length_nil] at hl
   rw [if_pos hk]
   exact ⟨(b, 0), rfl, hD.str (by simp only [List.length_cons, List.length_nil]; omega) fun E hE => ⟨hE, .inr hk⟩⟩
  refine ift.of (fun h => ?_) (fun n1 => ?_)
  ·have hk : v.k = 1 := by simpa using h
   rw [if_neg (by rw [hk]; decide), List.append_nil]
   exact ⟨hD, .inl hk⟩
  have m1 : v.k ≠ 1 := by simpa using n1
  have m2 : v.k ≠ 2 := by simpa using n2
  rw [if_neg m1, if_neg m2] at hl k
  rw [if_neg (fun h => h.elim m1 m2)] at hok
  refine ift.of (fun h => ?_) (fun n4 => ?_)
  ·have hk : v.k = 4 := by simpa using h
   rw [if_neg (by rw [hk]; decide), if_pos hk] at hok
   simp only [Bool.and_eq_true, decide_eq_true_eq] at hok
   have hl1 := hok.1.2
   have h0 : 0 < v.a.length := by omega
   rw [if_pos hk, Qow rfl hl1 h0] at hl k
   simp only [List.length_append, List.length_cons, List.length_nil] at hl
   refine fS (hD.le _ _ h1) rfl ?_
   rw [en.1]
   refine Ww.texts [v.r, [32, 61, 32]] hD (by simp; omega) fun E hE => fL (hE.le _ _ h1) rfl ?_
   refine SlIs.ld hs (hAF.trans hE.le) Qbw (by omega) (i := 0) rfl h0 fun y hy => ?_
   refine ews hFm hok.2 _ (List.getElem_mem h0) hy hAF hE (by simp; omega) fun E2 h2 => k E2 ?_
   have := h2.down hF
   simpa using this
  ·have m4 : v.k ≠ 4 := by simpa using n4
   by_cases m3 : v.k = 3
   ·rw [if_pos m3] at hok
    simp only [Bool.and_eq_true, decide_eq_true_eq] at hok
    have hl1 := hok.1.2
    have h0 : 0 < v.a.length := by omega
    rw [if_neg m4] at hl k
    have hbk : isMk v.a = decide (v.a[0].k = 5) := by
     generalize v.a = l at *
     cases l with
     | nil => simp at h0
     | cons w l => rfl
    refine ⟨fun _ E => K E, ?_, fun _ E h => h⟩
    refine fL (hD.le _ _ h1) rfl ?_
    refine SlIs.fI hs (hAF.trans hD.le) Qbw (by omega) (i := 0) (j := 0) rfl h0 (f := fun y => y.Kind) (fun _ => rfl) fun y hy => ?_
    rw [(Qa6.1 hy).1]
    refine ift.of (fun h => fL (hD.le _ _ h1) rfl ?_) (fun h => fL (hD.le _ _ h1) rfl ?_)
    ·have hp : isMk v.a = true := by rw [hbk]; exact decide_eq_true (by simpa using h)
     rw [if_pos hp] at hl k
     simp only [List.length_append, List.length_cons, List.length_nil] at hl
     exact brE hs (ews hFm hok.2) hAF hD (by omega) fun E2 h2 => k E2 (h2.down hF)
    ·have hp : ¬ isMk v.a = true := fun p => by rw [hbk] at p; rw [of_decide_eq_true p] at h; cases h
     rw [if_neg hp, Qow rfl hl1 h0] at hl k
     refine SlIs.ld hs (hAF.trans hD.le) Qbw (by omega) (i := 0) rfl h0 fun y hy => ?_
     exact ews hFm hok.2 _ (List.getElem_mem h0) hy hAF hD (by omega) fun E2 h2 => k E2 (h2.down hF)
   ·rw [if_neg m3, if_neg m4] at hok; cases hok
 rintro _ E ⟨hE, hk⟩
 rw [if_pos hk] at hok
 simp only [Bool.and_eq_true] at hok
 have key : t.length + ((if v.k = 2 then [110, 111, 116, 32] else []) ++ (v.r ++ 40 :: (exsT cm 0 v.a ++ [41]))).length ≤ 140737488355328 ∧ ∀ D, Ww A' D b (t ++ ((if v.k = 2 then [110, 111, 116, 32] else []) ++ (v.r ++ 40 :: (exsT cm 0 v.a ++ [41])))) → K D := by
  rcases hk with hk | hk
  ·rw [if_pos hk] at hl k
   rw [if_neg (by rw [hk]; decide)]
   exact ⟨hl, k⟩
  ·rw [if_neg (by rw [hk]; decide), if_pos hk] at hl k
   rw [if_pos hk]
   exact ⟨hl, k⟩
 obtain ⟨hl, k⟩ := key
 simp only [List.length_append, List.length_cons, List.length_nil] at hl
 refine ⟨F, hE.le, (b, 0), rfl, fS h1 rfl ?_⟩
 rw [en.1]
 refine hE.str (by simp only [List.length_append]; omega) fun E2 h2 => ⟨h2.le, fL (h2.le _ _ h1) rfl ?_⟩
 refine brE hs (ews hFm hok.2) hAF h2 (by simp only [List.length_append]; omega) fun E3 h3 => k E3 ?_
 have := h3.down hF
 simpa using this
theorem Qqm (hFm : FmtC C) {l : List LiV} {s : Sl} {A' B : Heap} {t : Str} {K : Heap → Prop} (hok : l.all liOk = true) (hs : LiL A s l) (hA : A.le A') (hW : Ww A' B b t) (hl : t.length + (boT l).length ≤ 140737488355328) (k : ∀ D, Ww A' D b (t ++ boT l) → K D) :
 QaU C (some (b, 0)) s [44, 32] (.func (.func 37) (List.toArray [pv (some (b, 0))]) (List.toArray []) : Value) K B :=
 Qq4 (hs.le hA fun _ _ _ h => h) hW (f := liT) (fun w hw y D u Φ hW hR hl hk => ⟨_, [pv (some (b, 0))], [], rfl, Qi2, Qud hFm (List.all_eq_true.1 hok w hw) hR hA hW hl hk⟩) hl k
theorem Qpf {v : FdV} {A' B : Heap} {x : Qc} {t : Str} {K : Heap → Prop} (hx : FdIs A v x) (hA : A.le A') (hW : Ww A' B b t) (hl : t.length + (fdT v).length ≤ 140737488355328) (k : ∀ D, Ww A' D b (t ++ fdT v) → K D) : Qfg C (some (b, 0)) x K B := by
 obtain ⟨en, ht⟩ := hx
 apply Qib
 unfold Qfc
 refine hW.box fun b1 F D hF h1 hD => ?_
 have hAF := hA.trans hF
 unfold fdT at hl k
 simp only [List.length_append] at hl
 refine ⟨fun _ E => Ww F E b (t ++ if v.n = [] then [] else v.n ++ [58, 32]), ?_, ?_⟩
 ·refine fS (hD.le _ _ h1) rfl ?_
  rw [en.1]
  refine ift.of (fun h => fS (hD.le _ _ h1) rfl ?_) (fun h => ?_)
  ·have hn : ¬ v.n = [] := fun e => by rw [e] at h; cases h
   rw [if_neg hn] at hl ⊢
   simp only [List.length_append, List.length_cons, List.length_nil] at hl
   rw [en.1]
   refine Ww.texts [v.n, [58, 32]] hD (by simp; omega) fun E hE => ?_
   simpa using hE
  ·have hn : v.n = [] := by simpa using h
   rw [if_pos hn, List.append_nil]; exact hD
 rintro _ E hE
 refine fT (hE.le _ _ h1) Qtl (Qvk v.t ht hAF hE (by simp only [List.length_append]; omega) fun E2 h2 => k E2 ?_)
 rw [← List.append_assoc]; exact h2.down hF
theorem QnY {l : List FdV} {s : Sl} {A' B : Heap} {t : Str} {K : Heap → Prop} (hs : FdL A s l) (hA : A.le A') (hW : Ww A' B b t) (hl : t.length + (fdsT l).length + 2 ≤ 140737488355328) (k : ∀ D, Ww A' D b (t ++ 40 :: (fdsT l ++ [41])) → K D) :
 Qai C (some (b, 0)) s (.func (.func 105) (List.toArray [pv (some (b, 0))]) (List.toArray []) : Value) K B :=
 QpT (hs.le hA fun _ _ _ h => h) hW (f := fdT) (fun w hw y D u Φ hW hR hl hk => ⟨_, [pv (some (b, 0))], [], rfl, Qiw, Qpf hR hA hW hl hk⟩) hl k
theorem Qsh {p : Bool} {B : Heap} {t : Str} {K : Heap → Prop} (hW : Ww A B b t) (hl : t.length + (pubT p).length ≤ 140737488355328) (k : ∀ D, Ww A D b (t ++ pubT p) → K D) : QdV C (some (b, 0)) p K B := by
 apply QkW
 unfold Qg7
 cases p with
 | true => exact QbT rfl ⟨(b, 0), rfl, hW.str hl fun D hD => k D hD⟩
 | false => exact QbC rfl (k B (by simpa [pubT] using hW))
theorem QsM {v : CnV} {b1 : Nat} {A' B : Heap} {x : Qe} {t : Str} {K : Heap → Prop} (hx : CnIs A v x) (hA : A.le A') (hW : Ww A' B b t) (hp : A' b1 = some (true, .row [pv (some (b, 0))])) (hl : t.length + (cnT v).length ≤ 140737488355328) (k : ∀ D, Ww A' D b (t ++ cnT v) → K D) : Qe1 C x (b1, 0) K B := by
 obtain ⟨en, hs⟩ := hx
 apply QhH
 unfold QeN
 refine hW.box fun b4 F D hF h4 hD => ?_
 have hAF := hA.trans hF
 have hp' := hF _ _ hp
 unfold cnT at hl k
 simp only [List.length_append] at hl
 refine ⟨F, hD.le, fP0 hp' ⟨(b, 0), rfl, fS h4 rfl ?_⟩⟩
 rw [en.1]
 refine hD.str (by omega) fun E hE => ⟨hE.le, fL (hE.le _ _ h4) rfl ?_⟩
 rw [hs.len]
 refine ift.of (fun h => ?_) (fun h => ?_)
 ·have h0 : ¬ v.f.length = 0 := by have := of_decide_eq_true h; omega
  rw [if_neg h0] at hl k
  simp only [List.length_append, List.length_cons, List.length_nil] at hl
  refine fP0 (hE.le _ _ hp') (fL (hE.le _ _ h4) rfl (fP0 (hE.le _ _ hp') ?_))
  refine QnY hs hAF hE (by simp only [List.length_append]; omega) fun E2 h2 => k E2 ?_
  rw [← List.append_assoc]; exact h2.down hF
 ·have h0 : v.f.length = 0 := by have := of_decide_eq_false h; omega
  rw [if_pos h0, List.append_nil] at k
  exact k E (hE.down hF)
theorem Qqc {v : TdV} {A' B : Heap} {x : Qg} {t : Str} {K : Heap → Prop} (hx : TdIs A v x) (hA : A.le A') (hW : Ww A' B b t) (hl : t.length + (tdT v).length ≤ 140737488355328) (k : ∀ D, Ww A' D b (t ++ tdT v) → K D) : QfF C (some (b, 0)) x K B := by
 obtain ⟨ep, en, hps, hcs⟩ := hx
 apply QiU
 unfold Qfp
 refine hW.box fun b1 F1 D1 hF1 h1 hD1 => hD1.box fun b3 F D hF hb3 hD => ?_
 have hb1 := hF _ _ h1
 have hAF := (hA.trans hF1).trans hF
 unfold tdT at hl k
 simp only [List.length_append, List.length_cons, List.length_nil] at hl
 refine fP0 (hD.le _ _ hb1) (fB (hD.le _ _ hb3) rfl ?_)
 rw [ep]
 refine Qsh hD (by omega) fun E1 e1 => fP0 (e1.le _ _ hb1) (fS (e1.le _ _ hb3) rfl ?_)
 rw [en.1]
 refine Ww.texts [[116, 121, 112, 101, 32], v.n] e1 (by simp only [List.length_append]; simp; omega) fun E2 e2 => ?_
 refine ⟨fun _ E => Ww F E b (t ++ pubT v.p ++ [[116, 121, 112, 101, 32], v.n].flatten ++ (if v.ps.length = 0 then [] else 40 :: (jo [44, 32] id 0 v.ps ++ [41]))), ?_, ?_⟩
 ·refine fL (e2.le _ _ hb3) rfl ?_
  rw [SlIs.len hps]
  refine ift.of (fun h => ?_) (fun h => ?_)
  ·have h0 : ¬ v.ps.length = 0 := by have := of_decide_eq_true h; omega
   rw [if_neg h0] at hl ⊢
   simp only [List.length_append, List.length_cons, List.length_nil] at hl
   refine fP0 (e2.le _ _ hb1) (fL (e2.le _ _ hb3) rfl ?_)
   refine Qrz (StL.le hAF hps) e2 (fun w hw D u Φ hW hl hk => ⟨_, [], [pv (some (b1, 0))], rfl, QhW, ?_⟩) (by simp; omega) fun E3 e3 => e3
   show Qe0 C w (b1, 0) Φ D
   apply QhG
   unfold QeM
   exact fP0 (hW.le _ _ hb1) ⟨(b, 0), rfl, hW.str hl fun D2 h2 => hk D2 h2⟩
  ·have h0 : v.ps.length = 0 := by have := of_decide_eq_false h; omega
   rw [if_pos h0, List.append_nil]; exact e2
 rintro _ E3 e3
 refine fP0 (e3.le _ _ hb1) ⟨(b, 0), rfl, e3.str (by simp only [List.length_append, List.length_cons, List.flatten_cons, List.flatten_nil, List.length_nil]; omega) fun E4 e4 => fP0 (e4.le _ _ hb1) (fL (e4.le _ _ hb3) rfl ?_)⟩
 refine Qq3 (hcs.le hAF fun _ _ _ h => h) e4 (f := cnT) (fun w hw y D u Φ hW hR hl hk => ⟨_, [], [pv (some (b1, 0))], rfl, QhX, QsM hR hAF hW hb1 hl hk⟩) (by simp only [List.length_append, List.length_cons, List.flatten_cons, List.flatten_nil, List.length_nil]; omega) fun E5 e5 => fP0 (e5.le _ _ hb1) ⟨(b, 0), rfl, ?_⟩
 refine e5.byte (c := 10) rfl (by simp only [List.length_append, List.length_cons, List.flatten_cons, List.flatten_nil, List.length_nil]; omega) fun E6 e6 => k E6 ?_
 have := (e6.down hF).down hF1
 simpa using this
theorem Qq8 {v : RdV} {A' B : Heap} {x : Qh} {t : Str} {K : Heap → Prop} (hx : RdIs A v x) (hA : A.le A') (hW : Ww A' B b t) (hl : t.length + (rdT v).length ≤ 140737488355328) (k : ∀ D, Ww A' D b (t ++ rdT v) → K D) : Qf1 C (some (b, 0)) x K B := by
 obtain ⟨ep, ei, en, hs⟩ := hx
 apply Qja
 unfold QfO
 refine hW.box fun b1 F D hF h1 hD => fB (hD.le _ _ h1) rfl ?_
 have hAF := hA.trans hF
 rw [ep]
 unfold rdT at hl k
 simp only [List.length_append, List.length_cons, List.length_nil] at hl
 refine Qsh hD (by omega) fun E1 e1 => ?_
 refine jS (if v.i then [105, 110, 112, 117, 116, 32] else [114, 101, 108, 32]) E1 (fB (e1.le _ _ h1) rfl ?_) ?_
 ·rw [ei]
  refine ift.of (fun h => ⟨rfl, by rw [if_pos h]⟩) (fun h => ⟨rfl, by rw [h]; rfl⟩)
 refine fS (e1.le _ _ h1) rfl ?_
 rw [en.1]
 refine Ww.texts [if v.i then [105, 110, 112, 117, 116, 32] else [114, 101, 108, 32], v.n] e1 (by simp only [List.length_append, List.flatten_cons, List.flatten_nil, List.length_nil]; omega) fun E2 e2 => fL (e2.le _ _ h1) rfl ?_
 refine QnY hs hAF e2 (by simp only [List.length_append, List.flatten_cons, List.flatten_nil, List.length_nil]; omega) fun E3 e3 => ⟨(b, 0), rfl, e3.byte (c := 10) rfl (by simp only [List.length_append, List.length_cons, List.flatten_cons, List.flatten_nil, List.length_nil]; omega) fun E4 e4 => k E4 ?_⟩
 have := e4.down hF
 simpa using this
def joi (f : Nat → Str) : Nat → Str
 | 0 => []
 | n + 1 => joi f n ++ (cm n ++ f n)
theorem Qqy (f : Nat → Str) : ∀ {n m : Nat}, n ≤ m → (joi f n).length ≤ (joi f m).length
 | n, 0, h => by rw [Nat.le_zero.1 h]; exact Nat.le_refl _
 | n, m + 1, h => by
  rcases Nat.lt_or_ge n (m + 1) with h1 | h1
  ·have := Qqy f (n := n) (m := m) (by omega)
   simp only [joi, List.length_append]; omega
  ·rw [show n = m + 1 by omega]; exact Nat.le_refl _
theorem Qo6 : ∀ (gs : List Str) (xs : List ExV) (j : Nat) (g : Str) (x : ExV), gs.length = xs.length → agsT j (gs ++ [g]) (xs ++ [x]) = agsT j gs xs ++ (cm (j + xs.length) ++ agT g x)
 | [], [], j, g, x, _ => by simp [agsT]
 | [], _ :: _, j, g, x, h => by simp at h
 | _ :: _, [], j, g, x, h => by simp at h
 | g' :: gs, x' :: xs, j, g, x, h => by
  simp only [List.cons_append, agsT, Qo6 gs xs (j + 1) g x (by simpa using h), List.append_assoc, List.length_cons]
  rw [show j + 1 + xs.length = j + (xs.length + 1) by omega]
theorem Qqg {gs : List Str} {xs : List ExV} {f : Nat → Str} (hl : gs.length = xs.length) (hf : ∀ (i : Nat) (h1 : i < gs.length) (h2 : i < xs.length), f i = agT gs[i] xs[i]) : ∀ n, n ≤ xs.length → joi f n = agsT 0 (gs.take n) (xs.take n)
 | 0, _ => rfl
 | n + 1, h => by
  rw [List.take_add_one, List.take_add_one, List.getElem?_eq_getElem (by omega), List.getElem?_eq_getElem (by omega), Option.toList_some, Option.toList_some, Qo6 _ _ _ _ _ (by simp; omega), joi, Qqg hl hf n (by omega), hf n (by omega) (by omega), List.length_take, Nat.min_eq_left (by omega), Nat.zero_add]
theorem lsq {A B : Heap} {q : Nat} {α : Type} {R : α → Qa → Prop} {s : Sl} {l : List α} {e : Value} {f : Nat → Str} {t : Str} {K : Heap → Prop} (hs : SlIs R Qa.c A s l) (hW : Ww A B b t) (h0 : B q = some (true, .row [.int .i64 0]))
 (he : ∀ (i : Nat) (hi : i < l.length) (x : Qa) (D : Heap) (u : Str) (Φ : Heap → Prop), Ww A D b u → D q = some (true, .row [.int .i64 (i : Int)]) → R l[i] x → u.length + (f i).length ≤ 140737488355328 → (∀ D2, Ww A D2 b (u ++ f i) → D2 q = some (true, .row [.int .i64 ((i + 1 : Nat) : Int)]) → Φ D2) → callU Tryz.prog C e [.agg (Qa.c x).toArray] D (fun v H31 => v = .tuple #[] ∧ Φ H31))
 (hl : t.length + (joi f l.length).length ≤ 140737488355328) (k : ∀ D, Ww A D b (t ++ joi f l.length) → K D) : Qa0 C (some (b, 0)) s [44, 32] e K B := by
 have hqb : q ≠ b := fun e' => by
  rw [e'] at h0
  rcases hW.bl with h | ⟨_, h⟩
  ·rw [h] at h0; injection h0 with h0; injection h0 with _ h0; cases h0
  ·rw [h] at h0; injection h0 with h0; injection h0 with _ h0; cases h0
 apply QfA
 unfold QdJ
 have hlen := SlIs.len hs
 have hbd := SlIs.bd hs
 refine ⟨fun y D => ∃ i : Nat, y = (i : Int) ∧ i ≤ l.length ∧ Ww A D b (t ++ joi f i) ∧ D q = some (true, .row [.int .i64 (i : Int)]), fun y _ => l.length - y.toNat, ⟨0, rfl, Nat.zero_le _, by simpa [joi] using hW, h0⟩, ?_⟩
 rintro _ D ⟨i, rfl, hi, hD, hDq⟩
 rw [hlen]
 refine ift.of (fun h => ?_) (fun h => ?_)
 ·have hlt : i < l.length := by have := of_decide_eq_true h; omega
  have hp := Qqy f (n := i + 1) (m := l.length) (by omega)
  simp only [joi, List.length_append] at hp
  refine SlIs.ld hs hD.le Qbw (by omega) rfl hlt fun x hx => ?_
  intro b13 n13
  refine nwT rfl ?_
  have l13 := Heap.le_put n13 (g := .row (Qa.c x)) (m := true)
  have c13 : (D.put b13 (.row (Qa.c x))) b13 = some (true, .row (Qa.c x)) := Heap.put_same ..
  have hD2 := hD.up l13
  have hDq2 := l13 _ _ hDq
  generalize D.put b13 (.row (Qa.c x)) = D2 at *
  obtain ⟨hF, hAF⟩ := hD2.full
  have hbb : b13 ≠ b := fun e' => by
   obtain ⟨g, hg⟩ := hD.bl.some
   rw [← e', n13] at hg; cases hg
  refine ⟨fun _ E => Ww (D2.del b) E b (t ++ joi f i ++ cm i), ?_, ?_⟩
  ·refine ift.of (fun hp0 => ?_) (fun hp0 => ?_)
   ·have hi0 : i ≠ 0 := by have := of_decide_eq_true hp0; omega
    have e2 : cm i = [44, 32] := by cases i with
     | zero => exact absurd rfl hi0
     | succ i => rfl
    rw [e2] at hp ⊢
    refine ⟨_, rfl, hF.str (by simp only [List.length_append]; omega) fun E hE => hE⟩
   ·have hi0 : i = 0 := by have := of_decide_eq_false hp0; omega
    subst hi0
    simpa [cm] using hF
  ·rintro _ E hE
   have hc : E b13 = some (true, .row (Qa.c x)) := hE.le _ _ (by rw [Heap.del_ne _ hbb]; exact c13)
   have hq : E q = some (true, .row [.int .i64 (i : Int)]) := hE.le _ _ (by rw [Heap.del_ne _ hqb]; exact hDq2)
   refine bxT (c := Qa.c) hc (he i hlt x E _ _ (hE.down hAF) hq hx (by simp only [List.length_append]; omega) fun D3 h3 q3 => ?_)
   rw [QM (by omega) (by omega)]
   refine ⟨⟨i + 1, by omega, by omega, ?_, q3⟩, by first | omega | (dsimp only; omega)⟩
   simp only [joi]
   simpa using h3
 ·have hie : i = l.length := by have := of_decide_eq_false h; omega
  subst hie
  exact k D hD
theorem Qs8 {A' D : Heap} {w : ExV} {y : Qa} {b1 b3 q i : Nat} {gs : List Str} {r : Qk} {u : Str} {K : Heap → Prop} (he : EW C A b w) (hy : ExIs A w y) (hA : A.le A') (hW : Ww A' D b u) (hDq : D q = some (true, .row [.int .i64 (i : Int)])) (hAq : A' q = none)
 (h1 : A' b1 = some (true, .row [pv (some (b, 0))])) (h3 : A' b3 = some (true, .row (Qk.c r))) (hg : StL A r.Aggs gs) (hi : i < gs.length) (hl : u.length + (agT gs[i] w).length ≤ 140737488355328)
 (k : ∀ D2, Ww A' D2 b (u ++ agT gs[i] w) → D2 q = some (true, .row [.int .i64 ((i + 1 : Nat) : Int)]) → K D2) : Qd7 C y (b3, 0) (q, 0) (b1, 0) K D := by
 have hqb : q ≠ b := fun e' => by
  rw [e'] at hDq
  rcases hW.bl with h | ⟨_, h⟩
  ·rw [h] at hDq; injection hDq with h0; injection h0 with _ h0; cases h0
  ·rw [h] at hDq; injection hDq with h0; injection h0 with _ h0; cases h0
 have hbd := SlIs.bd hg
 apply Qjb
 unfold QfP
 intro b4 n4
 have l4 := Heap.le_put n4 (g := .row (Qa.c y)) (m := true)
 have c4 : (D.put b4 (.row (Qa.c y))) b4 = some (true, .row (Qa.c y)) := Heap.put_same ..
 have hW2 := hW.up l4
 have hq2 := l4 _ _ hDq
 have h4q : b4 ≠ q := fun e => by rw [e, hDq] at n4; cases n4
 have hbb : b4 ≠ b := fun e' => by
  obtain ⟨g, hg⟩ := hW.bl.some
  rw [e', hg] at n4; cases n4
 generalize D.put b4 (.row (Qa.c y)) = D2 at *
 refine fL (hW2.le _ _ h3) rfl ⟨(i : Int), by rw [QbU hq2]; rfl, ?_⟩
 refine SlIs.at_ hg (hA.trans hW2.le) (z := 1) (fun _ => rfl) (by omega) rfl hi fun p z hz hr => ⟨z, hr 0 _ rfl, ⟨(i : Int), by rw [QbU hq2]; rfl, ?_⟩⟩
 rw [hz.1]
 dsimp only
 rw [QM (by omega) (by omega)]
 refine ⟨_, hq2, Nat.zero_lt_one, ?_⟩
 dsimp only
 have hW3 : Ww A' (D2.put q (.row [.int .i64 ((i + 1 : Nat) : Int)])) b u := ⟨hW2.le.put _ _ hAq, hW2.nb, by
  have := hW2.bl
  unfold IsB at this ⊢
  rw [Heap.put_ne _ _ _ (Ne.symm hqb)]; exact this⟩
 have q3 : (D2.put q (.row [.int .i64 ((i + 1 : Nat) : Int)])) q = some (true, .row [.int .i64 ((i + 1 : Nat) : Int)]) := Heap.put_same ..
 have c43 : (D2.put q (.row [.int .i64 ((i + 1 : Nat) : Int)])) b4 = some (true, .row (Qa.c y)) := by rw [Heap.put_ne _ _ _ h4q]; exact c4
 rw [show (List.set [Value.int .i64 (i : Int)] 0 (.int .i64 ((i : Int) + 1))) = [.int .i64 ((i + 1 : Nat) : Int)] from by simp]
 generalize D2.put q (.row [.int .i64 ((i + 1 : Nat) : Int)]) = D3 at *
 obtain ⟨hG, hAG⟩ := hW3.full
 have gq : (D3.del b) q = some (true, .row [.int .i64 ((i + 1 : Nat) : Int)]) := by rw [Heap.del_ne _ hqb]; exact q3
 have g4 : (D3.del b) b4 = some (true, .row (Qa.c y)) := by rw [Heap.del_ne _ hbb]; exact c43
 generalize D3.del b = G at *
 have g1 := hAG _ _ h1
 unfold agT at hl k
 refine ift.of (fun h => ?_) (fun h => ?_)
 ·have h0 : gs[i] = [] := by simpa using h
  rw [if_pos h0] at hl k
  refine fP0 (hG.le _ _ g1) (bxT (hG.le _ _ g4) (he hy (hA.trans hAG) hG (by omega) fun D4 h4 => k D4 (h4.down hAG) (h4.le _ _ gq)))
 ·have h0 : ¬ gs[i] = [] := fun e => by rw [e] at h; cases h
  rw [if_neg h0] at hl k
  simp only [List.length_append, List.length_cons, List.length_nil] at hl
  refine fP0 (hG.le _ _ g1) (Ww.texts [gs[i], [40]] hG (by simp; omega) fun E2 e2 => fP0 (e2.le _ _ g1) (bxT (e2.le _ _ g4) ?_))
  refine he hy (hA.trans hAG) e2 (by simp; omega) fun E3 e3 => fP0 (e3.le _ _ g1) ⟨(b, 0), rfl, e3.byte (c := 41) rfl (by simp; omega) fun E4 e4 => k E4 ?_ (e4.le _ _ gq)⟩
  have := e4.down hAG
  simpa using this
theorem Qs9 (hFm : FmtC C) {v : RuV} (hok : ruOk v = true) {A' B : Heap} {x : Qk} {t : Str} {K : Heap → Prop} (hx : RuIs A v x) (hA : A.le A') (hW : Ww A' B b t) (hl : t.length + (ruT v).length ≤ 140737488355328) (k : ∀ D, Ww A' D b (t ++ ruT v) → K D) : QgT C (some (b, 0)) x K B := by
 obtain ⟨en, ha, hg, hb⟩ := hx
 unfold ruOk at hok
 simp only [Bool.and_eq_true, decide_eq_true_eq] at hok
 obtain ⟨⟨⟨⟨⟨o1, o2⟩, o3⟩, o4⟩, o5⟩, o6⟩ := hok
 apply QkG
 unfold QgI
 refine hW.box fun b1 F1 D1 hF1 h1 hD1 => hD1.box fun b3 F D hF hb3 hD => ?_
 have hb1 := hF _ _ h1
 have hAF := (hA.trans hF1).trans hF
 unfold ruT at hl k
 simp only [List.length_append, List.length_cons, List.length_nil] at hl
 refine ⟨F, hD.le, fP0 hb1 ⟨(b, 0), rfl, fS hb3 rfl ?_⟩⟩
 rw [en.1]
 refine hD.str (by omega) fun E1 e1 => ⟨e1.le, ?_⟩
 intro q nq
 have hqb : q ≠ b := fun e' => by
  obtain ⟨g, hg⟩ := e1.bl.some
  rw [e', hg] at nq; cases nq
 have hFq := e1.le.none nq
 refine ⟨_, Heap.put_same .., Nat.zero_lt_one, ?_⟩
 dsimp only
 rw [Heap.put_put]
 have e2 : Ww F (E1.put q (.row [.int .i64 0])) b (t ++ v.r) := e1.up (Heap.le_put nq)
 have q2 : (E1.put q (.row [.int .i64 0])) q = some (true, .row [.int .i64 0]) := Heap.put_same ..
 rw [show List.set [Value.int .i64 0] 0 (.int .i64 0) = [.int .i64 0] from rfl]
 generalize E1.put q (.row [.int .i64 0]) = E2 at *
 refine fP0 (e2.le _ _ hb1) (fL (e2.le _ _ hb3) rfl ?_)
 apply Qed
 unfold Qcd
 have hfj := Qqg (gs := v.g) (xs := v.a) (f := fun i => if h : i < v.g.length ∧ i < v.a.length then agT v.g[i] v.a[i] else []) o3 (fun i h1 h2 => dif_pos ⟨h1, h2⟩) v.a.length (Nat.le_refl _)
 rw [List.take_length, List.take_of_length_le (by omega)] at hfj
 refine ⟨(b, 0), rfl, e2.byteX (c := 40) rfl (by simp only [List.length_append]; omega) fun E3 e3 o3' => ?_⟩
 refine lsq (f := fun i => if h : i < v.g.length ∧ i < v.a.length then agT v.g[i] v.a[i] else []) (ha.le hAF fun _ _ _ h => h) e3 (by rw [o3' _ hqb]; exact q2) (fun i hi y D u Φ hW hq hR hl hk => ?_) (by rw [hfj]; simp only [List.length_append, List.length_cons, List.length_nil]; omega) fun E4 e4 => ?_
 ·have hi2 : i < v.g.length := by omega
  rw [dif_pos ⟨hi2, hi⟩] at hl hk
  refine ⟨_, [], [pv (some (b3, 0)), pv (some (q, 0)), pv (some (b1, 0))], rfl, Qjq, ?_⟩
  show Qd7 C y (b3, 0) (q, 0) (b1, 0) Φ D
  exact Qs8 (ews hFm o4 _ (List.getElem_mem hi)) hR hAF hW hq hFq hb1 hb3 hg hi2 hl hk
 rw [hfj] at e4
 refine ⟨(b, 0), rfl, e4.byte (c := 41) rfl (by simp only [List.length_append, List.length_cons, List.length_nil]; omega) fun E5 e5 => ?_⟩
 refine ⟨fun _ E => Ww F E b (t ++ v.r ++ [40] ++ agsT 0 v.g v.a ++ [41] ++ (if v.b.length = 0 then [] else [32, 58, 45, 32] ++ boT v.b)), ?_, ?_⟩
 ·refine fL (e5.le _ _ hb3) rfl ?_
  rw [hb.len]
  refine ift.of (fun h => ?_) (fun h => ?_)
  ·have h0 : ¬ v.b.length = 0 := by have := of_decide_eq_true h; omega
   rw [if_neg h0] at hl ⊢
   simp only [List.length_append, List.length_cons, List.length_nil] at hl
   refine fP0 (e5.le _ _ hb1) ⟨(b, 0), rfl, e5.str (by simp only [List.length_append, List.length_cons, List.length_nil]; omega) fun E6 e6 => fP0 (e6.le _ _ hb1) (fL (e6.le _ _ hb3) rfl (fP0 (e6.le _ _ hb1) ?_))⟩
   refine Qqm hFm o5 hb hAF e6 (by simp only [List.length_append, List.length_cons, List.length_nil]; omega) fun E7 e7 => ?_
   simpa using e7
  ·have h0 : v.b.length = 0 := by have := of_decide_eq_false h; omega
   rw [if_pos h0, List.append_nil]; exact e5
 rintro _ E6 e6
 refine fP0 (e6.le _ _ hb1) ⟨(b, 0), rfl, e6.str (by simp only [List.length_append, List.length_cons, List.length_nil]; omega) fun E7 e7 => k E7 ?_⟩
 have := (e7.down hF).down hF1
 simpa using this
end
end
section
open Go Go.Proofs
theorem QtB {α : Type} (f : α → Str) : ∀ (i : Nat) (l : List α), jo [] f i l = (l.map f).flatten
 | i, [] => rfl
 | i, v :: l => by simp only [jo, QtB f (i + 1) l, List.map_cons, List.flatten_cons, ite_self, List.nil_append]
theorem QtD (m : MoV) : moT m = hdT m.n ++ (jo [] imT 0 m.im ++ (jo [] tdT 0 m.ty ++ (jo [] rdT 0 m.re ++ (jo [] ruT 0 m.ru ++ jo [] neT 0 m.ne)))) := by
 unfold moT moL
 simp only [List.flatten_cons, List.flatten_append, QtB]
section
variable {C : Ctx} {A H : Heap} {b : Nat}
theorem Qsf {v : Str} {b1 : Nat} {A' B : Heap} {x : Ql} {t : Str} {K : Heap → Prop} (hx : ImIs v x) (hW : Ww A' B b t) (hp : A' b1 = some (true, .row [pv (some (b, 0))])) (hl : t.length + (imT v).length ≤ 140737488355328) (k : ∀ D, Ww A' D b (t ++ imT v) → K D) : Qj1 C x (b1, 0) K B := by
 apply QmD
 unfold Qjz
 refine hW.box fun b4 F D hF h4 hD => ?_
 unfold imT at hl k
 simp only [List.length_append, List.length_cons, List.length_nil] at hl
 refine fP0 (hD.le _ _ (hF _ _ hp)) (fS (hD.le _ _ h4) rfl ?_)
 rw [hx.1]
 refine Ww.texts [[105, 109, 112, 111, 114, 116, 32], v, [10]] hD (by simp; omega) fun E hE => k E ?_
 have := hE.down hF
 simpa using this
theorem Qsg (hFm : FmtC C) {v : NeV} (hok : neOk v = true) {b1 : Nat} {A' B : Heap} {x : Qj} {t : Str} {K : Heap → Prop} (hx : NeIs A v x) (hA : A.le A') (hW : Ww A' B b t) (hp : A' b1 = some (true, .row [pv (some (b, 0))])) (hl : t.length + (neT v).length ≤ 140737488355328) (k : ∀ D, Ww A' D b (t ++ neT v) → K D) : Qj2 C x (b1, 0) K B := by
 unfold neOk at hok
 simp only [Bool.and_eq_true] at hok
 apply QmE
 unfold QjA
 refine hW.box fun b4 F D hF h4 hD => ?_
 have hp' := hF _ _ hp
 unfold neT at hl k
 simp only [List.length_append, List.length_cons, List.length_nil] at hl
 refine fP0 (hD.le _ _ hp') (fS (hD.le _ _ h4) rfl ?_)
 rw [hx.1.1]
 refine Ww.texts [[110, 101, 118, 101, 114, 32], v.n, [32, 58, 45, 32]] hD (by simp; omega) fun E hE => ?_
 refine fP0 (hE.le _ _ hp') (fL (hE.le _ _ h4) rfl (fP0 (hE.le _ _ hp') ?_))
 refine Qqm hFm hok.2 hx.2 (hA.trans hF) hE (by simp; omega) fun E2 h2 => fP0 (h2.le _ _ hp') ⟨(b, 0), rfl, ?_⟩
 refine h2.str (by simp; omega) fun E3 h3 => k E3 ?_
 have := h3.down hF
 simpa using this
theorem Qqe (hT : MaxC C) (hFm : FmtC C) {v : MoV} {x : Qi} {K : Str → Int → Heap → Prop} (hx : MoIs A v x) (hA : A.le H) (hb : moD v ≤ 4611686018427387904) (hl : moC v = 0 → (moT v).length ≤ 140737488355328) (k : ∀ D, H.le D → K (if moC v = 0 then moT v else []) (moC v) D) : Qew C x K H := by
 apply Qoe
 unfold Qlm
 refine box1 fun b1 H2 hle h1 => bxT h1 (QsD hT hx (hA.trans hle) hb ?_)
 refine ift.of (fun h => ?_) (fun h => ?_)
 ·have hc : ¬ moC v = 0 := by simpa using h
  have := k H2 hle
  rw [if_neg hc] at this; exact this
 have hc : moC v = 0 := by simpa using h
 have hl := hl hc
 have k := fun D hD => k D hD
 rw [if_pos hc, hc] at k
 have hok : moOk v = true := by
  unfold moC at hc
  split at hc
  ·cases hc
  ·split at hc
   ·cases hc
   ·rename_i h2; simpa using h2
 obtain ⟨en, him, hty, hre, hru, hne⟩ := hx
 unfold moOk at hok
 simp only [Bool.and_eq_true] at hok
 obtain ⟨⟨⟨⟨⟨o1, o2⟩, o3⟩, o4⟩, o5⟩, o6⟩ := hok
 rw [QtD] at hl k
 simp only [List.length_append] at hl
 intro b n8
 have hW0 : Ww H2 (H2.put b (.trow 87 0 [pv none, slv Sl.nil])) b [] := ⟨Heap.le_put n8, n8, IsB.new⟩
 generalize H2.put b (.trow 87 0 [pv none, slv Sl.nil]) = D0 at *
 intro b10 n10
 refine ⟨_, Heap.put_same .., Nat.zero_lt_one, ?_⟩
 dsimp only
 rw [Heap.put_put, show List.set [pv none] 0 (pv (some (b, 0))) = [pv (some (b, 0))] from rfl]
 have hbb : b10 ≠ b := fun e' => by
  obtain ⟨g, hg⟩ := hW0.bl.some
  rw [e', hg] at n10; cases n10
 obtain ⟨hW, hHF⟩ := (hW0.up (Heap.le_put n10 (g := .row [pv (some (b, 0))]))).full
 have hp : ((D0.put b10 (.row [pv (some (b, 0))])).del b) b10 = some (true, .row [pv (some (b, 0))]) := by rw [Heap.del_ne _ hbb]; exact Heap.put_same ..
 generalize D0.put b10 (.row [pv (some (b, 0))]) = D1 at *
 generalize D1.del b = F at *
 have h1' := hHF _ _ h1
 have hAF := (hA.trans hle).trans hHF
 refine fP0 (hW.le _ _ hp) (fS (hW.le _ _ h1') rfl ?_)
 rw [en.1]
 have hh : [[109, 111, 100, 117, 108, 101, 32], v.n, [10]].flatten = hdT v.n := by simp [hdT]
 refine Ww.texts [[109, 111, 100, 117, 108, 101, 32], v.n, [10]] hW (by rw [hh]; simp only [List.length_nil]; omega) fun E1 e1 => ?_
 rw [hh, List.nil_append] at e1
 refine fP0 (e1.le _ _ hp) (fL (e1.le _ _ h1') rfl ?_)
 refine Qr3 (him.le hAF fun _ _ _ h => h) e1 (f := imT) (fun w hw y D u Φ hW hR hl hk => ⟨_, [], [pv (some (b10, 0))], rfl, Qm4, Qsf hR hW hp hl hk⟩) (by omega) fun E2 e2 => ?_
 refine fP0 (e2.le _ _ hp) (fL (e2.le _ _ h1') rfl (fP0 (e2.le _ _ hp) ?_))
 refine Qq5 (hty.le hAF fun _ _ _ h => h) e2 (f := tdT) (fun w hw y D u Φ hW hR hl hk => ⟨_, [pv (some (b, 0))], [], rfl, Qi3, Qqc hR hAF hW hl hk⟩) (by simp only [List.length_append]; omega) fun E3 e3 => ?_
 refine fP0 (e3.le _ _ hp) (fL (e3.le _ _ h1') rfl (fP0 (e3.le _ _ hp) ?_))
 refine Qr4 (hre.le hAF fun _ _ _ h => h) e3 (f := rdT) (fun w hw y D u Φ hW hR hl hk => ⟨_, [pv (some (b, 0))], [], rfl, Qjp, Qq8 hR hAF hW hl hk⟩) (by simp only [List.length_append]; omega) fun E4 e4 => ?_
 refine fP0 (e4.le _ _ hp) (fL (e4.le _ _ h1') rfl (fP0 (e4.le _ _ hp) ?_))
 refine Qui (hru.le hAF fun _ _ _ h => h) e4 (f := ruT) (fun w hw y D u Φ hW hR hl hk => ⟨_, [pv (some (b, 0))], [], rfl, QkN, Qs9 hFm (List.all_eq_true.1 o5 w hw) hR hAF hW hl hk⟩) (by simp only [List.length_append]; omega) fun E5 e5 => ?_
 refine fP0 (e5.le _ _ hp) (fL (e5.le _ _ h1') rfl ?_)
 refine Qs2 (hne.le hAF fun _ _ _ h => h) e5 (f := neT) (fun w hw y D u Φ hW hR hl hk => ⟨_, [], [pv (some (b10, 0))], rfl, Qm5, Qsg hFm (List.all_eq_true.1 o6 w hw) hR hAF hW hp hl hk⟩) (by simp only [List.length_append]; omega) fun E6 e6 => ?_
 refine fP0 (e6.le _ _ hp) ⟨(b, 0), rfl, Qmv e6.bl liB87 (by simp only [List.length_append]; omega) ?_⟩
 have := k (E6.put b (.bld tyW tyE (hdT v.n ++ jo [] imT 0 v.im ++ jo [] tdT 0 v.ty ++ jo [] rdT 0 v.re ++ jo [] ruT 0 v.ru ++ jo [] neT 0 v.ne))) ((hle.trans hHF).trans (e6.le.put _ _ e6.nb))
 simpa only [List.append_assoc] using this
/-- what Expr tells -/
def exC (v : ExV) : Int := if exD v > 64 then 65 else if exOk false v = false then 4 else 0
theorem QtP (hT : MaxC C) (hFm : FmtC C) {v : ExV} {x : Qa} {K : Str → Int → Heap → Prop} (hx : ExIs A v x) (hA : A.le H) (hb : exD v ≤ 4611686018427387904) (hl : exC v = 0 → (exT v).length ≤ 140737488355328) (k : ∀ D, H.le D → K (if exC v = 0 then exT v else []) (exC v) D) : Qgt C x K H := by
 apply QoV
 unfold QlU
 refine box1 fun b1 H2 hle h1 => bxT h1 (Qqp v hx (hA.trans hle) hb ?_)
 unfold exC at hl k
 refine ift.of (fun h => ?_) (fun h => ?_)
 ·have hc : exD v > 64 := by have := of_decide_eq_true h; omega
  have := k H2 hle
  rw [if_pos hc] at this; exact this
 have hc : ¬ exD v > 64 := by have := of_decide_eq_false h; omega
 rw [if_neg hc] at hl k
 refine bxT h1 (QpZ hT hx (hA.trans hle) ?_)
 refine ift.of (fun h => ?_) (fun h => ?_)
 ·have ho : exOk false v = false := by simpa using h
  have := k H2 hle
  rw [if_pos ho] at this; exact this
 have ho : exOk false v = true := by simpa using h
 have hn : ¬ exOk false v = false := by rw [ho]; decide
 rw [if_neg hn] at hl
 simp only [if_neg hn] at k
 have hl := hl rfl
 intro b n8
 have hW0 : Ww H2 (H2.put b (.trow 87 0 [pv none, slv Sl.nil])) b [] := ⟨Heap.le_put n8, n8, IsB.new⟩
 generalize H2.put b (.trow 87 0 [pv none, slv Sl.nil]) = D0 at *
 refine bxT (hW0.le _ _ h1) (QpI hFm v ⟨false, ho⟩ hx (hA.trans hle) hW0 (by simpa using hl) fun E hE => ?_)
 rw [List.nil_append] at hE
 refine Qmv hE.bl liB87 (by omega) ?_
 have := k (E.put b (.bld tyW tyE (exT v))) (hle.trans (hE.le.put _ _ hE.nb))
 rw [if_pos trivial] at this; exact this
end
end
section
open Go Go.Proofs
/-- the sum of a list -/
def sL {α : Type} (f : α → Nat) : List α → Nat
 | [] => 0
 | v :: l => f v + sL f l
theorem Qnh {α : Type} (f : α → Nat) : ∀ (a b : List α), sL f (a ++ b) = sL f a + sL f b
 | [], b => by simp [sL]
 | v :: a, b => by simp only [List.cons_append, sL, Qnh f a b]; omega
theorem QgD {α : Type} {f : α → Nat} {l : List α} {i : Nat} (h : i < l.length) : sL f (l.take (i + 1)) = sL f (l.take i) + f l[i] := by
 rw [List.take_add_one, List.getElem?_eq_getElem h, Option.toList_some, Qnh]; simp [sL]
theorem Qix {α : Type} {f g : α → Nat} {l : List α} (h : ∀ v ∈ l, f v ≤ g v) : sL f l ≤ sL g l := by
 induction l with
 | nil => exact Nat.le_refl _
 | cons v l ih =>
  simp only [sL]
  have := h v (List.mem_cons_self ..)
  have := ih fun w hw => h w (List.mem_cons_of_mem _ hw)
  omega
theorem Qjr {α : Type} (c : Nat) (f : α → Nat) : ∀ l : List α, sL (fun v => c * f v) l = c * sL f l
 | [] => rfl
 | v :: l => by simp only [sL, Qjr c f l, Nat.mul_add]
theorem Qpt {α : Type} : ∀ l : List α, sL (fun _ => 1) l = l.length
 | [] => rfl
 | v :: l => by simp only [sL, Qpt l, List.length_cons]; omega
theorem Qjh {α : Type} {f g : α → Nat} {l : List α} (h : ∀ v ∈ l, f v ≤ g v) : mxL f l ≤ sL g l := by
 induction l with
 | nil => exact Nat.le_refl _
 | cons v l ih =>
  simp only [sL, mxL]
  have := h v (List.mem_cons_self ..)
  have := ih fun w hw => h w (List.mem_cons_of_mem _ hw)
  omega
mutual
def tySz : TyV → Nat
 | .mk _ a => tysSz a + 1
def tysSz : List TyV → Nat
 | [] => 0
 | v :: l => tySz v + tysSz l
end
mutual
def exSz : ExV → Nat
 | .mk _ _ _ a => exsSz a + 1
def exsSz : List ExV → Nat
 | [] => 0
 | v :: l => exSz v + exsSz l
end
theorem QoR (v : TyV) : tySz v = sL tySz v.a + 1 := by
 obtain ⟨n, a⟩ := v
 have : ∀ l, tysSz l = sL tySz l := fun l => by
  induction l with
  | nil => rfl
  | cons v l ih => simp only [tysSz, sL, ih]
 simp only [tySz, TyV.a, this]
theorem QlF (v : ExV) : exSz v = sL exSz v.a + 1 := by
 obtain ⟨k, n, u, a⟩ := v
 have : ∀ l, exsSz l = sL exSz l := fun l => by
  induction l with
  | nil => rfl
  | cons v l ih => simp only [exsSz, sL, ih]
 simp only [exSz, ExV.a, this]
def fdsSz (l : List FdV) : Nat := sL (fun f => tySz f.t) l
def liSz (x : LiV) : Nat := sL exSz x.a + 1
def cnSz (c : CnV) : Nat := fdsSz c.f + 1
def tdSz (t : TdV) : Nat := sL cnSz t.cs + t.ps.length + 1
def rdSz (r : RdV) : Nat := fdsSz r.f + 1
def ruSz (r : RuV) : Nat := sL exSz r.a + sL liSz r.b + 1
def neSz (n : NeV) : Nat := sL liSz n.b + 1
def moSz (m : MoV) : Nat := m.im.length + sL tdSz m.ty + sL rdSz m.re + sL ruSz m.ru + sL neSz m.ne
theorem Qvh : ∀ v, tyD v ≤ tySz v := by
 refine TyV.rec_ fun v ih => ?_
 rw [QtJ, QoR]
 have := Qjh ih
 omega
theorem QrK : ∀ v, exD v ≤ exSz v := by
 refine ExV.rec_ fun v ih => ?_
 rw [Qtw, QlF]
 have := Qjh ih
 omega
theorem QrP (l : List FdV) : fdsD l ≤ fdsSz l := Qjh fun v _ => Qvh v.t
theorem QuW (x : LiV) : liD x ≤ liSz x := by
 unfold liD liSz
 rw [Qot]
 have := Qjh (l := x.a) fun v _ => QrK v
 omega
theorem Qu2 (m : MoV) : moD m ≤ moSz m := by
 unfold moD moSz
 have h1 : mxL tdD m.ty ≤ sL tdSz m.ty := Qjh fun t _ => by
  unfold tdD tdSz
  have := Qjh (f := fun c : CnV => fdsD c.f) (g := cnSz) (l := t.cs) fun c _ => by unfold cnSz; have := QrP c.f; omega
  omega
 have h2 : mxL (fun r : RdV => fdsD r.f) m.re ≤ sL rdSz m.re := Qjh fun r _ => by unfold rdSz; have := QrP r.f; omega
 have hl : ∀ l : List LiV, lisD l ≤ sL liSz l := fun l => Qjh fun x _ => QuW x
 have h3 : mxL ruD m.ru ≤ sL ruSz m.ru := Qjh fun r _ => by
  unfold ruD ruSz
  rw [Qot]
  have := Qjh (l := r.a) fun v _ => QrK v
  have := hl r.b
  omega
 have h4 : mxL (fun n : NeV => lisD n.b) m.ne ≤ sL neSz m.ne := Qjh fun n _ => by unfold neSz; have := hl n.b; omega
 omega
theorem QmU {α : Type} {sep : Str} {f : α → Str} : ∀ (i : Nat) (l : List α), (jo sep f i l).length ≤ sL (fun v => (f v).length + sep.length) l
 | i, [] => Nat.le_refl _
 | i, v :: l => by
  have := QmU (sep := sep) (f := f) (i + 1) l
  simp only [jo, sL, List.length_append]
  by_cases h : i = 0
  ·rw [if_pos h]; simp only [List.length_nil]; omega
  ·rw [if_neg h]; omega
theorem Qou {sep : Nat → Str} (hs : ∀ i, (sep i).length ≤ 6) : ∀ (i : Nat) (l : List ExV), (exsT sep i l).length ≤ sL (fun v => (exT v).length + 6) l
 | i, [] => Nat.le_refl _
 | i, v :: l => by
  have := Qou hs (i + 1) l
  have := hs i
  simp only [exsT, sL, List.length_append]; omega
theorem QfV {s : Str} (h : namS s = true) : s.length ≤ 32 := by
 unfold namS nameS at h
 simp only [Bool.and_eq_true, decide_eq_true_eq] at h
 exact h.1.1.1.2
theorem Qmp {s : Str} (h : longS s = true) : s.length ≤ 65 := by
 unfold longS at h
 by_cases hm : (46 : UInt8) ∈ s
 ·obtain ⟨a, b, e1, e2⟩ := Qk1 s hm
  rw [e1, QlD a b e2] at h
  simp only [Bool.and_eq_true] at h
  have := QfV h.1
  have := QfV h.2
  rw [e1]; simp only [List.length_append, List.length_cons]; omega
 ·rw [QlE s hm] at h
  have := QfV h; omega
theorem Qsa {s : Str} (h : parS s = true) : s.length ≤ 33 := by
 cases s with
 | nil => simp
 | cons c t =>
  simp only [parS, Bool.and_eq_true] at h
  have := QfV h.2
  simp only [List.length_cons]; omega
theorem QsC {s : Str} (h : varS s = true) : s.length ≤ 32 := by
 unfold varS at h
 simp only [Bool.and_eq_true, decide_eq_true_eq] at h
 exact h.1.1.2
theorem Qu7 {s : Str} (h : 0 < arS s) : s.length ≤ 3 := by
 unfold arS at h
 split at h
 ·rename_i h1
  have h1 := List.contains_iff_mem.1 h1
  revert h1
  have : ∀ w ∈ opsW, w.length ≤ 3 := by decide
  exact this s
 ·split at h
  ·rename_i h1
   rcases h1 with h1 | h1
   ·rw [h1]; decide
   ·unfold funB at h1
    rcases of_decide_eq_true h1 with h1 | h1 | h1 | h1 <;> rw [h1] <;> decide
  ·omega
theorem QuE {s : Str} (h : agOk s = true) : s.length ≤ 5 := by
 rcases of_decide_eq_true h with h | h | h | h | h <;> rw [h] <;> decide
theorem Quw {n : Str} {m : Nat} (h : tyN n m = true) : n.length ≤ 65 := by
 unfold tyN at h
 split at h
 ·rename_i h1; rcases h1 with h1 | h1 | h1 | h1 <;> rw [h1] <;> decide
 ·split at h
  ·rename_i h1; rw [h1]; decide
  ·simp only [Bool.or_eq_true, Bool.and_eq_true] at h
   rcases h with h | h
   ·have := Qsa h.1; omega
   ·exact Qmp h.1
theorem Qux : ∀ v, tyOk v = true → (tyT v).length + 2 ≤ 100 * tySz v := by
 refine TyV.rec_ fun v ih h => ?_
 rw [Qsv, Bool.and_eq_true, List.all_eq_true] at h
 have h1 := Quw h.1
 have h2 : (jo [44, 32] tyT 0 v.a).length ≤ 100 * sL tySz v.a := by
  refine Nat.le_trans (QmU 0 v.a) ?_
  rw [← Qjr]
  exact Qix fun w hw => ih w hw (h.2 w hw)
 rw [QtK, QoR]
 simp only [List.length_append]
 have h3 : (if v.n = tupS then ([] : Str) else v.n).length ≤ 65 := by split <;> first | exact h1 | simp
 have h4 : (if v.n = tupS ∨ 0 < v.a.length then 40 :: (jo [44, 32] tyT 0 v.a ++ [41]) else []).length ≤ (jo [44, 32] tyT 0 v.a).length + 2 := by split <;> simp
 omega
theorem Qqt {nm : Bool} {l : List FdV} (h : ∀ f ∈ l, fdOk nm f = true) : (fdsT l).length ≤ 100 * (fdsSz l + l.length) := by
 unfold fdsT fdsSz
 refine Nat.le_trans (QmU 0 l) ?_
 rw [Nat.mul_add, ← Qjr, ← Qpt l, ← Qjr]
 have : ∀ l : List FdV, (∀ f ∈ l, fdOk nm f = true) → sL (fun v => (fdT v).length + ([44, 32] : Str).length) l ≤ sL (fun v => 100 * tySz v.t) l + sL (fun _ => 100 * 1) l := by
  intro l
  induction l with
  | nil => intro _; exact Nat.le_refl _
  | cons f l ih =>
   intro h
   have h1 := h f (List.mem_cons_self ..)
   have h2 := ih fun w hw => h w (List.mem_cons_of_mem _ hw)
   unfold fdOk at h1
   simp only [Bool.and_eq_true, Bool.or_eq_true] at h1
   have h3 := Qux f.t h1.2
   have h4 : f.n.length ≤ 32 := by
    rcases h1.1 with h1 | h1
    ·exact QfV h1
    ·rw [List.isEmpty_iff.1 h1.2]; simp
   simp only [sL]
   have h5 : (fdT f).length ≤ f.n.length + 2 + (tyT f.t).length := by
    unfold fdT
    simp only [List.length_append]
    split <;> simp
   simp only [List.length_cons, List.length_nil] at h2 ⊢
   omega
 exact this l h
theorem Qtk (v : TyV) : 1 ≤ tySz v := by rw [QoR]; omega
theorem QsT (v : ExV) : 1 ≤ exSz v := by rw [QlF]; omega
theorem QrQ (l : List FdV) : l.length ≤ fdsSz l := by
 rw [← Qpt l]; exact Qix fun v _ => Qtk v.t
theorem Qr8 (i : Nat) : (noSep i).length ≤ 6 := by simp [noSep]
theorem Qo9 (i : Nat) : (cm i).length ≤ 6 := by cases i <;> simp [cm]
theorem QuP (i : Nat) : (ifSep i).length ≤ 6 := by
 match i with
 | 0 => simp [ifSep]
 | 1 => simp [ifSep]
 | i + 2 => simp [ifSep]
section
variable {A : Heap}
theorem Quf {v : V} (hB : VB v) (h : litV v = true) : (showV v).length ≤ 17000 := by
 unfold litV at h
 simp only [Bool.and_eq_true, decide_eq_true_eq] at h
 have hm := (QqD v).1 h.2
 have := Qst v hB hm.2.1 hm.2.2
 have hl : v.l = [] := by
  rcases (QgV hm.2.1).2 with h1 | h1 | h1 | h1 | h1 | h1
  ·exact h1.2.2.2
  ·exact h1.2.2
  ·exact h1.2.2.2
  ·exact h1.2.2
  ·exfalso; have := h1.1; omega
  ·exfalso; have := h1.1; omega
 have hz : vsize v = 1 := by
  obtain ⟨k, n, s, l⟩ := v
  have hl : l = [] := hl
  subst hl; rfl
 rw [hz] at this; omega
theorem QpX {p : Bool} : ∀ v : ExV, ∀ x, ExIs A v x → exOk p v = true → (exT v).length + 6 ≤ 18000 * exSz v := by
 refine ExV.rec_ fun v ih x hx h => ?_
 obtain ⟨ek, en, hv, hB, hs⟩ := Qa6.1 hx
 have hsub := Qqq h
 have hl : ∀ {sep : Nat → Str}, (∀ i, (sep i).length ≤ 6) → (exsT sep 0 v.a).length ≤ 18000 * sL exSz v.a := fun hsep => by
  refine Nat.le_trans (Qou hsep 0 v.a) ?_
  rw [← Qjr]
  refine Qix fun w hw => ?_
  obtain ⟨i, hi, rfl⟩ := List.getElem_of_mem hw
  obtain ⟨xs, _, _, h3, _, h4⟩ := hs
  exact ih _ hw _ (h4 i _ _ (List.getElem?_eq_getElem hi) (List.getElem?_eq_getElem (by omega))) (hsub _ hw)
 rw [QlF]
 have hcm := hl Qo9
 rw [Qoo] at h
 by_cases h1 : v.k = 1
 ·rw [if_pos h1] at h
  simp only [Bool.and_eq_true] at h
  rw [exE1 h1]
  have := Quf hB h.1.1
  omega
 rw [if_neg h1] at h
 simp only [Bool.and_eq_true] at h
 have hN := h.1.1
 rcases QrL h1 hN with hk | hk | hk | hk | hk | hk | hk
 ·rw [exE2 hk]
  rw [hk, exN2, Bool.and_eq_true] at hN
  have := QsC hN.1; omega
 ·rw [exE3 hk]; simp only [List.length_cons, List.length_nil]; omega
 ·rw [exE4 hk]
  simp only [List.length_append, List.length_cons, List.length_nil]; omega
 ·rw [exE5 hk]
  rw [hk, exN5, Bool.and_eq_true] at hN
  have := Qmp hN.1
  have h4 : (if v.a.length = 0 then ([] : Str) else 40 :: (exsT cm 0 v.a ++ [41])).length ≤ (exsT cm 0 v.a).length + 2 := by split <;> simp
  simp only [List.length_append]; omega
 ·rw [exE6 hk]
  rw [hk, exN6] at hN
  simp only [Bool.and_eq_true, decide_eq_true_eq] at hN
  have ho := Qu7 hN.1.2
  have hno := hl Qr8
  have hop := hl (sep := opSep v.n) (fun i => by
   cases i with
   | zero => simp [opSep]
   | succ i => simp only [opSep, List.length_cons, List.length_append, List.length_nil]; omega)
  split
  ·simp only [List.length_append, List.length_cons, List.length_nil]; omega
  ·split
   ·simp only [List.length_append, List.length_cons, List.length_nil]; omega
   ·simp only [List.length_append, List.length_cons, List.length_nil]; omega
 ·rw [exE7 hk]
  rw [hk, exN7] at hN
  simp only [Bool.and_eq_true] at hN
  have := QfV hN.1.2
  have h4 : (if brkE v.a = true then 40 :: (exsT cm 0 v.a ++ [41]) else exsT cm 0 v.a).length ≤ (exsT cm 0 v.a).length + 2 := by split <;> simp
  simp only [List.length_append, List.length_cons]; omega
 ·rw [exE8 hk]
  have := hl QuP
  simp only [List.length_append, List.length_cons, List.length_nil]; omega
theorem Qp1 {p : Bool} {l : List ExV} {s : Sl} {sep : Nat → Str} (hs : ExL A s l) (hsep : ∀ i, (sep i).length ≤ 6) (hok : exsOk p l = true) : (exsT sep 0 l).length ≤ 18000 * sL exSz l := by
 refine Nat.le_trans (Qou hsep 0 l) ?_
 rw [← Qjr]
 refine Qix fun w hw => ?_
 rw [Qgv] at hok
 obtain ⟨i, hi, rfl⟩ := List.getElem_of_mem hw
 obtain ⟨xs, _, _, h3, _, h4⟩ := hs
 exact QpX _ _ (h4 i _ _ (List.getElem?_eq_getElem hi) (List.getElem?_eq_getElem (by omega))) (List.all_eq_true.1 hok _ hw)
theorem Qub {v : LiV} {x : Qd} (hx : LiIs A v x) (h : liOk v = true) : (liT v).length + 2 ≤ 18000 * liSz v := by
 obtain ⟨ek, en, hs⟩ := hx
 unfold liOk at h
 unfold liT liSz
 by_cases h12 : v.k = 1 ∨ v.k = 2
 ·rw [if_pos h12] at h
  simp only [Bool.and_eq_true] at h
  have h1 := Qp1 hs Qo9 h.2
  have h2 := Qmp h.1.1
  rcases h12 with hk | hk
  ·rw [if_pos hk]; simp only [List.length_append, List.length_cons, List.length_nil]; omega
  ·rw [if_neg (by rw [hk]; decide), if_pos hk]; simp only [List.length_append, List.length_cons, List.length_nil]; omega
 rw [if_neg h12] at h
 rw [if_neg fun e => h12 (.inl e), if_neg fun e => h12 (.inr e)]
 by_cases h3 : v.k = 3
 ·rw [if_pos h3] at h
  simp only [Bool.and_eq_true] at h
  have h1 := Qp1 hs Qo9 h.2
  rw [if_neg (by rw [h3]; decide)]
  split
  ·simp only [List.length_append, List.length_cons, List.length_nil]; omega
  ·omega
 rw [if_neg h3] at h
 by_cases h4 : v.k = 4
 ·rw [if_pos h4] at h
  simp only [Bool.and_eq_true] at h
  have h1 := Qp1 hs Qo9 h.2
  have h2 := QsC h.1.1
  rw [if_pos h4]; simp only [List.length_append, List.length_cons, List.length_nil]; omega
 ·rw [if_neg h4] at h; cases h
theorem SlIs.mem {α β : Type} {R : α → β → Prop} {c : β → List Value} {s : Sl} {l : List α} (hs : SlIs R c A s l) {v : α} (hv : v ∈ l) : ∃ x, R v x := by
 obtain ⟨i, hi, rfl⟩ := List.getElem_of_mem hv
 obtain ⟨xs, _, _, h3, _, h4⟩ := hs
 exact ⟨_, h4 i _ _ (List.getElem?_eq_getElem hi) (List.getElem?_eq_getElem (by omega))⟩
theorem Qrx {l : List LiV} {s : Sl} (hs : LiL A s l) (h : l.all liOk = true) : (boT l).length ≤ 18000 * sL liSz l := by
 unfold boT
 refine Nat.le_trans (QmU 0 l) ?_
 rw [← Qjr]
 refine Qix fun w hw => ?_
 obtain ⟨x, hx⟩ := hs.mem hw
 exact Qub hx (List.all_eq_true.1 h w hw)
theorem Qqh : ∀ (i : Nat) (gs : List Str) (xs : List ExV), (∀ g ∈ gs, g.length ≤ 5) → (agsT i gs xs).length ≤ sL (fun v => (exT v).length + 6) xs + 9 * gs.length
 | i, [], xs, _ => by simp [agsT]
 | i, g :: gs, [], _ => by simp [agsT]
 | i, g :: gs, x :: xs, h => by
  have h1 := Qqh (i + 1) gs xs fun g hg => h g (List.mem_cons_of_mem _ hg)
  have h2 := h g (List.mem_cons_self ..)
  have h3 := Qo9 i
  simp only [agsT, sL, List.length_append, List.length_cons]
  have h4 : (agT g x).length ≤ g.length + (exT x).length + 2 := by
   unfold agT
   split
   ·omega
   ·simp only [List.length_append, List.length_cons, List.length_nil]; omega
  omega
theorem Qus {v : RuV} {x : Qk} (hx : RuIs A v x) (h : ruOk v = true) : (ruT v).length ≤ 18000 * ruSz v := by
 obtain ⟨en, ha, hg, hb⟩ := hx
 unfold ruOk at h
 simp only [Bool.and_eq_true, decide_eq_true_eq] at h
 obtain ⟨⟨⟨⟨⟨o1, o2⟩, o3⟩, o4⟩, o5⟩, o6⟩ := h
 have h1 := Qmp o1
 have h2 := Qrx hb o5
 have h3 := Qqh 0 v.g v.a fun g hg => QuE (List.all_eq_true.1 o6 g hg)
 have h4 : sL (fun v => (exT v).length + 6) v.a ≤ 18000 * sL exSz v.a := by
  rw [← Qjr]
  refine Qix fun w hw => ?_
  rw [Qgv] at o4
  obtain ⟨x, hx⟩ := ha.mem hw
  exact QpX w x hx (List.all_eq_true.1 o4 w hw)
 unfold ruT ruSz
 have h5 : (if v.b.length = 0 then ([] : Str) else [32, 58, 45, 32] ++ boT v.b).length ≤ (boT v.b).length + 4 := by
  split
  ·simp
  ·simp only [List.length_append, List.length_cons, List.length_nil]; omega
 simp only [List.length_append, List.length_cons, List.length_nil]
 omega
theorem Quo {v : NeV} {x : Qj} (hx : NeIs A v x) (h : neOk v = true) : (neT v).length ≤ 18000 * neSz v := by
 unfold neOk at h
 simp only [Bool.and_eq_true] at h
 have h1 := QfV h.1.1
 have h2 := Qrx hx.2 h.2
 unfold neT neSz
 simp only [List.length_append, List.length_cons, List.length_nil]
 omega
theorem Quv {v : TdV} (h : tdOk v = true) : (tdT v).length ≤ 18000 * tdSz v := by
 unfold tdOk at h
 simp only [Bool.and_eq_true, decide_eq_true_eq] at h
 obtain ⟨⟨⟨⟨⟨o1, o2⟩, o3⟩, o4⟩, o5⟩, o6⟩ := h
 have h1 := QfV o1
 have h2 : (jo [44, 32] id 0 v.ps).length ≤ 100 * v.ps.length := by
  refine Nat.le_trans (QmU 0 v.ps) ?_
  rw [← Qpt v.ps, ← Qjr]
  refine Qix fun w hw => ?_
  have := Qsa (List.all_eq_true.1 o3 w hw)
  simp only [id_eq, List.length_cons, List.length_nil]; omega
 have h3 : (jo [32, 124, 32] cnT 0 v.cs).length ≤ 1000 * sL cnSz v.cs := by
  refine Nat.le_trans (QmU 0 v.cs) ?_
  rw [← Qjr]
  refine Qix fun w hw => ?_
  have h4 := List.all_eq_true.1 o6 w hw
  unfold cnOk fdsOk at h4
  simp only [Bool.and_eq_true, decide_eq_true_eq] at h4
  have h5 := QfV h4.1
  have h6 := Qqt (List.all_eq_true.1 h4.2.2)
  have h7 := QrQ w.f
  unfold cnT cnSz
  have h8 : (if w.f.length = 0 then ([] : Str) else 40 :: (fdsT w.f ++ [41])).length ≤ (fdsT w.f).length + 2 := by split <;> simp
  simp only [List.length_append, List.length_cons, List.length_nil] at h8 ⊢
  omega
 unfold tdT tdSz
 have h4 : (if v.ps.length = 0 then ([] : Str) else 40 :: (jo [44, 32] id 0 v.ps ++ [41])).length ≤ (jo [44, 32] id 0 v.ps).length + 2 := by split <;> simp
 have h5 : (pubT v.p).length ≤ 4 := by cases v.p <;> simp [pubT]
 simp only [List.length_append, List.length_cons, List.length_nil] at h4 ⊢
 omega
theorem Quq {v : RdV} (h : rdOk v = true) : (rdT v).length ≤ 18000 * rdSz v := by
 unfold rdOk fdsOk at h
 simp only [Bool.and_eq_true, decide_eq_true_eq] at h
 have h1 := QfV h.1
 have h6 := Qqt (List.all_eq_true.1 h.2.2)
 have h7 := QrQ v.f
 unfold rdT rdSz
 have h5 : (pubT v.p).length ≤ 4 := by cases v.p <;> simp [pubT]
 have h8 : (if v.i = true then ([105, 110, 112, 117, 116, 32] : Str) else [114, 101, 108, 32]).length ≤ 6 := by split <;> simp
 simp only [List.length_append, List.length_cons, List.length_nil]
 omega
theorem QmT {α : Type} {f : α → Str} {g : α → Nat} {l : List α} (h : ∀ v ∈ l, (f v).length ≤ 18000 * g v) : (jo [] f 0 l).length ≤ 18000 * sL g l := by
 refine Nat.le_trans (QmU 0 l) ?_
 rw [← Qjr]
 exact Qix fun w hw => h w hw
theorem Qun {v : MoV} {x : Qi} (hx : MoIs A v x) (h : moOk v = true) : (moT v).length ≤ 18000 * (moSz v + 1) := by
 obtain ⟨en, him, hty, hre, hru, hne⟩ := hx
 unfold moOk at h
 simp only [Bool.and_eq_true] at h
 obtain ⟨⟨⟨⟨⟨o1, o2⟩, o3⟩, o4⟩, o5⟩, o6⟩ := h
 have h0 := QfV o1
 have h1 : (jo [] imT 0 v.im).length ≤ 18000 * sL (fun _ => 1) v.im := QmT fun w hw => by
  have := QfV (List.all_eq_true.1 o2 w hw)
  unfold imT; simp only [List.length_append, List.length_cons, List.length_nil]; omega
 have h2 : (jo [] tdT 0 v.ty).length ≤ 18000 * sL tdSz v.ty := QmT fun w hw => Quv (List.all_eq_true.1 o3 w hw)
 have h3 : (jo [] rdT 0 v.re).length ≤ 18000 * sL rdSz v.re := QmT fun w hw => Quq (List.all_eq_true.1 o4 w hw)
 have h4 : (jo [] ruT 0 v.ru).length ≤ 18000 * sL ruSz v.ru := QmT fun w hw => by
  obtain ⟨y, hy⟩ := hru.mem hw
  exact Qus hy (List.all_eq_true.1 o5 w hw)
 have h5 : (jo [] neT 0 v.ne).length ≤ 18000 * sL neSz v.ne := QmT fun w hw => by
  obtain ⟨y, hy⟩ := hne.mem hw
  exact Quo hy (List.all_eq_true.1 o6 w hw)
 rw [Qpt] at h1
 rw [QtD]
 unfold moSz hdT
 simp only [List.length_append, List.length_cons, List.length_nil]
 omega
end
end
section
open Go Go.Proofs
theorem andLt {a b : Int} {q : Bool} (h : (decide (a < b) && q) = true) : a < b ∧ q = true := by rw [Bool.and_eq_true] at h; exact ⟨of_decide_eq_true h.1, h.2⟩
theorem lpQ {Q : Int → Nat → Prop} {n0 : Int} {N : Nat} {H : Heap} {body : Int × Int → (Int × Int → Heap → Prop) → Heap → Prop} (hb : N ≤ 140737488355328) (h0 : Q n0 0)
 (step : ∀ (n : Int) (i : Nat) (D : Heap) (J : Int × Int → Heap → Prop), H.le D → i ≤ N → Q n i → (i < N → ∀ n' D', H.le D' → Q n' (i + 1) → J (n', w .i64 ((i : Int) + 1)) D') → body (n, (i : Int)) J D) : lp (α := Int × Int) (n0, 0) H body := by
 refine ⟨fun x D => H.le D ∧ ∃ i : Nat, x.2 = (i : Int) ∧ i ≤ N ∧ Q x.1 i, fun x _ => N - x.2.toNat, ⟨Heap.le.refl _, 0, rfl, Nat.zero_le _, h0⟩, ?_⟩
 rintro ⟨n, _⟩ D ⟨hD, i, rfl, hi, hQ⟩
 refine step n i D _ hD hi hQ fun hlt n' D' hD' hQ' => ?_
 rw [QM (by omega) (by omega)]
 exact ⟨⟨hD', i + 1, rfl, by omega, hQ'⟩, by first | omega | (dsimp only; omega)⟩
theorem tdv {n : Nat} (h : n ≤ 140737488355328) : ∃ a : Int, w .i64 (Int.tdiv (n : Int) 50) = a ∧ 0 ≤ a ∧ a ≤ 140737488355328 := by
 have h1 : Int.tdiv (n : Int) 50 = ((n / 50 : Nat) : Int) := rfl
 rw [h1, QM (by omega) (by omega)]
 exact ⟨_, rfl, by omega, by omega⟩
/-- what a count tells: within bounds, and whole if it is below the bound -/
structure Cnt (B : Int) (m : Int) (z : Nat) (r : Int) : Prop where
 lo : 0 ≤ r
 hi : 0 ≤ m → r ≤ m * 1125899906842624 + B
 no : m ≤ 0 → r = 0
 sz : r < m → (z : Int) ≤ r
section
variable {C : Ctx} {H A : Heap}
theorem QpC {l : List TyV} {s : Sl} {m : Int} {K : Int → Heap → Prop} (hs : TyL A s l) (hA : A.le H) (hm : m ≤ 4000 ∧ -4611686018427387904 ≤ m)
 (ih : ∀ p ∈ l, ∀ {s : Sl} {m : Int} {K : Int → Heap → Prop} {H : Heap}, TyL A s p.a → A.le H → m ≤ 4000 ∧ -4611686018427387904 ≤ m → (∀ r, Cnt 0 m (sL tySz p.a) r → K r H) → QaP C s m K H) (k : ∀ r, Cnt 0 m (sL tySz l) r → K r H) : QaP C s m K H := by
 apply QaP.gh
 apply Qnq
 unfold Qki
 refine lpQ (N := l.length) (Q := fun n i => Cnt 0 m (sL tySz (l.take i)) n) hs.bd ⟨by omega, fun h => by omega, fun _ => rfl, fun _ => by simp [sL]⟩ fun n i D J hD hi hQ hJ => ?_
 obtain ⟨q1, q2, q3, q4⟩ := hQ
 rw [hs.len]
 refine ift.of (fun h => ?_) (fun h => ⟨H, Gh.le hD, k _ ⟨q1, q2, q3, fun hn => ?_⟩⟩)
 ·obtain ⟨g1, g2⟩ := andLt h
  have hlt : i < l.length := by omega
  have hnm : n < m := of_decide_eq_true g2
  have hAD := hA.trans hD
  refine SlIs.fS hs hAD Qih (by omega) rfl hlt (f := fun y => y.Name) (fun _ => rfl) fun y1 hy1 => SlIs.fL hs hAD Qih (by omega) rfl hlt (f := fun y => y.Args) (fun _ => rfl) fun y2 hy2 => ?_
  have hn1 := (Qeq.1 hy1).1
  obtain ⟨a, ea, a1, a2⟩ := tdv (n := y1.Name.length) (by rw [hn1.1]; exact hn1.2)
  rw [ea]
  dsimp only
  have e1 : w .i64 (n + 1) = n + 1 := QM (by omega) (by omega)
  have e2 : w .i64 (n + 1 + a) = n + 1 + a := QM (by omega) (by omega)
  have e3 : w .i64 (m - (n + 1 + a)) = m - (n + 1 + a) := QM (by omega) (by omega)
  simp only [e1, e2, e3]
  refine ih _ (List.getElem_mem hlt) (Qeq.1 hy2).2 hAD ⟨by omega, by omega⟩ fun r ⟨r1, r2, r3, r4⟩ => ?_
  have e4 : w .i64 (n + 1 + a + r) = n + 1 + a + r := QM (by omega) (by omega)
  rw [e4]
  refine hJ hlt _ _ hD ⟨by omega, fun h => by omega, fun h => by omega, fun h => ?_⟩
  rw [QgD hlt, QoR]
  have := q4 (by omega)
  have := r4 (by omega)
  omega
 ·have hie : i = l.length := by
   rw [Bool.and_eq_false_iff] at h
   rcases h with h | h
   ·have := of_decide_eq_false h; dsimp only at this; omega
   ·exact absurd hn (of_decide_eq_false h)
  have := q4 hn
  rw [hie, List.take_length] at this
  exact this
theorem Qtn : ∀ (v : TyV) {s : Sl} {m : Int} {K : Int → Heap → Prop} {H : Heap}, TyL A s v.a → A.le H → m ≤ 4000 ∧ -4611686018427387904 ≤ m → (∀ r, Cnt 0 m (sL tySz v.a) r → K r H) → QaP C s m K H := by
 refine TyV.rec_ fun v ih s m K H hs hA hm k => ?_
 exact QpC hs hA hm (fun p hp s m K H g1 g2 g3 g4 => ih p hp g1 g2 g3 g4) k
theorem Qto {l : List TyV} {s : Sl} {m : Int} {K : Int → Heap → Prop} (hs : TyL A s l) (hA : A.le H) (hm : m ≤ 4000 ∧ -4611686018427387904 ≤ m) (k : ∀ r, Cnt 0 m (sL tySz l) r → K r H) : QaP C s m K H :=
 QpC hs hA hm (fun p _ s m K H g1 g2 g3 g4 => Qtn p g1 g2 g3 g4) k
theorem Qpd {l : List ExV} {s : Sl} {m : Int} {K : Int → Heap → Prop} (hs : ExL A s l) (hA : A.le H) (hm : m ≤ 4000 ∧ -4611686018427387904 ≤ m)
 (ih : ∀ p ∈ l, ∀ {s : Sl} {m : Int} {K : Int → Heap → Prop} {H : Heap}, ExL A s p.a → A.le H → m ≤ 4000 ∧ -4611686018427387904 ≤ m → (∀ r, Cnt 0 m (sL exSz p.a) r → K r H) → Qao C s m K H) (k : ∀ r, Cnt 0 m (sL exSz l) r → K r H) : Qao C s m K H := by
 apply Qao.gh
 apply Qno
 unfold Qkg
 refine lpQ (N := l.length) (Q := fun n i => Cnt 0 m (sL exSz (l.take i)) n) hs.bd ⟨by omega, fun h => by omega, fun _ => rfl, fun _ => by simp [sL]⟩ fun n i D J hD hi hQ hJ => ?_
 obtain ⟨q1, q2, q3, q4⟩ := hQ
 rw [hs.len]
 refine ift.of (fun h => ?_) (fun h => ⟨H, Gh.le hD, k _ ⟨q1, q2, q3, fun hn => ?_⟩⟩)
 ·obtain ⟨g1, g2⟩ := andLt h
  have hlt : i < l.length := by omega
  have hnm : n < m := of_decide_eq_true g2
  have hAD := hA.trans hD
  refine SlIs.fS hs hAD Qbw (by omega) rfl hlt (j := 3) (f := fun y => y.Name) (fun _ => rfl) fun y1 hy1 => ?_
  refine SlIs.fS hs hAD Qbw (by omega) rfl hlt (j := 6) (f := fun y => y.Value_.S) (fun _ => rfl) fun y2 hy2 => ?_
  refine SlIs.fL hs hAD Qbw (by omega) rfl hlt (j := 7) (f := fun y => y.Value_.L) (fun _ => rfl) fun y3 hy3 => ?_
  refine SlIs.fL hs hAD Qbw (by omega) rfl hlt (j := 8) (f := fun y => y.Args) (fun _ => rfl) fun y4 hy4 => ?_
  have hn1 := (Qa6.1 hy1).2.1
  obtain ⟨_, _, v2, B2, _⟩ := Qa6.1 hy2
  obtain ⟨_, _, v3, B3, _⟩ := Qa6.1 hy3
  obtain ⟨a, ea, a1, a2⟩ := tdv (n := y1.Name.length) (by rw [hn1.1]; exact hn1.2)
  obtain ⟨b, eb, b1, b2⟩ := tdv (n := y2.Value_.S.length) (by rw [(Qfq.1 v2).2.2.1]; exact B2.s)
  have hc : y3.Value_.L.len ≤ 140737488355328 := by rw [(Qfq.1 v3).2.2.2.len]; exact B3.l
  rw [ea, eb]
  dsimp only
  generalize y3.Value_.L.len = c at *
  have e1 : w .i64 (n + 1) = n + 1 := QM (by omega) (by omega)
  have e2 : w .i64 (n + 1 + a) = n + 1 + a := QM (by omega) (by omega)
  have e2b : w .i64 (n + 1 + a + b) = n + 1 + a + b := QM (by omega) (by omega)
  have e2c : w .i64 (n + 1 + a + b + (c : Int)) = n + 1 + a + b + c := QM (by omega) (by omega)
  have e3 : w .i64 (m - (n + 1 + a + b + c)) = m - (n + 1 + a + b + c) := QM (by omega) (by omega)
  simp only [e1, e2, e2b, e2c, e3]
  refine ih _ (List.getElem_mem hlt) (Qa6.1 hy4).2.2.2.2 hAD ⟨by omega, by omega⟩ fun r ⟨r1, r2, r3, r4⟩ => ?_
  have e4 : w .i64 (n + 1 + a + b + c + r) = n + 1 + a + b + c + r := QM (by omega) (by omega)
  rw [e4]
  refine hJ hlt _ _ hD ⟨by omega, fun h => by omega, fun h => by omega, fun h => ?_⟩
  rw [QgD hlt, QlF]
  have := q4 (by omega)
  have := r4 (by omega)
  omega
 ·have hie : i = l.length := by
   rw [Bool.and_eq_false_iff] at h
   rcases h with h | h
   ·have := of_decide_eq_false h; dsimp only at this; omega
   ·exact absurd hn (of_decide_eq_false h)
  have := q4 hn
  rw [hie, List.take_length] at this
  exact this
theorem QsV : ∀ (v : ExV) {s : Sl} {m : Int} {K : Int → Heap → Prop} {H : Heap}, ExL A s v.a → A.le H → m ≤ 4000 ∧ -4611686018427387904 ≤ m → (∀ r, Cnt 0 m (sL exSz v.a) r → K r H) → Qao C s m K H := by
 refine ExV.rec_ fun v ih s m K H hs hA hm k => ?_
 exact Qpd hs hA hm (fun p hp s m K H g1 g2 g3 g4 => ih p hp g1 g2 g3 g4) k
theorem Qos {l : List ExV} {s : Sl} {m : Int} {K : Int → Heap → Prop} (hs : ExL A s l) (hA : A.le H) (hm : m ≤ 4000 ∧ -4611686018427387904 ≤ m) (k : ∀ r, Cnt 0 m (sL exSz l) r → K r H) : Qao C s m K H :=
 Qpd hs hA hm (fun p _ s m K H g1 g2 g3 g4 => QsV p g1 g2 g3 g4) k
theorem Qry {l : List LiV} {s : Sl} {m : Int} {K : Int → Heap → Prop} (hs : LiL A s l) (hA : A.le H) (hm : m ≤ 4000 ∧ -4611686018427387904 ≤ m) (k : ∀ r, Cnt 0 m (sL liSz l) r → K r H) : QcC C s m K H := by
 apply QcC.gh
 apply Qob
 unfold Qlj
 refine lpQ (N := l.length) (Q := fun n i => Cnt 0 m (sL liSz (l.take i)) n) hs.bd ⟨by omega, fun h => by omega, fun _ => rfl, fun _ => by simp [sL]⟩ fun n i D J hD hi hQ hJ => ?_
 obtain ⟨q1, q2, q3, q4⟩ := hQ
 rw [hs.len]
 refine ift.of (fun h => ?_) (fun h => ⟨H, Gh.le hD, k _ ⟨q1, q2, q3, fun hn => ?_⟩⟩)
 ·obtain ⟨g1, g2⟩ := andLt h
  have hlt : i < l.length := by omega
  have hnm : n < m := of_decide_eq_true g2
  have hAD := hA.trans hD
  refine SlIs.fS hs hAD Qev (by omega) rfl hlt (f := fun y => y.Rel) (fun _ => rfl) fun y1 hy1 => SlIs.fL hs hAD Qev (by omega) rfl hlt (f := fun y => y.Args) (fun _ => rfl) fun y2 hy2 => ?_
  have hn1 := hy1.2.1
  obtain ⟨a, ea, a1, a2⟩ := tdv (n := y1.Rel.length) (by rw [hn1.1]; exact hn1.2)
  rw [ea]
  dsimp only
  have e1 : w .i64 (n + 1) = n + 1 := QM (by omega) (by omega)
  have e2 : w .i64 (n + 1 + a) = n + 1 + a := QM (by omega) (by omega)
  have e3 : w .i64 (m - (n + 1 + a)) = m - (n + 1 + a) := QM (by omega) (by omega)
  simp only [e1, e2, e3]
  refine Qos hy2.2.2 hAD ⟨by omega, by omega⟩ fun r ⟨r1, r2, r3, r4⟩ => ?_
  have e4 : w .i64 (n + 1 + a + r) = n + 1 + a + r := QM (by omega) (by omega)
  rw [e4]
  refine hJ hlt _ _ hD ⟨by omega, fun h => by omega, fun h => by omega, fun h => ?_⟩
  rw [QgD hlt]
  unfold liSz at *
  have := q4 (by omega)
  have := r4 (by omega)
  omega
 ·have hie : i = l.length := by
   rw [Bool.and_eq_false_iff] at h
   rcases h with h | h
   ·have := of_decide_eq_false h; dsimp only at this; omega
   ·exact absurd hn (of_decide_eq_false h)
  have := q4 hn
  rw [hie, List.take_length] at this
  exact this
theorem Qph {l : List FdV} {s : Sl} {m : Int} {K : Int → Heap → Prop} (hs : FdL A s l) (hA : A.le H) (hm : m ≤ 4000 ∧ -4611686018427387904 ≤ m) (k : ∀ r, Cnt 140737488355328 m (fdsSz l) r → K r H) : QbK C s m K H := by
 apply QbK.gh
 apply Qmw
 unfold Qjs
 refine lpQ (N := l.length) (Q := fun n i => Cnt 140737488355328 m (fdsSz (l.take i)) n) hs.bd ⟨by omega, fun h => by omega, fun _ => rfl, fun _ => by simp [fdsSz, sL]⟩ fun n i D J hD hi hQ hJ => ?_
 obtain ⟨q1, q2, q3, q4⟩ := hQ
 rw [hs.len]
 refine ift.of (fun h => ?_) (fun h => ⟨H, Gh.le hD, k _ ⟨q1, q2, q3, fun hn => ?_⟩⟩)
 ·obtain ⟨g1, g2⟩ := andLt h
  have hlt : i < l.length := by omega
  have hnm : n < m := of_decide_eq_true g2
  have hAD := hA.trans hD
  refine ⟨D, Heap.le.refl _, SlIs.fS hs hAD QdB (by omega) rfl hlt (f := fun y => y.Name) (fun _ => rfl) fun y1 hy1 => SlIs.fT hs hAD QdB (by omega) rfl hlt (f := fun y => y.Type_) (fun y n v hn => Qtl n v hn) fun y2 hy2 => ?_⟩
  intro b n1
  have l1 := Heap.le_put n1 (g := .row (Qf.c y2.Type_ ++ [])) (m := true)
  have h1 : (D.put b (.row (Qf.c y2.Type_ ++ []))) b = some (true, .row (Qf.c y2.Type_ ++ [])) := Heap.put_same ..
  generalize D.put b (.row (Qf.c y2.Type_ ++ [])) = E at *
  have hT : TyL E (Sl.of (some (b, 0)) 1 1) [l[i].t] := ⟨[y2.Type_], .inr ⟨rfl, _, rfl, Qhu h1 fun j v hj => by simpa using hj⟩, rfl, rfl, by simp, fun j v x hv hx => by
   cases j with
   | zero => simp at hv hx; subst hv; subst hx; exact TyIs.le (hAD.trans l1) _ _ hy2.2
   | succ j => simp at hv⟩
  obtain ⟨a, ea, a1, a2⟩ := tdv (n := y1.Name.length) (by rw [hy1.1.1]; exact hy1.1.2)
  rw [ea]
  dsimp only
  have e1 : w .i64 (n + a) = n + a := QM (by omega) (by omega)
  have e3 : w .i64 (m - n) = m - n := QM (by omega) (by omega)
  simp only [e1, e3]
  refine ⟨l1, Qto hT (Heap.le.refl _) ⟨by omega, by omega⟩ fun r ⟨r1, r2, r3, r4⟩ => ⟨l1, ?_⟩⟩
  have e4 : w .i64 (n + a + r) = n + a + r := QM (by omega) (by omega)
  rw [e4]
  simp only [sL] at r4
  refine hJ hlt _ _ (hD.trans l1) ⟨by omega, fun h => by omega, fun h => by omega, fun h => ?_⟩
  unfold fdsSz at *
  rw [QgD hlt]
  have := q4 (by omega)
  have := r4 (by omega)
  omega
 ·have hie : i = l.length := by
   rw [Bool.and_eq_false_iff] at h
   rcases h with h | h
   ·have := of_decide_eq_false h; dsimp only at this; omega
   ·exact absurd hn (of_decide_eq_false h)
  have := q4 hn
  rw [hie, List.take_length] at this
  exact this
theorem Qqz {v : MoV} {x : Qi} {K : Bool → Heap → Prop} (hx : MoIs A v x) (hA : A.le H) (k : ∀ b, (b = false → moSz v ≤ 2000) → K b H) : Qb1 C x K H := by
 apply Qb1.gh
 apply Qnp
 unfold Qkh
 refine box1 fun b1 H2 hle h1 => ?_
 have hA2 := hA.trans hle
 obtain ⟨x1, x2, x3, x4, x5, x6⟩ := hx
 refine fL h1 rfl (fS h1 rfl ?_)
 have lim := x2.bd
 rw [x2.len]
 obtain ⟨a, ea, a1, a2⟩ := tdv (n := x.Name.length) (by rw [x1.1]; exact x1.2)
 rw [ea]
 have e0 : w .i64 ((v.im.length : Int) + a) = (v.im.length : Int) + a := QM (by omega) (by omega)
 rw [e0]
 refine lpQ (N := v.ty.length) (Q := fun n i => 0 ≤ n ∧ n ≤ 4700000000000000000 ∧ (n < 2000 → ((v.im.length + sL tdSz (v.ty.take i) : Nat) : Int) ≤ n)) x3.bd ⟨by omega, by omega, fun _ => by simp [sL]; omega⟩ fun n i D J hD hi hQ hJ => fL (hD _ _ h1) rfl ?_
 obtain ⟨q1, q2, q3⟩ := hQ
 rw [x3.len]
 refine ift.of (fun h => ?_) (fun h => ?_)
 ·obtain ⟨g1, g2⟩ := andLt h
  have hlt : i < v.ty.length := by omega
  have hnm : n < 2000 := of_decide_eq_true g2
  have q3 := q3 hnm
  refine fL (hD _ _ h1) rfl (SlIs.fL x3 (hA2.trans hD) QdC (by omega) rfl hlt (f := fun y => y.Params) (fun _ => rfl) fun y1 hy1 => ?_)
  have lps := SlIs.bd hy1.2.2.1
  rw [SlIs.len hy1.2.2.1]
  dsimp only
  have e1 : w .i64 (n + 1) = n + 1 := QM (by omega) (by omega)
  have e2 : w .i64 (n + 1 + (v.ty[i].ps.length : Int)) = n + 1 + (v.ty[i].ps.length : Int) := QM (by omega) (by omega)
  rw [e1, e2]
  refine lpQ (N := v.ty[i].cs.length) (Q := fun n2 i2 => 0 ≤ n2 ∧ n2 ≤ 4700000000000000000 ∧ (n2 < 2000 → n + 1 + (v.ty[i].ps.length : Int) + ((sL cnSz (v.ty[i].cs.take i2) : Nat) : Int) ≤ n2)) hy1.2.2.2.bd ⟨by omega, by omega, fun _ => by simp [sL]⟩ fun n2 i2 D2 J2 hD2 hi2 hQ2 hJ2 => ?_
  obtain ⟨p1, p2, p3⟩ := hQ2
  have hDD := hD.trans hD2
  refine fL (hDD _ _ h1) rfl (SlIs.fL x3 (hA2.trans hDD) QdC (by omega) rfl hlt (f := fun y => y.Cons) (fun _ => rfl) fun y2 hy2 => ?_)
  rw [hy2.2.2.2.len]
  refine ift.of (fun h => ?_) (fun h => hJ hlt _ _ hDD ⟨p1, p2, fun hn => ?_⟩)
  ·obtain ⟨g1, g2⟩ := andLt h
   have hlt2 : i2 < v.ty[i].cs.length := by omega
   have hnm2 : n2 < 2000 := of_decide_eq_true g2
   have p3 := p3 hnm2
   refine fL (hDD _ _ h1) rfl (SlIs.fL x3 (hA2.trans hDD) QdC (by omega) rfl hlt (f := fun y => y.Cons) (fun _ => rfl) fun y3 hy3 => ?_)
   refine SlIs.fL hy3.2.2.2 (hA2.trans hDD) Qfu (by omega) rfl hlt2 (f := fun y => y.Fields) (fun _ => rfl) fun y4 hy4 => ?_
   dsimp only
   have e3 : w .i64 (2000 - n2) = 2000 - n2 := QM (by omega) (by omega)
   have e4 : w .i64 (n2 + 1) = n2 + 1 := QM (by omega) (by omega)
   simp only [e3, e4]
   refine Qph hy4.2 (hA2.trans hDD) ⟨by omega, by omega⟩ fun r ⟨r1, r2, r3, r4⟩ => ?_
   have e5 : w .i64 (n2 + 1 + r) = n2 + 1 + r := QM (by omega) (by omega)
   rw [e5]
   refine hJ2 hlt2 _ _ hD2 ⟨by omega, by omega, fun hn => ?_⟩
   have := r4 (by omega)
   rw [QgD hlt2]
   unfold cnSz at *
   omega
  ·have hie : i2 = v.ty[i].cs.length := by
    rw [Bool.and_eq_false_iff] at h
    rcases h with h | h
    ·have := of_decide_eq_false h; dsimp only at this; omega
    ·exact absurd hn (of_decide_eq_false h)
   have := p3 hn
   rw [hie, List.take_length] at this
   rw [QgD hlt]
   unfold tdSz at *
   omega
 have q3 : n < 2000 → ((v.im.length + sL tdSz v.ty : Nat) : Int) ≤ n := fun hn => by
  have hie : i = v.ty.length := by
   rw [Bool.and_eq_false_iff] at h
   rcases h with h | h
   ·have := of_decide_eq_false h; dsimp only at this; omega
   ·exact absurd hn (of_decide_eq_false h)
  have := q3 hn
  rw [hie, List.take_length] at this
  exact this
 clear h hJ hi
 dsimp only
 refine lpQ (N := v.re.length) (Q := fun n i => 0 ≤ n ∧ n ≤ 4700000000000000000 ∧ (n < 2000 → ((v.im.length + sL tdSz v.ty + sL rdSz (v.re.take i) : Nat) : Int) ≤ n)) x4.bd ⟨q1, q2, fun h => by have := q3 h; simpa [sL] using this⟩ fun n i D2 J hD2 hi hQ hJ => ?_
 clear q1 q2 q3
 obtain ⟨q1, q2, q3⟩ := hQ
 have hD := hD.trans hD2
 refine fL (hD _ _ h1) rfl ?_
 rw [x4.len]
 refine ift.of (fun h => ?_) (fun h => ?_)
 ·obtain ⟨g1, g2⟩ := andLt h
  have hlt : i < v.re.length := by omega
  have hnm : n < 2000 := of_decide_eq_true g2
  have q3 := q3 hnm
  refine fL (hD _ _ h1) rfl (SlIs.fL x4 (hA2.trans hD) Qgk (by omega) rfl hlt (f := fun y => y.Fields) (fun _ => rfl) fun y1 hy1 => ?_)
  dsimp only
  have e3 : w .i64 (2000 - n) = 2000 - n := QM (by omega) (by omega)
  have e4 : w .i64 (n + 1) = n + 1 := QM (by omega) (by omega)
  simp only [e3, e4]
  refine Qph hy1.2.2.2 (hA2.trans hD) ⟨by omega, by omega⟩ fun r ⟨r1, r2, r3, r4⟩ => ?_
  have e5 : w .i64 (n + 1 + r) = n + 1 + r := QM (by omega) (by omega)
  rw [e5]
  refine hJ hlt _ _ hD2 ⟨by omega, by omega, fun hn => ?_⟩
  have := r4 (by omega)
  rw [QgD hlt]
  unfold rdSz at *
  omega
 have q3 : n < 2000 → ((v.im.length + sL tdSz v.ty + sL rdSz v.re : Nat) : Int) ≤ n := fun hn => by
  have hie : i = v.re.length := by
   rw [Bool.and_eq_false_iff] at h
   rcases h with h | h
   ·have := of_decide_eq_false h; dsimp only at this; omega
   ·exact absurd hn (of_decide_eq_false h)
  have := q3 hn
  rw [hie, List.take_length] at this
  exact this
 clear h hJ hi
 dsimp only
 refine lpQ (N := v.ru.length) (Q := fun n i => 0 ≤ n ∧ n ≤ 4700000000000000000 ∧ (n < 2000 → ((v.im.length + sL tdSz v.ty + sL rdSz v.re + sL ruSz (v.ru.take i) : Nat) : Int) ≤ n)) x5.bd ⟨q1, q2, fun h => by have := q3 h; simpa [sL] using this⟩ fun n i D3 J hD3 hi hQ hJ => ?_
 clear q1 q2 q3
 obtain ⟨q1, q2, q3⟩ := hQ
 have hD := hD.trans hD3
 refine fL (hD _ _ h1) rfl ?_
 rw [x5.len]
 refine ift.of (fun h => ?_) (fun h => ?_)
 ·obtain ⟨g1, g2⟩ := andLt h
  have hlt : i < v.ru.length := by omega
  have hnm : n < 2000 := of_decide_eq_true g2
  have q3 := q3 hnm
  have hAD := hA2.trans hD
  refine ⟨D3, Heap.le.refl _, fL (hD _ _ h1) rfl (SlIs.fL x5 hAD QgU (by omega) rfl hlt (f := fun y => y.Aggs) (fun _ => rfl) fun y1 hy1 => ?_)⟩
  refine fL (hD _ _ h1) rfl (SlIs.fL x5 hAD QgU (by omega) rfl hlt (f := fun y => y.Args) (fun _ => rfl) fun y2 hy2 => ?_)
  refine fL (hD _ _ h1) rfl (SlIs.fL x5 hAD QgU (by omega) rfl hlt (f := fun y => y.Body) (fun _ => rfl) fun y3 hy3 => ?_)
  have lgs := SlIs.bd hy1.2.2.1
  rw [SlIs.len hy1.2.2.1]
  dsimp only
  have e3 : w .i64 (2000 - n) = 2000 - n := QM (by omega) (by omega)
  have e4 : w .i64 (n + 1) = n + 1 := QM (by omega) (by omega)
  have e5 : w .i64 (n + 1 + (v.ru[i].g.length : Int)) = n + 1 + (v.ru[i].g.length : Int) := QM (by omega) (by omega)
  simp only [e3, e4, e5]
  refine Qos hy2.2.1 hAD ⟨by omega, by omega⟩ fun r ⟨r1, r2, r3, r4⟩ => ⟨Heap.le.refl _, Qry hy3.2.2.2 hAD ⟨by omega, by omega⟩ fun r' ⟨r1', r2', r3', r4'⟩ => ⟨Heap.le.refl _, ?_⟩⟩
  have e6 : w .i64 (n + 1 + (v.ru[i].g.length : Int) + r) = n + 1 + (v.ru[i].g.length : Int) + r := QM (by omega) (by omega)
  have e7 : w .i64 (n + 1 + (v.ru[i].g.length : Int) + r + r') = n + 1 + (v.ru[i].g.length : Int) + r + r' := QM (by omega) (by omega)
  rw [e6, e7]
  refine hJ hlt _ _ hD3 ⟨by omega, by omega, fun hn => ?_⟩
  have := r4 (by omega)
  have := r4' (by omega)
  rw [QgD hlt]
  unfold ruSz at *
  omega
 have q3 : n < 2000 → ((v.im.length + sL tdSz v.ty + sL rdSz v.re + sL ruSz v.ru : Nat) : Int) ≤ n := fun hn => by
  have hie : i = v.ru.length := by
   rw [Bool.and_eq_false_iff] at h
   rcases h with h | h
   ·have := of_decide_eq_false h; dsimp only at this; omega
   ·exact absurd hn (of_decide_eq_false h)
  have := q3 hn
  rw [hie, List.take_length] at this
  exact this
 clear h hJ hi
 dsimp only
 refine lpQ (N := v.ne.length) (Q := fun n i => 0 ≤ n ∧ n ≤ 4700000000000000000 ∧ (n < 2000 → ((v.im.length + sL tdSz v.ty + sL rdSz v.re + sL ruSz v.ru + sL neSz (v.ne.take i) : Nat) : Int) ≤ n)) x6.bd ⟨q1, q2, fun h => by have := q3 h; simpa [sL] using this⟩ fun n i D4 J hD4 hi hQ hJ => ?_
 clear q1 q2 q3
 obtain ⟨q1, q2, q3⟩ := hQ
 have hD := hD.trans hD4
 refine fL (hD _ _ h1) rfl ?_
 rw [x6.len]
 refine ift.of (fun h => ?_) (fun h => ⟨H, Gh.le (hle.trans hD), k _ fun hb => ?_⟩)
 ·obtain ⟨g1, g2⟩ := andLt h
  have hlt : i < v.ne.length := by omega
  have hnm : n < 2000 := of_decide_eq_true g2
  have q3 := q3 hnm
  refine fL (hD _ _ h1) rfl (SlIs.fL x6 (hA2.trans hD) QhJ (by omega) rfl hlt (f := fun y => y.Body) (fun _ => rfl) fun y1 hy1 => ?_)
  dsimp only
  have e3 : w .i64 (2000 - n) = 2000 - n := QM (by omega) (by omega)
  have e4 : w .i64 (n + 1) = n + 1 := QM (by omega) (by omega)
  simp only [e3, e4]
  refine Qry hy1.2 (hA2.trans hD) ⟨by omega, by omega⟩ fun r ⟨r1, r2, r3, r4⟩ => ?_
  have e5 : w .i64 (n + 1 + r) = n + 1 + r := QM (by omega) (by omega)
  rw [e5]
  refine hJ hlt _ _ hD4 ⟨by omega, by omega, fun hn => ?_⟩
  have := r4 (by omega)
  rw [QgD hlt]
  unfold neSz at *
  omega
 ·have hn : n < 2000 := by have := of_decide_eq_false hb; dsimp only at this; omega
  have hie : i = v.ne.length := by
   rw [Bool.and_eq_false_iff] at h
   rcases h with h | h
   ·have := of_decide_eq_false h; dsimp only at this; omega
   ·exact absurd hn (of_decide_eq_false h)
  have := q3 hn
  rw [hie, List.take_length] at this
  unfold moSz
  omega
end
end
section
open Go Go.Proofs
theorem jb {P : Prop} {R : Bool → Heap → Prop} {body : (Bool → Heap → Prop) → Prop} (H0 : Heap) (h1 : body (fun b E => E = H0 ∧ (b = true ↔ P))) (h2 : ∀ b, (b = true ↔ P) → R b H0) : jn (α := Bool) R body := ⟨fun b E => E = H0 ∧ (b = true ↔ P), h1, fun b E hh => by obtain ⟨e, h⟩ := hh; subst e; exact h2 b h⟩
theorem nand {b : Bool} {P Q : Prop} (hb : b = true ↔ P) (h : b = false) : (false = true ↔ P ∧ Q) := ⟨fun h' => (nomatch h'), fun ⟨hp, _⟩ => by rw [hb.2 hp] at h; cases h⟩
theorem yand {b r : Bool} {P Q : Prop} (hb : b = true ↔ P) (h : b = true) (hr : r = true ↔ Q) : (r = true ↔ P ∧ Q) := ⟨fun h' => ⟨hb.1 h, hr.1 h'⟩, fun ⟨_, hq⟩ => hr.2 hq⟩
theorem QkP {α : Type} {v w : α} {b : Bool} (h : b = true ↔ v = w) : b = sm v w := by
 rw [Bool.eq_iff_iff, h, sm_t]
theorem iq {a b a' b' : Int} (ha : a = a') (hb : b = b') : ((a == b) = true ↔ a' = b') := by rw [ha, hb]; simp
theorem sq {a b a' b' : Str} (ha : a = a') (hb : b = b') : ((a == b) = true ↔ a' = b') := by rw [ha, hb]; simp
theorem sqN {a b a' b' : Str} (ha : Nm a a') (hb : Nm b b') : ((a == b) = true ↔ a' = b') := sq ha.1 hb.1
theorem bq {a b a' b' : Bool} (ha : a = a') (hb : b = b') : ((a == b) = true ↔ a' = b') := by rw [ha, hb]; simp
theorem V.eq_iff {v w : V} : v = w ↔ ((v.k = w.k ∧ v.n = w.n) ∧ v.s = w.s) ∧ v.l = w.l := by
 obtain ⟨a, b, c, d⟩ := v; obtain ⟨e, f, g, h⟩ := w
 constructor
 ·rintro ⟨⟩; exact ⟨⟨⟨rfl, rfl⟩, rfl⟩, rfl⟩
 ·rintro ⟨⟨⟨h1, h2⟩, h3⟩, h4⟩
  have h1 : a = e := h1; have h2 : b = f := h2; have h3 : c = g := h3; have h4 : d = h := h4
  rw [h1, h2, h3, h4]
theorem TyV.eq_iff {v w : TyV} : v = w ↔ v.n = w.n ∧ v.a = w.a := by
 obtain ⟨a, b⟩ := v; obtain ⟨e, f⟩ := w
 constructor
 ·rintro ⟨⟩; exact ⟨rfl, rfl⟩
 ·rintro ⟨h1, h2⟩
  have h1 : a = e := h1; have h2 : b = f := h2
  rw [h1, h2]
theorem ExV.eq_iff {v w : ExV} : v = w ↔ ((v.k = w.k ∧ v.n = w.n) ∧ v.v = w.v) ∧ v.a = w.a := by
 obtain ⟨a, b, c, d⟩ := v; obtain ⟨e, f, g, h⟩ := w
 constructor
 ·rintro ⟨⟩; exact ⟨⟨⟨rfl, rfl⟩, rfl⟩, rfl⟩
 ·rintro ⟨⟨⟨h1, h2⟩, h3⟩, h4⟩
  have h1 : a = e := h1; have h2 : b = f := h2; have h3 : c = g := h3; have h4 : d = h := h4
  rw [h1, h2, h3, h4]
theorem LiV.eq_iff {v w : LiV} : v = w ↔ (v.k = w.k ∧ v.r = w.r) ∧ v.a = w.a := by cases v; cases w; simp [and_assoc]
theorem FdV.eq_iff {v w : FdV} : v = w ↔ v.n = w.n ∧ v.t = w.t := by cases v; cases w; simp
theorem CnV.eq_iff {v w : CnV} : v = w ↔ v.n = w.n ∧ v.f = w.f := by cases v; cases w; simp
theorem TdV.eq_iff {v w : TdV} : v = w ↔ ((v.p = w.p ∧ v.n = w.n) ∧ v.ps = w.ps) ∧ v.cs = w.cs := by cases v; cases w; simp [and_assoc]
theorem RdV.eq_iff {v w : RdV} : v = w ↔ ((v.p = w.p ∧ v.i = w.i) ∧ v.n = w.n) ∧ v.f = w.f := by cases v; cases w; simp [and_assoc]
theorem RuV.eq_iff {v w : RuV} : v = w ↔ ((v.r = w.r ∧ v.a = w.a) ∧ v.g = w.g) ∧ v.b = w.b := by cases v; cases w; simp [and_assoc]
theorem NeV.eq_iff {v w : NeV} : v = w ↔ v.n = w.n ∧ v.b = w.b := by cases v; cases w; simp
theorem MoV.eq_iff {v w : MoV} : v = w ↔ ((((v.n = w.n ∧ v.im = w.im) ∧ v.ty = w.ty) ∧ v.re = w.re) ∧ v.ru = w.ru) ∧ v.ne = w.ne := by cases v; cases w; simp [and_assoc]
theorem VL {A : Heap} {t : Sl} {l : List V} (h : VRow A t l) (hb : l.length ≤ 140737488355328) : SlIs (VIs A) Qb.c A t l := by
 obtain ⟨xs, h1, h2, h3⟩ := h
 exact ⟨xs, h1, h2, h3.len, hb, fun i v x hv hx => h3.get i v x hv hx⟩
section
variable {C : Ctx} {H A : Heap}
theorem SlIs.ldS {s : Sl} {l : List Str} {i : Nat} {x : Int} {K : Str → Prop} (h : StL A s l) (hle : A.le H) (hx : x = i) (hi : i < l.length) (k : K l[i]) : ixa s x fun p => Sx.ldS H (p.1, p.2 + x.toNat * 1) K :=
 SlIs.at_ h hle (z := 1) (fun _ => rfl) (by omega) hx hi fun p y hy hr => ⟨y, by have := hr 0 _ rfl; rw [Nat.add_zero] at this; exact this, by rw [hy.1]; exact k⟩
theorem Qrb {l m : List Str} {s t : Sl} {K : Bool → Heap → Prop} (hs : StL A s l) (ht : StL A t m) (hA : A.le H) (k : K (sm l m) H) :
 ift (((Sl.len s : Int) : Int) != (Sl.len t : Int))
  (K false H)
  (lp (α := Int) 0 H (fun x2 J3 H4 =>
  ift (decide ((x2 : Int) < (Sl.len s : Int)))
  (ixa s x2 fun p6 =>
  Sx.ldS H4 (p6.1, p6.2 + (x2 : Int).toNat * 1) fun x11 =>
  ixa t x2 fun p13 =>
  Sx.ldS H4 (p13.1, p13.2 + (x2 : Int).toNat * 1) fun x18 =>
  ift (!(x11 == x18))
  (K false H4)
  (J3 (w .i64 (x2 + 1)) H4))
  (K true H4))) := by
 rw [SlIs.len hs, SlIs.len ht]
 refine ift.of (fun h => ?_) (fun h => ?_)
 ·have : l ≠ m := fun e => by subst e; simp at h
  rw [QcZ this] at k; exact k
 have hl : l.length = m.length := Int.ofNat.inj (show (l.length : Int) = m.length by simpa using h)
 have hb := SlIs.bd hs
 refine ⟨fun x D => D = H ∧ ∃ i : Nat, x = (i : Int) ∧ i ≤ l.length ∧ l.take i = m.take i, fun x _ => l.length - x.toNat, ⟨rfl, 0, rfl, Nat.zero_le _, rfl⟩, ?_⟩
 rintro _ D ⟨rfl, i, rfl, hi, hq⟩
 refine ift.of (fun h => ?_) (fun h => ?_)
 ·have hlt : i < l.length := by have := of_decide_eq_true h; omega
  have hlt2 : i < m.length := by omega
  refine SlIs.ldS hs hA rfl hlt (SlIs.ldS ht hA rfl hlt2 ?_)
  refine ift.of (fun h => ?_) (fun h => ?_)
  ·have : l[i] ≠ m[i] := by simpa using h
   rw [QcZ (QhI hlt hlt2 this)] at k; exact k
  ·have : l[i] = m[i] := by simpa using h
   rw [QM (by omega) (by omega)]
   exact ⟨⟨rfl, i + 1, by omega, by omega, Qfv hlt hlt2 hq this⟩, by first | omega | (dsimp only; omega)⟩
 ·have hie : i = l.length := by have := of_decide_eq_false h; omega
  rw [QcF (QdW hie hl hq)] at k
  exact k
theorem Qtv {l m : List Str} {s t : Sl} {K : Bool → Heap → Prop} (hs : StL A s l) (ht : StL A t m) (hA : A.le H) (k : K (sm l m) H) : QaJ C s t K H := by
 apply QfS
 unfold QcW
 exact Qrb hs ht hA k
theorem Qpv : ∀ (v : V) {w : V} {x y : TV} {H : Heap} {K : Bool → Heap → Prop}, VIs A v x → VIs A w y → VB v → VB w → A.le H → K (sm v w) H → QbA C x y K H := by
 refine V.rec_ fun v ih w x y H K hx hy hv hw hA k => ?_
 have hx' := Qfq.1 hx
 have hy' := Qfq.1 hy
 apply QbA.gh
 apply Qlz
 unfold Qh0
 refine box2 fun b1 b3 H4 hle h1 h3 => fI h1 rfl (fI h3 rfl ?_)
 have hA4 := hA.trans hle
 refine jb (P := v.k = w.k ∧ v.n = w.n) H4 ?_ fun b9 hb9 => ?_
 ·have i1 := iq hx'.1 hy'.1
  exact ift.of (fun h => fI h1 rfl (fI h3 rfl ⟨rfl, yand i1 h (iq hx'.2.1 hy'.2.1)⟩)) (fun h => ⟨rfl, nand i1 h⟩)
 refine jb (P := (v.k = w.k ∧ v.n = w.n) ∧ v.s = w.s) H4 ?_ fun b18 hb18 => ?_
 ·exact ift.of (fun h => fS h1 rfl (fS h3 rfl ⟨rfl, yand hb9 h (sq hx'.2.2.1 hy'.2.2.1)⟩)) (fun h => ⟨rfl, nand hb9 h⟩)
 refine jb (P := v = w) H4 ?_ fun b27 hb27 => ⟨H, Gh.le hle, by rw [QkP hb27]; exact k⟩
 rw [V.eq_iff]
 refine ift.of (fun h => fL h1 rfl (fL h3 rfl ?_)) (fun h => ⟨rfl, nand hb18 h⟩)
 refine Qrg (VL hx'.2.2.2 hv.l) (VL hy'.2.2.2 hw.l) hA4 (fun i g1 g2 x2 y2 D Φ hD q1 q2 hΦ => cu QhU (ih _ (List.getElem_mem g1) q1 q2 (hv.ls.mem (List.getElem_mem g1)) (hw.ls.mem (List.getElem_mem g2)) hD hΦ)) ⟨rfl, yand hb18 h sm_t⟩
theorem Qqb : ∀ (v : TyV) {w : TyV} {x y : Qf} {H : Heap} {K : Bool → Heap → Prop}, TyIs A v x → TyIs A w y → A.le H → K (sm v w) H → QbS C x y K H := by
 refine TyV.rec_ fun v ih w x y H K hx hy hA k => ?_
 have hx' := Qeq.1 hx
 have hy' := Qeq.1 hy
 apply QbS.gh
 apply Qme
 unfold QiK
 refine box2 fun b1 b3 H4 hle h1 h3 => fS h1 rfl (fS h3 rfl ?_)
 refine jb (P := v = w) H4 ?_ fun b hb => ⟨H, Gh.le hle, by rw [QkP hb]; exact k⟩
 rw [TyV.eq_iff]
 have i1 := sqN hx'.1 hy'.1
 refine ift.of (fun h => fL h1 rfl (fL h3 rfl ?_)) (fun h => ⟨rfl, nand i1 h⟩)
 exact QsF hx'.2 hy'.2 (hA.trans hle) (fun i g1 g2 x2 y2 D Φ hD q1 q2 hΦ => cu QiA (ih _ (List.getElem_mem g1) q1 q2 hD hΦ)) ⟨rfl, yand i1 h sm_t⟩
theorem Qni : ∀ (v : ExV) {w : ExV} {x y : Qa} {H : Heap} {K : Bool → Heap → Prop}, ExIs A v x → ExIs A w y → A.le H → K (sm v w) H → Qcv C x y K H := by
 refine ExV.rec_ fun v ih w x y H K hx hy hA k => ?_
 have hx' := Qa6.1 hx
 have hy' := Qa6.1 hy
 apply Qcv.gh
 apply Qmd
 unfold QiJ
 refine box2 fun b1 b3 H4 hle h1 h3 => fI h1 rfl (fI h3 rfl ?_)
 have hA4 := hA.trans hle
 refine jb (P := v.k = w.k ∧ v.n = w.n) H4 ?_ fun b9 hb9 => ?_
 ·have i1 := iq hx'.1 hy'.1
  exact ift.of (fun h => fS h1 rfl (fS h3 rfl ⟨rfl, yand i1 h (sqN hx'.2.1 hy'.2.1)⟩)) (fun h => ⟨rfl, nand i1 h⟩)
 refine jb (P := (v.k = w.k ∧ v.n = w.n) ∧ v.v = w.v) H4 ?_ fun b18 hb18 => ?_
 ·refine ift.of (fun h => fT h1 (x := x.Value_) (fun i u hi => ?_) (fT h3 (x := y.Value_) (fun i u hi => ?_) (Qpv _ hx'.2.2.1 hy'.2.2.1 hx'.2.2.2.1 hy'.2.2.2.1 hA4 ⟨rfl, yand hb9 h sm_t⟩))) (fun h => ⟨rfl, nand hb9 h⟩)
  all_goals
   match i, hi with
   | 0, hi => exact hi
   | 1, hi => exact hi
   | 2, hi => exact hi
   | 3, hi => exact hi
   | i + 4, hi => simp [Qb.c] at hi
 refine jb (P := v = w) H4 ?_ fun b27 hb27 => ⟨H, Gh.le hle, by rw [QkP hb27]; exact k⟩
 rw [ExV.eq_iff]
 refine ift.of (fun h => fL h1 rfl (fL h3 rfl ?_)) (fun h => ⟨rfl, nand hb18 h⟩)
 exact Qn7 hx'.2.2.2.2 hy'.2.2.2.2 hA4 (fun i g1 g2 x2 y2 D Φ hD q1 q2 hΦ => cu QfZ (ih _ (List.getElem_mem g1) q1 q2 hD hΦ)) ⟨rfl, yand hb18 h sm_t⟩
theorem QnU {v w : LiV} {x y : Qd} {K : Bool → Heap → Prop} (hx : LiIs A v x) (hy : LiIs A w y) (hA : A.le H) (k : K (sm v w) H) : Qbv C x y K H := by
 apply Qbv.gh
 apply QkD
 unfold QgF
 refine box2 fun b1 b3 H4 hle h1 h3 => fI h1 rfl (fI h3 rfl ?_)
 refine jb (P := v.k = w.k ∧ v.r = w.r) H4 ?_ fun b9 hb9 => ?_
 ·have i1 := iq hx.1 hy.1
  exact ift.of (fun h => fS h1 rfl (fS h3 rfl ⟨rfl, yand i1 h (sqN hx.2.1 hy.2.1)⟩)) (fun h => ⟨rfl, nand i1 h⟩)
 refine jb (P := v = w) H4 ?_ fun b hb => ⟨H, Gh.le hle, by rw [QkP hb]; exact k⟩
 rw [LiV.eq_iff]
 refine ift.of (fun h => fL h1 rfl (fL h3 rfl ?_)) (fun h => ⟨rfl, nand hb9 h⟩)
 exact Qn7 hx.2.2 hy.2.2 (hA.trans hle) (fun i g1 g2 x2 y2 D Φ hD q1 q2 hΦ => cu QfZ (Qni _ q1 q2 hD hΦ)) ⟨rfl, yand hb9 h sm_t⟩
theorem Qvi {x : Qc} (i : Nat) (u : Value) (hi : (Qf.c x.Type_)[i]? = some u) : (Qc.c x)[1 + i]? = some u := by
 match i, hi with
 | 0, hi => exact hi
 | 1, hi => exact hi
 | i + 2, hi => simp [Qf.c] at hi
theorem Qpu {v w : FdV} {x y : Qc} {K : Bool → Heap → Prop} (hx : FdIs A v x) (hy : FdIs A w y) (hA : A.le H) (k : K (sm v w) H) : QbX C x y K H := by
 apply QbX.gh
 apply Qly
 unfold QhZ
 refine box2 fun b1 b3 H4 hle h1 h3 => fS h1 rfl (fS h3 rfl ?_)
 refine jb (P := v = w) H4 ?_ fun b hb => ⟨H, Gh.le hle, by rw [QkP hb]; exact k⟩
 rw [FdV.eq_iff]
 have i1 := sqN hx.1 hy.1
 exact ift.of (fun h => fT h1 Qvi (fT h3 Qvi (Qqb _ hx.2 hy.2 (hA.trans hle) ⟨rfl, yand i1 h sm_t⟩))) (fun h => ⟨rfl, nand i1 h⟩)
theorem QoT {l m : List FdV} {s t : Sl} {K : Bool → Heap → Prop} (hs : FdL A s l) (ht : FdL A t m) (hA : A.le H) (k : K (sm l m) H) : Qr C s t (.func (.func 76) (List.toArray []) (List.toArray []) : Value) K H :=
 QoS hs ht hA (fun i g1 g2 x2 y2 D Φ hD q1 q2 hΦ => cu QlH (Qpu q1 q2 hD hΦ)) k
theorem Qre {l m : List LiV} {s t : Sl} {K : Bool → Heap → Prop} (hs : LiL A s l) (ht : LiL A t m) (hA : A.le H) (k : K (sm l m) H) : Qs C s t (.func (.func 84) (List.toArray []) (List.toArray []) : Value) K H :=
 QpL hs ht hA (fun i g1 g2 x2 y2 D Φ hD q1 q2 hΦ => cu QkL (QnU q1 q2 hD hΦ)) k
theorem Qrk {v w : Str} {x y : Ql} {K : Bool → Heap → Prop} (hx : ImIs v x) (hy : ImIs w y) (k : K (sm v w) H) : QdL C x y K H := by
 apply QdL.gh
 apply Qns
 unfold Qkk
 refine box2 fun b1 b3 H4 hle h1 h3 => fS h1 rfl (fS h3 rfl ⟨H, Gh.le hle, ?_⟩)
 rw [QkP (sqN hx hy)]; exact k
theorem QpQ {v w : CnV} {x y : Qe} {K : Bool → Heap → Prop} (hx : CnIs A v x) (hy : CnIs A w y) (hA : A.le H) (k : K (sm v w) H) : Qcq C x y K H := by
 apply Qcq.gh
 apply Ql9
 unfold QiF
 refine box2 fun b1 b3 H4 hle h1 h3 => fS h1 rfl (fS h3 rfl ?_)
 refine jb (P := v = w) H4 ?_ fun b hb => ⟨H, Gh.le hle, by rw [QkP hb]; exact k⟩
 rw [CnV.eq_iff]
 have i1 := sqN hx.1 hy.1
 exact ift.of (fun h => fL h1 rfl (fL h3 rfl (QoT hx.2 hy.2 (hA.trans hle) ⟨rfl, yand i1 h sm_t⟩))) (fun h => ⟨rfl, nand i1 h⟩)
theorem Qrl {v w : TdV} {x y : Qg} {K : Bool → Heap → Prop} (hx : TdIs A v x) (hy : TdIs A w y) (hA : A.le H) (k : K (sm v w) H) : QdM C x y K H := by
 apply QdM.gh
 apply Qnt
 unfold Qkl
 refine box2 fun b1 b3 H4 hle h1 h3 => fB h1 rfl (fB h3 rfl ?_)
 have hA4 := hA.trans hle
 refine jb (P := v.p = w.p ∧ v.n = w.n) H4 ?_ fun b9 hb9 => ?_
 ·have i1 := bq hx.1 hy.1
  exact ift.of (fun h => fS h1 rfl (fS h3 rfl ⟨rfl, yand i1 h (sqN hx.2.1 hy.2.1)⟩)) (fun h => ⟨rfl, nand i1 h⟩)
 refine jb (P := (v.p = w.p ∧ v.n = w.n) ∧ v.ps = w.ps) H4 ?_ fun b18 hb18 => ?_
 ·exact ift.of (fun h => fL h1 rfl (fL h3 rfl (Qtv hx.2.2.1 hy.2.2.1 hA4 ⟨rfl, yand hb9 h sm_t⟩))) (fun h => ⟨rfl, nand hb9 h⟩)
 refine jb (P := v = w) H4 ?_ fun b hb => ⟨H, Gh.le hle, by rw [QkP hb]; exact k⟩
 rw [TdV.eq_iff]
 exact ift.of (fun h => fL h1 rfl (fL h3 rfl (QpK hx.2.2.2 hy.2.2.2 hA4 (fun i g1 g2 x2 y2 D Φ hD q1 q2 hΦ => cu Qmh (QpQ q1 q2 hD hΦ)) ⟨rfl, yand hb18 h sm_t⟩))) (fun h => ⟨rfl, nand hb18 h⟩)
theorem Qrm {v w : RdV} {x y : Qh} {K : Bool → Heap → Prop} (hx : RdIs A v x) (hy : RdIs A w y) (hA : A.le H) (k : K (sm v w) H) : QdN C x y K H := by
 apply QdN.gh
 apply Qnu
 unfold Qkm
 refine box2 fun b1 b3 H4 hle h1 h3 => fB h1 rfl (fB h3 rfl ?_)
 have hA4 := hA.trans hle
 refine jb (P := v.p = w.p ∧ v.i = w.i) H4 ?_ fun b9 hb9 => ?_
 ·have i1 := bq hx.1 hy.1
  exact ift.of (fun h => fB h1 rfl (fB h3 rfl ⟨rfl, yand i1 h (bq hx.2.1 hy.2.1)⟩)) (fun h => ⟨rfl, nand i1 h⟩)
 refine jb (P := (v.p = w.p ∧ v.i = w.i) ∧ v.n = w.n) H4 ?_ fun b18 hb18 => ?_
 ·exact ift.of (fun h => fS h1 rfl (fS h3 rfl ⟨rfl, yand hb9 h (sqN hx.2.2.1 hy.2.2.1)⟩)) (fun h => ⟨rfl, nand hb9 h⟩)
 refine jb (P := v = w) H4 ?_ fun b hb => ⟨H, Gh.le hle, by rw [QkP hb]; exact k⟩
 rw [RdV.eq_iff]
 exact ift.of (fun h => fL h1 rfl (fL h3 rfl (QoT hx.2.2.2 hy.2.2.2 hA4 ⟨rfl, yand hb18 h sm_t⟩))) (fun h => ⟨rfl, nand hb18 h⟩)
theorem Qrn {v w : RuV} {x y : Qk} {K : Bool → Heap → Prop} (hx : RuIs A v x) (hy : RuIs A w y) (hA : A.le H) (k : K (sm v w) H) : QdO C x y K H := by
 apply QdO.gh
 apply Qnv
 unfold Qkn
 refine box2 fun b1 b3 H4 hle h1 h3 => fS h1 rfl (fS h3 rfl ?_)
 have hA4 := hA.trans hle
 refine jb (P := v.r = w.r ∧ v.a = w.a) H4 ?_ fun b9 hb9 => ?_
 ·have i1 := sqN hx.1 hy.1
  exact ift.of (fun h => fL h1 rfl (fL h3 rfl (Qn7 hx.2.1 hy.2.1 hA4 (fun i g1 g2 x2 y2 D Φ hD q1 q2 hΦ => cu QfZ (Qni _ q1 q2 hD hΦ)) ⟨rfl, yand i1 h sm_t⟩))) (fun h => ⟨rfl, nand i1 h⟩)
 refine jb (P := (v.r = w.r ∧ v.a = w.a) ∧ v.g = w.g) H4 ?_ fun b18 hb18 => ?_
 ·exact ift.of (fun h => fL h1 rfl (fL h3 rfl (Qtv hx.2.2.1 hy.2.2.1 hA4 ⟨rfl, yand hb9 h sm_t⟩))) (fun h => ⟨rfl, nand hb9 h⟩)
 refine jb (P := v = w) H4 ?_ fun b hb => ⟨H, Gh.le hle, by rw [QkP hb]; exact k⟩
 rw [RuV.eq_iff]
 exact ift.of (fun h => fL h1 rfl (fL h3 rfl (Qre hx.2.2.2 hy.2.2.2 hA4 ⟨rfl, yand hb18 h sm_t⟩))) (fun h => ⟨rfl, nand hb18 h⟩)
theorem Qro {v w : NeV} {x y : Qj} {K : Bool → Heap → Prop} (hx : NeIs A v x) (hy : NeIs A w y) (hA : A.le H) (k : K (sm v w) H) : QdP C x y K H := by
 apply QdP.gh
 apply Qnw
 unfold Qko
 refine box2 fun b1 b3 H4 hle h1 h3 => fS h1 rfl (fS h3 rfl ?_)
 refine jb (P := v = w) H4 ?_ fun b hb => ⟨H, Gh.le hle, by rw [QkP hb]; exact k⟩
 rw [NeV.eq_iff]
 have i1 := sqN hx.1 hy.1
 exact ift.of (fun h => fL h1 rfl (fL h3 rfl (Qre hx.2 hy.2 (hA.trans hle) ⟨rfl, yand i1 h sm_t⟩))) (fun h => ⟨rfl, nand i1 h⟩)
theorem QqN {v w : MoV} {x y : Qi} {K : Bool → Heap → Prop} (hx : MoIs A v x) (hy : MoIs A w y) (hA : A.le H) (k : K (sm v w) H) : Qdx C x y K H := by
 apply Qdx.gh
 apply QoW
 unfold QlV
 refine box2 fun b1 b3 H4 hle h1 h3 => fS h1 rfl (fS h3 rfl ?_)
 have hA4 := hA.trans hle
 obtain ⟨x1, x2, x3, x4, x5, x6⟩ := hx
 obtain ⟨y1, y2, y3, y4, y5, y6⟩ := hy
 refine jb (P := v.n = w.n ∧ v.im = w.im) H4 ?_ fun b9 hb9 => ?_
 ·have i1 := sqN x1 y1
  exact ift.of (fun h => fL h1 rfl (fL h3 rfl (QqQ x2 y2 hA4 (fun i g1 g2 x2 y2 D Φ hD q1 q2 hΦ => cu QnI (Qrk q1 q2 hΦ)) ⟨rfl, yand i1 h sm_t⟩))) (fun h => ⟨rfl, nand i1 h⟩)
 refine jb (P := (v.n = w.n ∧ v.im = w.im) ∧ v.ty = w.ty) H4 ?_ fun b20 hb20 => ?_
 ·exact ift.of (fun h => fL h1 rfl (fL h3 rfl (QpM x3 y3 hA4 (fun i g1 g2 x2 y2 D Φ hD q1 q2 hΦ => cu QnJ (Qrl q1 q2 hD hΦ)) ⟨rfl, yand hb9 h sm_t⟩))) (fun h => ⟨rfl, nand hb9 h⟩)
 refine jb (P := ((v.n = w.n ∧ v.im = w.im) ∧ v.ty = w.ty) ∧ v.re = w.re) H4 ?_ fun b31 hb31 => ?_
 ·exact ift.of (fun h => fL h1 rfl (fL h3 rfl (QqR x4 y4 hA4 (fun i g1 g2 x2 y2 D Φ hD q1 q2 hΦ => cu QnK (Qrm q1 q2 hD hΦ)) ⟨rfl, yand hb20 h sm_t⟩))) (fun h => ⟨rfl, nand hb20 h⟩)
 refine jb (P := (((v.n = w.n ∧ v.im = w.im) ∧ v.ty = w.ty) ∧ v.re = w.re) ∧ v.ru = w.ru) H4 ?_ fun b42 hb42 => ?_
 ·exact ift.of (fun h => fL h1 rfl (fL h3 rfl (QsE x5 y5 hA4 (fun i g1 g2 x2 y2 D Φ hD q1 q2 hΦ => cu QnL (Qrn q1 q2 hD hΦ)) ⟨rfl, yand hb31 h sm_t⟩))) (fun h => ⟨rfl, nand hb31 h⟩)
 refine jb (P := v = w) H4 ?_ fun b hb => ⟨H, Gh.le hle, by rw [QkP hb]; exact k⟩
 rw [MoV.eq_iff]
 exact ift.of (fun h => fL h1 rfl (fL h3 rfl (Qrf x6 y6 hA4 (fun i g1 g2 x2 y2 D Φ hD q1 q2 hΦ => cu QnM (Qro q1 q2 hD hΦ)) ⟨rfl, yand hb42 h sm_t⟩))) (fun h => ⟨rfl, nand hb42 h⟩)
end
end
section
open Go Go.Proofs
mutual
def vaD : List Str → ExV → List Str
 | ns, .mk k n _ a => if k = 2 then (if ns.contains n then ns else ns ++ [n]) else vasD ns a
def vasD : List Str → List ExV → List Str
 | ns, [] => ns
 | ns, v :: l => vasD (vaD ns v) l
end
theorem QtM (ns : List Str) (v : ExV) : vaD ns v = if v.k = 2 then (if ns.contains v.n then ns else ns ++ [v.n]) else vasD ns v.a := by obtain ⟨k, n, u, a⟩ := v; simp only [vaD, ExV.k, ExV.n, ExV.a]; rfl
theorem QpE : ∀ (l : List ExV) (ns : List Str) (v : ExV), vasD ns (l ++ [v]) = vaD (vasD ns l) v
 | [], ns, v => rfl
 | w :: l, ns, v => by rw [List.cons_append]; simp only [vasD, QpE l]
theorem QpF {l : List ExV} {ns : List Str} {i : Nat} (h : i < l.length) : vasD ns (l.take (i + 1)) = vaD (vasD ns (l.take i)) l[i] := by
 rw [List.take_add_one, List.getElem?_eq_getElem h, Option.toList_some, QpE]
theorem QsB : ∀ (v : ExV) (ns : List Str), (vaD ns v).length ≤ ns.length + exSz v := by
 refine ExV.rec_ fun v ih ns => ?_
 rw [QtM, QlF]
 have : ∀ (l : List ExV) (ns : List Str), (∀ w ∈ l, ∀ ns : List Str, (vaD ns w).length ≤ ns.length + exSz w) → (vasD ns l).length ≤ ns.length + sL exSz l := by
  intro l
  induction l with
  | nil => intro ns _; exact Nat.le_refl _
  | cons w l ih =>
   intro ns h
   have h1 := h w (List.mem_cons_self ..) ns
   have h2 := ih (vaD ns w) fun w hw => h w (List.mem_cons_of_mem _ hw)
   simp only [vasD, sL]; omega
 have := this v.a ns ih
 split
 ·split
  ·omega
  ·simp only [List.length_append, List.length_cons, List.length_nil]; omega
 ·omega
theorem fmS (l : List Str) : l.flatMap (fun x => [sv x]) = l.map sv := by
 induction l with
 | nil => rfl
 | cons a l ih => rw [List.flatMap_cons, ih]; rfl
section
variable {C : Ctx} {A F : Heap} {b3 b5 : Nat}
structure Inv (F D : Heap) (b3 : Nat) (ns : List Str) (s : Sl) : Prop where
 cell : D b3 = some (true, .row [slv s])
 no : F b3 = none
 own : OwnF F D 1 s (ns.map sv)
 ne : ∀ p, s.p = some p → p.1 ≠ b3
theorem Inv.up {D E : Heap} {ns : List Str} {s : Sl} (h : Inv F D b3 ns s) (hle : D.le E) : Inv F E b3 ns s := ⟨hle _ _ h.cell, h.no, h.own.up hle, h.ne⟩
theorem Inv.len {D : Heap} {ns : List Str} {s : Sl} (h : Inv F D b3 ns s) : s.len = ns.length := by have := h.own.own.1; simpa using this.symm
theorem Qva {F D : Heap} {b : Nat} {g : GO} (h : F.le D) (hb : D b = some (true, g)) : (F.put b g).le D := fun c e hc => by
 by_cases hcb : c = b
 ·subst hcb; rw [Heap.put_same] at hc; injection hc with hc; subst hc; exact hb
 ·rw [Heap.put_ne _ _ _ hcb] at hc; exact h _ _ hc
theorem QsN {D : Heap} {ns : List Str} {s : Sl} {x : Str} {K : Bool → Heap → Prop} (hr : rdsl D s (ns.map sv)) (hl : s.len = ns.length) (hb : ns.length ≤ 1000000) (k : K (ns.contains x) D) : Qbe C s x K D := by
 apply Qfd
 unfold Qcf
 apply QfT
 unfold QcX
 have hs : SlIs (fun (v : Str) (x : Str) => x = v) (fun x => [sv x]) D s ns := ⟨ns, by rw [fmS]; exact hr, hl, rfl, by omega, fun i v x hv hx => by rw [hv] at hx; injection hx with hx; exact hx.symm⟩
 rw [hl]
 refine ⟨fun y E => E = D ∧ ∃ i : Nat, y = (i : Int) ∧ i ≤ ns.length ∧ x ∉ ns.take i, fun y _ => ns.length - y.toNat, ⟨rfl, 0, rfl, Nat.zero_le _, by simp⟩, ?_⟩
 rintro _ E ⟨rfl, i, rfl, hi, hno⟩
 refine ift.of (fun h => ?_) (fun h => ?_)
 ·have hlt : i < ns.length := by have := of_decide_eq_true h; omega
  refine SlIs.at_ hs (Heap.le.refl _) (z := 1) (fun _ => rfl) (by omega) rfl hlt fun p y hy hr => ⟨y, hr 0 _ rfl, ?_⟩
  rw [hy]
  refine ift.of (fun h => ?_) (fun h => ?_)
  ·have hx : x = ns[i] := beq_iff_eq.1 h
   have hc : ns.contains x = true := by rw [List.contains_iff_mem, hx]; exact List.getElem_mem hlt
   rw [hc] at k
   have e0 : decide ((i : Int) ≥ 0) = true := decide_eq_true (by omega)
   dsimp only
   rw [e0]; exact k
  ·have hx : x ≠ ns[i] := fun e => by rw [e] at h; simp at h
   rw [QM (by omega) (by omega)]
   refine ⟨⟨rfl, i + 1, by omega, by omega, ?_⟩, by first | omega | (dsimp only; omega)⟩
   rw [List.take_add_one, List.getElem?_eq_getElem hlt, Option.toList_some, List.mem_append, List.mem_singleton]
   exact fun h => h.elim hno hx
 ·have hie : i = ns.length := by have := of_decide_eq_false h; omega
  rw [hie, List.take_length] at hno
  have hc : ns.contains x = false := by
   cases hh : ns.contains x with
   | false => rfl
   | true => exact absurd (List.contains_iff_mem.1 hh) hno
  rw [hc] at k; exact k
theorem fL0 {D : Heap} {c : Nat} {m : Bool} {s : Sl} {K : Sl → Prop} (h : D c = some (m, .row [slv s])) (k : K s) : ldL D (c, 0) K := ⟨s, by rw [QbU h]; rfl, k⟩
theorem Qs1 (hA : A.le F) (h5 : F b5 = some (true, .row [.func (.func 97) (List.toArray []) (List.toArray [pv (some (b3, 0)), pv (some (b5, 0))])])) : ∀ (e : ExV) {x : Qa} {D : Heap} {ns : List Str} {s : Sl} {Φ : Heap → Prop}, ExIs A e x → Inv F D b3 ns s → ns.length + exSz e ≤ 1000000 → (∀ D2 s2, Inv F D2 b3 (vaD ns e) s2 → Φ D2) → QkZ C x (b3, 0) (b5, 0) Φ D := by
 refine ExV.rec_ fun e ih x D ns s Φ hx hI hsz k => ?_
 obtain ⟨ek, en, hv, hB, hs⟩ := Qa6.1 hx
 have hlen := hs.len
 apply Qnx
 unfold Qkp
 refine box1 fun b1 D1 hle h1 => fI h1 rfl ?_
 rw [ek]
 have hI1 := hI.up hle
 rw [QtM] at k
 have hp := QsT e
 refine ift.of (fun h => ?_) (fun h => ?_)
 ·rw [if_pos (by simpa using h)] at k
  refine fL0 hI1.cell (fS h1 rfl ?_)
  rw [en.1]
  refine QsN hI1.own.own.rdsl hI1.len (by omega) ?_
  refine ift.of (fun h => ?_) (fun h => ?_)
  ·rw [if_neg (by intro e; rw [e] at h; cases h)] at k
   refine fL0 hI1.cell (fS h1 rfl ?_)
   have ho : OwnF (F.put b3 (.row [slv s])) D1 1 s (ns.map sv) := ⟨Qva hI1.own.le hI1.cell, hI1.own.own, fun p hp => by rw [Heap.put_ne _ _ _ (hI1.ne p hp)]; exact hI1.own.fresh p hp⟩
   have hl := hI1.len
   refine QsH ho rfl (by omega) (by omega) fun r D2 h2 hr => ?_
   rw [en.1] at h2
   have c2 : D2 b3 = some (true, .row [slv s]) := h2.le _ _ (Heap.put_same ..)
   refine ⟨_, c2, Nat.zero_lt_one, ?_⟩
   have hne : ∀ p, r.p = some p → p.1 ≠ b3 := fun p hp e' => by
    have := h2.fresh p hp
    rw [e', Heap.put_same] at this; cases this
   refine k _ r ⟨Heap.put_same .., hI1.no, ⟨?_, ?_, fun p hp => ?_⟩, hne⟩
   ·exact fun c v hc => by
     have hcb : c ≠ b3 := fun e' => by rw [e', hI1.no] at hc; cases hc
     rw [Heap.put_ne _ _ _ hcb]
     exact h2.le _ _ (by rw [Heap.put_ne _ _ _ hcb]; exact hc)
   ·have := h2.own
    rw [show ns.map sv ++ [sv e.n] = (ns ++ [e.n]).map sv by simp] at this
    exact this.but (fun c v hc hv => by rw [Heap.put_ne _ _ _ hc]; exact hv) hne
   ·have := h2.fresh p hp
    rw [Heap.put_ne _ _ _ (hne p hp)] at this; exact this
  ·have hc : ns.contains e.n = true := by simpa using h
   rw [if_pos hc] at k
   exact k D1 s hI1
 ·rw [if_neg (fun e' => by rw [e'] at h; cases h)] at k
  rw [QlF] at hsz
  refine fL h1 rfl ?_
  rw [hlen]
  have hvl : ∀ i ≤ e.a.length, (vasD ns (e.a.take i)).length ≤ ns.length + sL exSz (e.a.take i) := by
   intro i
   induction i with
   | zero => intro _; simp [vasD]
   | succ i ih =>
    intro hi
    have := ih (by omega)
    rw [QpF (by omega), QgD (by omega)]
    have := QsB (e.a[i]'(by omega)) (vasD ns (e.a.take i))
    omega
  refine ⟨fun y E => ∃ (i : Nat) (s : Sl), y = (i : Int) ∧ i ≤ e.a.length ∧ Inv F E b3 (vasD ns (e.a.take i)) s, fun y _ => e.a.length - y.toNat, ⟨0, s, rfl, Nat.zero_le _, hI1⟩, ?_⟩
  rintro _ E ⟨i, s, rfl, hi, hE⟩
  have hbd := hs.bd
  refine ift.of (fun h => ?_) (fun h => ?_)
  ·have hlt : i < e.a.length := by have := of_decide_eq_true h; omega
   refine SlIs.ld hs (hA.trans hE.own.le) Qbw (by omega) rfl hlt fun y hy => ?_
   intro b33 n33
   refine nwT rfl ?_
   have l33 := Heap.le_put n33 (g := .row (Qa.c y)) (m := true)
   have c33 : (E.put b33 (.row (Qa.c y))) b33 = some (true, .row (Qa.c y)) := Heap.put_same ..
   have hE2 := hE.up l33
   generalize E.put b33 (.row (Qa.c y)) = E2 at *
   refine ⟨_, by rw [QbU (hE2.own.le _ _ h5)]; rfl, bxT c33 ⟨97, [], [pv (some (b3, 0)), pv (some (b5, 0))], rfl, Qj9, ?_⟩⟩
   refine ih _ (List.getElem_mem hlt) hy hE2 ?_ fun D3 s3 h3 => ?_
   ·have := hvl i hi
    have h2 : sL exSz (e.a.take (i + 1)) ≤ sL exSz e.a := by
     have := Qnh exSz (e.a.take (i + 1)) (e.a.drop (i + 1))
     rw [List.take_append_drop] at this; omega
    rw [QgD hlt] at h2
    omega
   ·rw [QM (by omega) (by omega)]
    exact ⟨⟨i + 1, s3, by omega, by omega, by rw [QpF hlt]; exact h3⟩, by first | omega | (dsimp only; omega)⟩
  ·have hie : i = e.a.length := by have := of_decide_eq_false h; omega
   subst hie
   rw [List.take_length] at hE
   exact k E s hE
theorem QtV {H : Heap} {e : ExV} {x : Qa} {K : Sl → Heap → Prop} (hx : ExIs A e x) (hA : A.le H) (hsz : exSz e ≤ 1000000) (k : ∀ D s, H.le D → SlIs (fun (v : Str) (x : Str) => x = v) (fun x => [sv x]) D s (vaD [] e) → K s D) : QkH C x K H := by
 apply QoX
 unfold QlW
 refine box1 fun b1 H2 hle h1 => ?_
 intro b3 n3 b5 n5
 have hne : b5 ≠ b3 := fun e => by rw [e, Heap.put_same] at n5; cases n5
 have n5' : H2 b5 = none := by rw [Heap.put_ne _ _ _ hne] at n5; exact n5
 refine ⟨_, Heap.put_same .., Nat.zero_lt_one, ?_⟩
 dsimp only
 rw [Heap.put_put, show List.set [Value.nilFunc] 0 (.func (.func 97) (List.toArray []) (List.toArray [pv (some (b3, 0)), pv (some (b5, 0))])) = [.func (.func 97) (List.toArray []) (List.toArray [pv (some (b3, 0)), pv (some (b5, 0))])] from rfl]
 generalize hFN : Value.func (.func 97) (List.toArray []) (List.toArray [pv (some (b3, 0)), pv (some (b5, 0))]) = FN
 have hF5 : (H2.put b5 (.row [FN])) b5 = some (true, .row [FN]) := Heap.put_same ..
 have hF3 : (H2.put b5 (.row [FN])) b3 = none := by rw [Heap.put_ne _ _ _ (Ne.symm hne)]; exact n3
 have hFD : (H2.put b5 (.row [FN])).le ((H2.put b3 (.row [slv Sl.nil])).put b5 (.row [FN])) := fun c v hc => by
  by_cases h5 : c = b5
  ·subst h5; rw [Heap.put_same] at hc ⊢; exact hc
  ·rw [Heap.put_ne _ _ _ h5] at hc ⊢
   have h3 : c ≠ b3 := fun e => by rw [e, n3] at hc; cases hc
   rw [Heap.put_ne _ _ _ h3]; exact hc
 have hHF := Heap.le_put n5' (g := .row [FN]) (m := true)
 have c3 : ((H2.put b3 (.row [slv Sl.nil])).put b5 (.row [FN])) b3 = some (true, .row [slv Sl.nil]) := by rw [Heap.put_ne _ _ _ (Ne.symm hne), Heap.put_same]
 generalize (H2.put b3 (.row [slv Sl.nil])).put b5 (.row [FN]) = D at *
 generalize H2.put b5 (.row [FN]) = F at *
 refine ⟨FN, by rw [QbU (hFD _ _ hF5)]; rfl, bxT (hFD _ _ (hHF _ _ h1)) ?_⟩
 rw [← hFN]
 refine ⟨97, [], [pv (some (b3, 0)), pv (some (b5, 0))], rfl, Qj9, ?_⟩
 refine Qs1 ((hA.trans hle).trans hHF) (by rw [hFN]; exact hF5) e hx (ns := []) (s := Sl.nil) ⟨c3, hF3, ⟨hFD, Own.nil _ _, Fresh.nil _⟩, fun p hp => by cases hp⟩ (by simpa using hsz) fun D2 s2 h2 => ?_
 have hvl := QsB e []
 refine fL0 h2.cell (k D2 s2 ((hle.trans hHF).trans h2.own.le) ⟨vaD [] e, ?_, h2.len, rfl, by simp only [List.length_nil] at hvl; omega, fun i v x hv hx => by rw [hv] at hx; injection hx with hx; exact hx.symm⟩)
 have := h2.own.own.rdsl
 rw [fmS]
 exact this
end
end
section
open Go
def V0 : V := .mk 0 0 [] []
def awX : ExV := .mk 2 [88] V0 []
def awZ : ExV := .mk 2 [90] V0 []
def awTa : TyV := .mk [39, 97] []
def awI : TyV := .mk [105, 110, 116] []
def awTd : TdV := ⟨true, [108, 105, 115, 116], [[39, 97]], [⟨[110, 105, 108], []⟩, ⟨[99, 111, 110, 115], [⟨[104, 101, 97, 100], awTa⟩, ⟨[], .mk [108, 105, 115, 116] [awTa]⟩]⟩]⟩
def awRd : RdV := ⟨true, true, [101, 100, 103, 101], [⟨[102, 114, 111, 109], awI⟩, ⟨[116, 111], awI⟩]⟩
def awRu : RuV := ⟨[112, 97, 116, 104], [awX, awZ], [[], [99, 111, 117, 110, 116]], [⟨1, [98, 97, 115, 101, 46, 112, 97, 116, 104], [awX, .mk 3 [] V0 []]⟩, ⟨4, [90], [awX]⟩]⟩
def awNe : NeV := ⟨[108, 111, 111, 112], [⟨2, [101, 100, 103, 101], [awX, awX]⟩, ⟨3, [], [.mk 5 [110, 105, 108] V0 []]⟩]⟩
def awM : MoV := ⟨[103, 114, 97, 112, 104], [[98, 97, 115, 101]], [awTd], [awRd], [awRu], [awNe]⟩
def awT : Str := [109, 111, 100, 117, 108, 101, 32, 103, 114, 97, 112, 104, 10, 105, 109, 112, 111, 114, 116, 32, 98, 97, 115, 101, 10, 112, 117, 98, 32, 116, 121, 112, 101, 32, 108, 105, 115, 116, 40, 39, 97, 41, 32, 61, 32, 110, 105, 108, 32, 124, 32, 99, 111, 110, 115, 40, 104, 101, 97, 100, 58, 32, 39, 97, 44, 32, 108, 105, 115, 116, 40, 39, 97, 41, 41, 10, 112, 117, 98, 32, 105, 110, 112, 117, 116, 32, 101, 100, 103, 101, 40, 102, 114, 111, 109, 58, 32, 105, 110, 116, 44, 32, 116, 111, 58, 32, 105, 110, 116, 41, 10, 112, 97, 116, 104, 40, 88, 44, 32, 99, 111, 117, 110, 116, 40, 90, 41, 41, 32, 58, 45, 32, 98, 97, 115, 101, 46, 112, 97, 116, 104, 40, 88, 44, 32, 95, 41, 44, 32, 90, 32, 61, 32, 88, 46, 10, 110, 101, 118, 101, 114, 32, 108, 111, 111, 112, 32, 58, 45, 32, 110, 111, 116, 32, 101, 100, 103, 101, 40, 88, 44, 32, 88, 41, 44, 32, 40, 110, 105, 108, 41, 46, 10]
theorem aw_c : moC awM = 0 := by decide +kernel
theorem aw_t : moT awM = awT := by decide +kernel
theorem aw_d : moD awM ≤ 100 := by decide +kernel
end
section
open Go Go.Proofs
/-- a module that nothing was laid into yet -/
def zM : List Value := Qi.c Qi.zero
open Classical in
/-- all but such modules -/
noncomputable def G (D : Heap) : Heap := fun b => if D b = some (true, .row zM) then none else D b
theorem G_le (D : Heap) : (G D).le D := fun c e h => by
 unfold G at h
 split at h
 ·cases h
 ·exact h
theorem Qtp {D : Heap} {c : Nat} {e : Bool × GO} (h : D c = some e) (hn : e ≠ (true, .row zM)) : G D c = some e := by
 unfold G
 rw [if_neg (fun h' => hn (Option.some.inj (h.symm.trans h')))]; exact h
theorem Qbt {A B : Heap} (h : A.le B) : (G A).le (G B) := fun c e hc => by
 refine Qtp (h _ _ (G_le A _ _ hc)) fun he => ?_
 subst he
 unfold G at hc
 split at hc
 ·cases hc
 ·rename_i h2; exact h2 hc
theorem all1 {α β : Type} {P : α → β → Prop} {v : α} {x : β} (h : P v x) : ∀ (i : Nat) (v' : α) (x' : β), [v][i]? = some v' → [x][i]? = some x' → P v' x'
 | 0, v', x', hv, hx => by simp at hv hx; subst hv; subst hx; exact h
 | i + 1, v', x', hv, hx => by simp at hv
theorem all2 {α β : Type} {P : α → β → Prop} {v w : α} {x y : β} (h : P v x) (h2 : P w y) : ∀ (i : Nat) (v' : α) (x' : β), [v, w][i]? = some v' → [x, y][i]? = some x' → P v' x'
 | 0, v', x', hv, hx => by simp at hv hx; subst hv; subst hx; exact h
 | 1, v', x', hv, hx => by simp at hv hx; subst hv; subst hx; exact h2
 | i + 2, v', x', hv, hx => by simp at hv
theorem sl0 {α β : Type} {R : α → β → Prop} {c : β → List Value} {E : Heap} : SlIs R c E Sl.nil ([] : List α) := ⟨[], .inl rfl, rfl, rfl, by simp, fun i v x hv => by simp at hv⟩
/-- a list of one or two, laid in a new block -/
theorem slN {α β : Type} {R : Heap → α → β → Prop} {c : β → List Value} {D : Heap} (xs : List β) (l : List α) {cs : List Value} {n : Nat} (hR : ∀ (i : Nat) (v : α) (x : β), l[i]? = some v → xs[i]? = some x → R (G D) v x) (hm : ∀ {E : Heap} {v : α} {x : β}, (G D).le E → R (G D) v x → R E v x) (hne : cs ≠ zM) (hc : cs = xs.flatMap c := by simp [Ql.c, Qf.c, Qc.c, Qe.c, Qg.c, Qh.c, Qa.c, Qd.c, Qk.c, Qj.c]) (hn : n = xs.length := by rfl) (hl : l.length = xs.length := by rfl) (hb : l.length ≤ 100 := by decide) :
 nw cs (fun b H' => Heap.le D H' ∧ SlIs (R (G H')) c (G H') (Sl.of (some (b, 0)) n n) l) D := fun b nb => by
 have hle := Heap.le_put nb (g := .row cs) (m := true)
 refine ⟨hle, xs, .inr ⟨rfl, _, rfl, Qhu (Qtp (Heap.put_same ..) fun h => hne (by injection h with _ h; injection h)) fun j v hj => ?_⟩, hn, hl, by omega, fun i v x hv hx => hm (Qbt hle) (hR i v x hv hx)⟩
 rw [Nat.zero_add, hc]; exact hj
theorem slTx {D : Heap} (l : List Str) {cs : List Value} {n : Nat} (hN : ∀ v ∈ l, v.length ≤ 140737488355328) (hne : cs ≠ zM) (hc : cs = l.map sv := by rfl) (hn : n = l.length := by rfl) (hb : l.length ≤ 100 := by decide) :
 nw cs (fun b H' => Heap.le D H' ∧ StL (G H') (Sl.of (some (b, 0)) n n) l) D := by
 refine slN (R := fun _ (v : Str) (x : Str) => Nm x v) l l (fun i v x hv hx => ?_) (fun _ h => h) hne (by rw [hc, fmS]) hn rfl hb
 rw [hv] at hx; injection hx with hx
 exact ⟨hx.symm, hN v (List.mem_of_getElem? hv)⟩
theorem QtU {E : Heap} : VIs E V0 Qb.zero := Qfq.2 ⟨rfl, rfl, rfl, [], .inl rfl, rfl, trivial⟩
theorem V0_B : VB V0 := by simp [V0, VB, VBs]
theorem ex0 {E : Heap} {k : Int} {s : Str} {p : Qp} (hs : s.length ≤ 140737488355328) : ExIs E (.mk k s V0 []) ⟨k, p, s, Qb.zero, Sl.nil⟩ := Qa6.2 ⟨rfl, ⟨rfl, hs⟩, QtU, V0_B, sl0⟩
section
variable {C : Ctx} {H : Heap}
theorem QeU {s : Str} {K : Qa → Heap → Prop} (hs : s.length ≤ 140737488355328) (k : ∀ x D, H.le D → (∀ E, ExIs E (.mk 2 s V0 []) x) → K x D) : Qak C s K H := by
 apply Ql7
 unfold QiD
 intro b1 n1
 refine nwT rfl ?_
 exact bxT (Heap.put_same ..) (k _ _ (Heap.le_put n1) fun E => ex0 hs)
theorem six1 {a b : Value} {l m : List Value} (h : a ≠ b) : (a :: l) ≠ (b :: m) := fun e => h (by injection e)
theorem lenNe {a b : List Value} (h : a.length ≠ b.length) : a ≠ b := fun e => h (by rw [e])
theorem isv {q : IntKind} {n : Int} {s : Str} : (Value.int q n) ≠ sv s := fun h => by cases h
theorem svv {s t : Str} (h : s ≠ t) : sv s ≠ sv t := fun e => h (QtI e)
theorem Qvf {α : Type} (v : α) : sm v v = true := QcF rfl
theorem Qql (hT : MaxC C) (hFm : FmtC C) {K : Bool → Heap → Prop} (k : ∀ D, H.le D → K true D) : Qgg C K H := by
 apply Qnn
 unfold Qkf
 intro b1 n1
 refine nwT rfl ?_
 have hle := Heap.le_put n1 (g := .row (Qf.c (⟨[39, 97], Sl.nil⟩ : Qf))) (m := true)
 have h1 : (H.put b1 (.row (Qf.c (⟨[39, 97], Sl.nil⟩ : Qf)))) b1 = some (true, .row (Qf.c (⟨[39, 97], Sl.nil⟩ : Qf))) := Heap.put_same ..
 generalize H.put b1 (.row (Qf.c (⟨[39, 97], Sl.nil⟩ : Qf))) = H3 at *
 refine ⟨fun p E => H3.le E ∧ p.2 = 0 ∧ ∃ x, E p.1 = some (true, .row (Qi.c x)) ∧ MoIs E awM x, ?_, ?_⟩
 ·refine ⟨H3, Heap.le.refl _, bxT h1 (bxT h1 ?_)⟩
  have ta : ∀ E, TyIs E awTa (⟨[39, 97], Sl.nil⟩ : Qf) := fun E => Qeq.2 ⟨⟨rfl, by decide⟩, sl0⟩
  have ti : ∀ E, TyIs E awI (⟨[105, 110, 116], Sl.nil⟩ : Qf) := fun E => Qeq.2 ⟨⟨rfl, by decide⟩, sl0⟩
  refine ⟨fun s D => ImL (G D) s awM.im, fun s D => StL (G D) s awTd.ps, fun s D => TyL (G D) s [awTa], fun s D => FdL (G D) s [⟨[104, 101, 97, 100], awTa⟩, ⟨[], .mk [108, 105, 115, 116] [awTa]⟩], fun s D => CnL (G D) s awTd.cs, fun s D => TdL (G D) s awM.ty, fun s D => FdL (G D) s awRd.f, fun s D => RdL (G D) s awM.re,
   fun x D => ∀ E, ExIs E awX x, fun x D => ∀ E, ExIs E awZ x, fun s D => ExL (G D) s awRu.a, fun s D => StL (G D) s awRu.g, fun x D => ∀ E, ExIs E awX x, fun s D => ExL (G D) s [awX, .mk 3 [] V0 []], fun x D => ∀ E, ExIs E awX x, fun s D => ExL (G D) s [awX], fun s D => LiL (G D) s awRu.b, fun s D => RuL (G D) s awM.ru,
   fun x D => ∀ E, ExIs E awX x, fun x D => ∀ E, ExIs E awX x, fun s D => ExL (G D) s [awX, awX], fun s D => ExL (G D) s [.mk 5 [110, 105, 108] V0 []], fun s D => LiL (G D) s awNe.b, fun s D => NeL (G D) s awM.ne, fun p D => p.2 = 0 ∧ D p.1 = some (true, .row zM) ∧ H3 p.1 = none,
   ?_, ?_, ?_, ?_, ?_, ?_, ?_, ?_, ?_, ?_, ?_, ?_, ?_, ?_, ?_, ?_, ?_, ?_, ?_, ?_, ?_, ?_, ?_, ?_, ?_, ?_, ?_, ?_, ?_, ?_, ?_, ?_, ?_, ?_, ?_, ?_, ?_, ?_, ?_, ?_, ?_, ?_, ?_, ?_, ?_, ?_, ?_, ?_, ?_, ?_, ?_⟩
  ·exact fun x A B hle h => SlIs.le (Qbt hle) h fun _ _ _ h => h
  ·exact fun x A B hle h => StL.le (Qbt hle) h
  ·exact fun x A B hle h => SlIs.le (Qbt hle) h fun v _ x h => TyIs.le (Qbt hle) v x h
  ·exact fun x A B hle h => SlIs.le (Qbt hle) h fun v _ x h => FdIs.le (Qbt hle) h
  ·exact fun x A B hle h => SlIs.le (Qbt hle) h fun v _ x h => CnIs.le (Qbt hle) h
  ·exact fun x A B hle h => SlIs.le (Qbt hle) h fun v _ x h => TdIs.le (Qbt hle) h
  ·exact fun x A B hle h => SlIs.le (Qbt hle) h fun v _ x h => FdIs.le (Qbt hle) h
  ·exact fun x A B hle h => SlIs.le (Qbt hle) h fun v _ x h => RdIs.le (Qbt hle) h
  ·exact fun x A B hle h => h
  ·exact fun x A B hle h => h
  ·exact fun x A B hle h => SlIs.le (Qbt hle) h fun v _ x h => ExIs.le (Qbt hle) v x h
  ·exact fun x A B hle h => StL.le (Qbt hle) h
  ·exact fun x A B hle h => h
  ·exact fun x A B hle h => SlIs.le (Qbt hle) h fun v _ x h => ExIs.le (Qbt hle) v x h
  ·exact fun x A B hle h => h
  ·exact fun x A B hle h => SlIs.le (Qbt hle) h fun v _ x h => ExIs.le (Qbt hle) v x h
  ·exact fun x A B hle h => SlIs.le (Qbt hle) h fun v _ x h => LiIs.le (Qbt hle) h
  ·exact fun x A B hle h => SlIs.le (Qbt hle) h fun v _ x h => RuIs.le (Qbt hle) h
  ·exact fun x A B hle h => h
  ·exact fun x A B hle h => h
  ·exact fun x A B hle h => SlIs.le (Qbt hle) h fun v _ x h => ExIs.le (Qbt hle) v x h
  ·exact fun x A B hle h => SlIs.le (Qbt hle) h fun v _ x h => ExIs.le (Qbt hle) v x h
  ·exact fun x A B hle h => SlIs.le (Qbt hle) h fun v _ x h => LiIs.le (Qbt hle) h
  ·exact fun x A B hle h => SlIs.le (Qbt hle) h fun v _ x h => NeIs.le (Qbt hle) h
  ·exact fun x A B hle h => ⟨h.1, hle _ _ h.2.1, h.2.2⟩
  ·exact fun D hD => slN (R := fun _ => ImIs) [⟨Qp.zero, [98, 97, 115, 101]⟩] awM.im (all1 ⟨rfl, by decide⟩) (fun _ h => h) (lenNe (by decide))
  ·exact fun D hD => slTx awTd.ps (by decide) (lenNe (by decide))
  ·exact fun D hD => slN (R := TyIs) [⟨[39, 97], Sl.nil⟩] [awTa] (all1 (ta _)) (fun h h2 => TyIs.le h _ _ h2) (lenNe (by decide))
  ·exact fun D hD u19 h19 => slN (R := FdIs) [⟨[104, 101, 97, 100], ⟨[39, 97], Sl.nil⟩⟩, ⟨[], ⟨[108, 105, 115, 116], u19⟩⟩] _ (all2 ⟨⟨rfl, by decide⟩, ta _⟩ ⟨⟨rfl, by decide⟩, Qeq.2 ⟨⟨rfl, by decide⟩, h19⟩⟩) (fun h h2 => FdIs.le h h2) (six1 (svv (by decide)))
  ·exact fun D hD u22 h22 => slN (R := CnIs) [⟨[110, 105, 108], Sl.nil⟩, ⟨[99, 111, 110, 115], u22⟩] awTd.cs (all2 ⟨⟨rfl, by decide⟩, sl0⟩ ⟨⟨rfl, by decide⟩, h22⟩) (fun h h2 => CnIs.le h h2) (lenNe (by simp [Qe.c, zM, Qi.c]))
  ·exact fun D hD u26 u27 h26 h27 => slN (R := TdIs) [⟨Qp.zero, true, [108, 105, 115, 116], u26, u27⟩] awM.ty (all1 ⟨rfl, ⟨rfl, by decide⟩, h26, h27⟩) (fun h h2 => TdIs.le h h2) (six1 isv)
  ·exact fun D hD => slN (R := FdIs) [⟨[102, 114, 111, 109], ⟨[105, 110, 116], Sl.nil⟩⟩, ⟨[116, 111], ⟨[105, 110, 116], Sl.nil⟩⟩] awRd.f (all2 ⟨⟨rfl, by decide⟩, ti _⟩ ⟨⟨rfl, by decide⟩, ti _⟩) (fun h h2 => FdIs.le h h2) (six1 (svv (by decide)))
  ·exact fun D hD u31 h31 => slN (R := RdIs) [⟨Qp.zero, true, true, [101, 100, 103, 101], u31⟩] awM.re (all1 ⟨rfl, rfl, ⟨rfl, by decide⟩, h31⟩) (fun h h2 => RdIs.le h h2) (six1 isv)
  ·exact fun D hD => QeU (by decide) fun x D2 h2 hx => ⟨h2, hx⟩
  ·exact fun D hD => QeU (by decide) fun x D2 h2 hx => ⟨h2, hx⟩
  ·exact fun D hD u35 u36 h35 h36 => slN (R := ExIs) [u35, u36] awRu.a (all2 (h35 _) (h36 _)) (fun h h2 => ExIs.le h _ _ h2) (lenNe (by simp [Qa.c, zM, Qi.c]))
  ·exact fun D hD => slTx awRu.g (by decide) (lenNe (by decide))
  ·exact fun D hD => QeU (by decide) fun x D2 h2 hx => ⟨h2, hx⟩
  ·exact fun D hD u40 h40 => slN (R := ExIs) [u40, ⟨3, Qp.zero, [], Qb.zero, Sl.nil⟩] _ (all2 (h40 _) (ex0 (by decide))) (fun h h2 => ExIs.le h _ _ h2) (lenNe (by simp [Qa.c, zM, Qi.c]))
  ·exact fun D hD => QeU (by decide) fun x D2 h2 hx => ⟨h2, hx⟩
  ·exact fun D hD u44 h44 => slN (R := ExIs) [u44] _ (all1 (h44 _)) (fun h h2 => ExIs.le h _ _ h2) (lenNe (by simp [Qa.c, zM, Qi.c]))
  ·exact fun D hD u47 u48 h47 h48 => slN (R := LiIs) [⟨1, Qp.zero, [98, 97, 115, 101, 46, 112, 97, 116, 104], u47⟩, ⟨4, Qp.zero, [90], u48⟩] awRu.b (all2 ⟨rfl, ⟨rfl, by decide⟩, h47⟩ ⟨rfl, ⟨rfl, by decide⟩, h48⟩) (fun h h2 => LiIs.le h h2) (lenNe (by simp [Qd.c, zM, Qi.c]))
  ·exact fun D hD u53 u54 u55 h53 h54 h55 => slN (R := RuIs) [⟨Qp.zero, [112, 97, 116, 104], u53, u54, u55⟩] awM.ru (all1 ⟨⟨rfl, by decide⟩, h53, h54, h55⟩) (fun h h2 => RuIs.le h h2) (six1 isv)
  ·exact fun D hD => QeU (by decide) fun x D2 h2 hx => ⟨h2, hx⟩
  ·exact fun D hD => QeU (by decide) fun x D2 h2 hx => ⟨h2, hx⟩
  ·exact fun D hD u59 u60 h59 h60 => slN (R := ExIs) [u59, u60] _ (all2 (h59 _) (h60 _)) (fun h h2 => ExIs.le h _ _ h2) (lenNe (by simp [Qa.c, zM, Qi.c]))
  ·exact fun D hD => slN (R := ExIs) [⟨5, Qp.zero, [110, 105, 108], Qb.zero, Sl.nil⟩] _ (all1 (ex0 (by decide))) (fun h h2 => ExIs.le h _ _ h2) (lenNe (by simp [Qa.c, zM, Qi.c]))
  ·exact fun D hD u65 u66 h65 h66 => slN (R := LiIs) [⟨2, Qp.zero, [101, 100, 103, 101], u65⟩, ⟨3, Qp.zero, [], u66⟩] awNe.b (all2 ⟨rfl, ⟨rfl, by decide⟩, h65⟩ ⟨rfl, ⟨rfl, by decide⟩, h66⟩) (fun h h2 => LiIs.le h h2) (lenNe (by simp [Qd.c, zM, Qi.c]))
  ·exact fun D hD u69 h69 => slN (R := NeIs) [⟨Qp.zero, [108, 111, 111, 112], u69⟩] awM.ne (all1 ⟨⟨rfl, by decide⟩, h69⟩) (fun h h2 => NeIs.le h h2) (lenNe (by simp [Qj.c, zM, Qi.c]))
  ·exact fun D hD b nb => ⟨Heap.le_put nb, rfl, Heap.put_same .., hD.none nb⟩
  ·rintro D hD ⟨b, o⟩ u5 u6 u7 u8 u9 ⟨ho, hb, hn⟩ g5 g6 g7 g8 g9
   dsimp only at ho hb hn
   subst ho
   refine ⟨zM, hb, Nat.le_refl _, ?_⟩
   dsimp only
   have e : splice zM 0 (Qi.c (⟨[103, 114, 97, 112, 104], u5, u6, u7, u8, u9⟩ : Qi)) = Qi.c (⟨[103, 114, 97, 112, 104], u5, u6, u7, u8, u9⟩ : Qi) := by
    unfold splice
    rw [List.take_zero, List.nil_append, List.drop_of_length_le (by simp [zM, Qi.c]), List.append_nil]
   rw [e]
   have hG : (G D).le (D.put b (.row (Qi.c (⟨[103, 114, 97, 112, 104], u5, u6, u7, u8, u9⟩ : Qi)))) := fun c v hc => by
    have hcb : c ≠ b := fun e => by
     rw [e] at hc
     unfold G at hc
     rw [if_pos hb] at hc; cases hc
    rw [Heap.put_ne _ _ _ hcb]; exact G_le D _ _ hc
   have hH : H3.le (D.put b (.row (Qi.c (⟨[103, 114, 97, 112, 104], u5, u6, u7, u8, u9⟩ : Qi)))) := hD.put _ _ hn
   refine ⟨hH, hH, rfl, _, Heap.put_same .., MoIs.le hG ⟨⟨rfl, by decide⟩, g5, g6, g7, g8, g9⟩⟩
 rintro ⟨b, o⟩ E ⟨hE, ho, x, hb, hx⟩
 dsimp only at ho hb
 subst ho
 refine bxT hb (Qqe hT hFm hx (Heap.le.refl E) (by have := aw_d; omega) (fun _ => by rw [aw_t]; decide) fun E1 h1' => ?_)
 rw [aw_c, aw_t, if_pos rfl]
 refine QeU (by decide) fun xB E2 h2 hB => QeU (by decide) fun xA E3 h3 hA => QeU (by decide) fun xB2 E4 h4 hB2 => ?_
 intro b5 n5
 have l5 := Heap.le_put n5 (g := .row (Qa.c xA ++ Qa.c xB2 ++ [])) (m := true)
 have c5 : (E4.put b5 (.row (Qa.c xA ++ Qa.c xB2 ++ []))) b5 = some (true, .row (Qa.c xA ++ Qa.c xB2 ++ [])) := Heap.put_same ..
 generalize E4.put b5 (.row (Qa.c xA ++ Qa.c xB2 ++ [])) = E5 at *
 have hL5 : ExL E5 (Sl.of (some (b5, 0)) 2 2) [.mk 2 [65] V0 [], .mk 2 [66] V0 []] := ⟨[xA, xB2], .inr ⟨rfl, _, rfl, Qhu c5 fun j v hj => by simpa using hj⟩, rfl, rfl, by decide, all2 (hA _) (hB2 _)⟩
 intro b6 n6
 have l6 := Heap.le_put n6 (g := .row (Qa.c xB ++ Qa.c (⟨4, Qp.zero, [], Qb.zero, Sl.of (some (b5, 0)) 2 2⟩ : Qa) ++ [])) (m := true)
 have c6 : (E5.put b6 (.row (Qa.c xB ++ Qa.c (⟨4, Qp.zero, [], Qb.zero, Sl.of (some (b5, 0)) 2 2⟩ : Qa) ++ []))) b6 = some (true, .row (Qa.c xB ++ Qa.c (⟨4, Qp.zero, [], Qb.zero, Sl.of (some (b5, 0)) 2 2⟩ : Qa) ++ [])) := Heap.put_same ..
 generalize E5.put b6 (.row (Qa.c xB ++ Qa.c (⟨4, Qp.zero, [], Qb.zero, Sl.of (some (b5, 0)) 2 2⟩ : Qa) ++ [])) = E6 at *
 have hL6 : ExL E6 (Sl.of (some (b6, 0)) 2 2) [.mk 2 [66] V0 [], .mk 4 [] V0 [.mk 2 [65] V0 [], .mk 2 [66] V0 []]] := ⟨[xB, ⟨4, Qp.zero, [], Qb.zero, Sl.of (some (b5, 0)) 2 2⟩], .inr ⟨rfl, _, rfl, Qhu c6 fun j v hj => by simpa using hj⟩, rfl, rfl, by decide, all2 (hB _) (Qa6.2 ⟨rfl, ⟨rfl, by decide⟩, QtU, V0_B, SlIs.le l6 hL5 fun v _ x h => ExIs.le l6 v x h⟩)⟩
 have hEE : E.le E6 := ((((h1'.trans h2).trans h3).trans h4).trans l5).trans l6
 refine QtV (e := .mk 6 [43] V0 [.mk 2 [66] V0 [], .mk 4 [] V0 [.mk 2 [65] V0 [], .mk 2 [66] V0 []]]) (A := E6) (Qa6.2 ⟨rfl, ⟨rfl, by decide⟩, QtU, V0_B, hL6⟩) (Heap.le.refl _) (by decide) fun E7 s h7 hs => ?_
 have hv : vaD [] (.mk 6 [43] V0 [.mk 2 [66] V0 [], .mk 4 [] V0 [.mk 2 [65] V0 [], .mk 2 [66] V0 []]]) = [[66], [65]] := by decide
 rw [hv] at hs
 have hx7 := MoIs.le (hEE.trans h7) hx
 have hb7 := (hEE.trans h7) _ _ hb
 have hlen := hs.len
 refine ja true E7 (fun _ => bxT hb7 (bxT hb7 (QqN hx7 hx7 (Heap.le.refl _) ⟨rfl, Qvf _⟩))) ?_
 rw [hlen]
 refine ja true E7 (fun _ => SlIs.at_ hs (Heap.le.refl _) (z := 1) (fun _ => rfl) (by omega) (i := 0) rfl (by decide) fun p y hy hr => ⟨y, hr 0 _ rfl, rfl, by rw [hy]; rfl⟩) ?_
 refine ja true E7 (fun _ => SlIs.at_ hs (Heap.le.refl _) (z := 1) (fun _ => rfl) (by omega) (i := 1) rfl (by decide) fun p y hy hr => ⟨y, hr 0 _ rfl, rfl, by rw [hy]; rfl⟩) ?_
 have e : ((((((0 : Int) == 0) && (awT == awT)) && true) && ((([[66], [65]] : List Str).length : Int) == 2)) && true && true) = true := by simp
 have := k E7 ((hle.trans hE).trans (hEE.trans h7))
 rw [← e] at this
 exact this
end
end
section
open Go Go.Proofs
theorem n1 {b : Bool} {P Q : Prop} (hb : b = true ↔ ¬P) (h : b = true) : (true = true ↔ ¬(P ∧ Q)) := ⟨fun _ hh => hb.1 h hh.1, fun _ => rfl⟩
theorem n2 {b r : Bool} {P Q : Prop} (hb : b = true ↔ ¬P) (h : b = false) (hr : r = true ↔ ¬Q) : (r = true ↔ ¬(P ∧ Q)) := by
 have hp : P := Classical.byContradiction fun e => by rw [hb.2 e] at h; cases h
 rw [hr]; exact ⟨fun hq hh => hq hh.2, fun hh hq => hh ⟨hp, hq⟩⟩
theorem n3 {b : Bool} {P : Prop} (hb : b = true ↔ ¬P) (h : b = false) : P := Classical.byContradiction fun e => by rw [hb.2 e] at h; cases h
theorem nlen {α β α' β' : Type} {R : α → β → Prop} {c : β → List Value} {R' : α' → β' → Prop} {c' : β' → List Value} {A B : Heap} {s t : Sl} {l : List α} {m : List α'} (h1 : SlIs R c A s l) (h2 : SlIs R' c' B t m) : ((((Sl.len s : Int) : Int) != (Sl.len t : Int)) = true ↔ ¬ l.length = m.length) := by
 rw [h1.len, h2.len, bne_iff_ne]; omega
theorem lpEq {α : Type} {l m : List α} {H : Heap} {body : Int → (Int → Heap → Prop) → Heap → Prop} (hb : l.length ≤ 140737488355328)
 (step : ∀ (i : Nat) (D : Heap) (J : Int → Heap → Prop), H.le D → i ≤ l.length → l.take i = m.take i → (i < l.length → ∀ D', H.le D' → l.take (i + 1) = m.take (i + 1) → J (w .i64 ((i : Int) + 1)) D') → body (i : Int) J D) : lp (α := Int) 0 H body := by
 refine ⟨fun x D => H.le D ∧ ∃ i : Nat, x = (i : Int) ∧ i ≤ l.length ∧ l.take i = m.take i, fun x _ => l.length - x.toNat, ⟨Heap.le.refl _, 0, rfl, Nat.zero_le _, rfl⟩, ?_⟩
 rintro _ D ⟨hD, i, rfl, hi, hq⟩
 refine step i D _ hD hi hq fun hlt D' hD' ht => ?_
 rw [QM (by omega) (by omega)]
 exact ⟨⟨hD', i + 1, by omega, by omega, ht⟩, by first | omega | (dsimp only; omega)⟩
section
variable {C : Ctx} {H A : Heap}
theorem Qn9 {l m : List ExV} {s t : Sl} {K : Bool → Heap → Prop} (hs : ExL A s l) (ht : ExL A t m) (hA : A.le H)
 (ih : ∀ (p : ExV), p ∈ l → ∀ {w : ExV} {x y : Qa} {D : Heap} {K : Bool → Heap → Prop}, ExIs A p x → ExIs A w y → A.le D → K (sm p w) D → Qau C x y K D) (k : K (sm l m) H) : Qbd C s t K H := by
 apply Qbd.gh
 apply QkT
 unfold Qg4
 have i1 := nlen hs ht
 refine ift.of (fun h => ?_) (fun h => ?_)
 ·rw [QcZ (fun e => i1.1 h (by rw [e]))] at k; exact ⟨H, Gh.refl _, k⟩
 have hq := n3 i1 h
 refine lpEq (l := l) (m := m) hs.bd fun i D J hD hi hh hJ => ?_
 rw [hs.len]
 refine ift.of (fun h => ?_) (fun h => ?_)
 ·have hlt : i < l.length := by have := of_decide_eq_true h; omega
  have hlt2 : i < m.length := by omega
  have hAD := hA.trans hD
  refine ⟨D, Heap.le.refl _, hs.ld hAD Qbw (by omega) rfl hlt fun x2 hx2 => ht.ld hAD Qbw (by omega) rfl hlt2 fun y2 hy2 => ih _ (List.getElem_mem hlt) hx2 hy2 hAD ⟨Heap.le.refl _, ?_⟩⟩
  by_cases e : l[i] = m[i]
  ·rw [QcF e]; exact QbC rfl (hJ hlt _ hD (Qfv hlt hlt2 hh e))
  ·rw [QcZ e]; rw [QcZ (QhI hlt hlt2 e)] at k; exact QbT rfl ⟨H, Gh.le hD, k⟩
 ·have hie : i = l.length := by have := of_decide_eq_false h; omega
  rw [QcF (QdW hie hq hh)] at k
  exact ⟨H, Gh.le hD, k⟩
theorem QtN {x : Qa} (i : Nat) (u : Value) (hi : (Qb.c x.Value_)[i]? = some u) : (Qa.c x)[4 + i]? = some u := by
 match i, hi with
 | 0, hi => exact hi
 | 1, hi => exact hi
 | 2, hi => exact hi
 | 3, hi => exact hi
 | i + 4, hi => simp [Qb.c] at hi
theorem QpO : ∀ (v : ExV) {w : ExV} {x y : Qa} {H : Heap} {K : Bool → Heap → Prop}, ExIs A v x → ExIs A w y → A.le H → K (sm v w) H → Qau C x y K H := by
 refine ExV.rec_ fun v ih w' x y H K hx hy hA k => ?_
 have hx' := Qa6.1 hx
 have hy' := Qa6.1 hy
 apply Qau.gh
 apply Qlx
 unfold QhY
 refine box2 fun b1 b3 H4 hle h1 h3 => fI h1 rfl (fI h3 rfl ?_)
 have hA4 := hA.trans hle
 refine jb (P := v.k = w'.k ∧ v.n = w'.n) H4 ?_ fun b9 hb9 => ?_
 ·have i1 := iq hx'.1 hy'.1
  exact ift.of (fun h => fS h1 rfl (fS h3 rfl ⟨rfl, yand i1 h (sqN hx'.2.1 hy'.2.1)⟩)) (fun h => ⟨rfl, nand i1 h⟩)
 refine jb (P := (v.k = w'.k ∧ v.n = w'.n) ∧ v.v = w'.v) H4 ?_ fun b18 hb18 => ?_
 ·exact ift.of (fun h => fT h1 QtN (fT h3 QtN (QtR (hx'.2.2.1.le hA4) (hy'.2.2.1.le hA4) hx'.2.2.2.1 ⟨rfl, yand hb9 h Qsq⟩))) (fun h => ⟨rfl, nand hb9 h⟩)
 refine jb (P := v = w') H4 ?_ fun b27 hb27 => ⟨H, Gh.le hle, by rw [QkP hb27]; exact k⟩
 rw [ExV.eq_iff]
 refine ift.of (fun h => fL h1 rfl (fL h3 rfl ?_)) (fun h => ⟨rfl, nand hb18 h⟩)
 exact Qn9 hx'.2.2.2.2 hy'.2.2.2.2 hA4 (fun p hp w x y D K g1 g2 g3 g4 => ih p hp g1 g2 g3 g4) ⟨rfl, yand hb18 h sm_t⟩
end
end
section
open Go
theorem tokP {P : UInt8 → Bool} : ∀ {a b x y : Str}, (∀ c ∈ a, P c = true) → (∀ c ∈ b, P c = true) → (∀ c t, x = c :: t → P c = false) → (∀ c t, y = c :: t → P c = false) → a ++ x = b ++ y → a = b ∧ x = y
 | [], [], x, y, _, _, _, _, e => ⟨rfl, e⟩
 | [], d :: b, x, y, _, hb, hx, _, e => by
  have := hx d (b ++ y) e
  rw [hb d (List.mem_cons_self ..)] at this; cases this
 | d :: a, [], x, y, ha, _, _, hy, e => by
  have := hy d (a ++ x) e.symm
  rw [ha d (List.mem_cons_self ..)] at this; cases this
 | c :: a, d :: b, x, y, ha, hb, hx, hy, e => by
  injection e with e1 e2
  obtain ⟨q1, q2⟩ := tokP (fun c hc => ha c (List.mem_cons_of_mem _ hc)) (fun c hc => hb c (List.mem_cons_of_mem _ hc)) hx hy e2
  exact ⟨by rw [e1, q1], q2⟩
/-- what may stand behind an expression -/
def EndE (r : Str) : Prop := ∀ c t, r = c :: t → c = 41 ∨ c = 44 ∨ c = 32 ∨ (c = 46 ∧ ∀ d t', t = d :: t' → lowC d = false)
/-- behind a part of one -/
def EndD (r : Str) : Prop := ∀ c t, r = c :: t → c = 41 ∨ c = 44 ∨ c = 32 ∨ c = 46
/-- behind a long name -/
def EndL (r : Str) : Prop := ∀ c t, r = c :: t → nameC c = false ∧ (c = 46 → ∀ d t', t = d :: t' → lowC d = false)
theorem EndE.d {r : Str} (h : EndE r) : EndD r := fun c t e => by
 rcases h c t e with h | h | h | h
 ·exact .inl h
 ·exact .inr (.inl h)
 ·exact .inr (.inr (.inl h))
 ·exact .inr (.inr (.inr h.1))
theorem EndD.nm {r : Str} (h : EndD r) : ∀ c t, r = c :: t → nameC c = false := fun c t e => by
 rcases h c t e with h | h | h | h <;> subst h <;> rfl
theorem EndE.l {r : Str} (h : EndE r) : EndL r := fun c t e => by
 refine ⟨h.d.nm c t e, fun hc => ?_⟩
 rcases h c t e with h | h | h | h
 ·subst h; cases hc
 ·subst h; cases hc
 ·subst h; cases hc
 ·exact h.2
theorem EndE.of {c : UInt8} {t : Str} (h : c = 41 ∨ c = 44 ∨ c = 32) : EndE (c :: t) := fun d s e => by
 injection e with e1 _
 subst e1
 rcases h with h | h | h
 ·exact .inl h
 ·exact .inr (.inl h)
 ·exact .inr (.inr (.inl h))
theorem EndE.nil : EndE [] := fun c t e => by cases e
theorem EndE.ne40 {r t : Str} (h : EndE r) : r ≠ 40 :: t := fun e => by
 rcases h _ _ e with h | h | h | ⟨h, _⟩ <;> exact absurd h (by decide)
theorem EndL.p (t : Str) : EndL (40 :: t) := fun c s e => by
 injection e with e1 _
 subst e1
 exact ⟨rfl, fun h => absurd h (by decide)⟩
theorem Q9 {s : Str} (h : namS s = true) : s ≠ [] ∧ s.length ≤ 32 ∧ lowC (s.headD 0) = true ∧ (∀ c ∈ s, nameC c = true) ∧ s ∉ resW := by
 unfold namS at h
 rw [Bool.and_eq_true, Bool.not_eq_true'] at h
 obtain ⟨h1, h2, h3, h4⟩ := Qik h.1
 exact ⟨h1, h2, h3, h4, fun hm => by rw [List.contains_iff_mem.2 hm] at h; cases h.2⟩
theorem Qfw {s : Str} (h : namS s = true) : ∃ c t, s = c :: t ∧ lowC c = true := by
 obtain ⟨h1, _, h3, _⟩ := Q9 h
 cases s with
 | nil => exact absurd rfl h1
 | cons c t => exact ⟨c, t, rfl, h3⟩
theorem Qq2 {s : Str} (h : longS s = true) : (∃ a b, s = a ++ 46 :: b ∧ namS a = true ∧ namS b = true) ∨ namS s = true := by
 unfold longS at h
 split at h
 ·rename_i a b hab
  rw [Bool.and_eq_true] at h
  left
  by_cases hm : (46 : UInt8) ∈ s
  ·obtain ⟨x, y, e1, e2⟩ := Qk1 s hm
   rw [e1, QlD x y e2] at hab
   injection hab with hab; injection hab with e3 e4
   exact ⟨a, b, by rw [e1, e3, e4], h⟩
  ·rw [QlE s hm] at hab; cases hab
 ·exact .inr h
theorem Qij {s : Str} (h : longS s = true) : ∃ a r, s = a ++ r ∧ namS a = true ∧ (r = [] ∨ ∃ b, r = 46 :: b ∧ namS b = true) := by
 rcases Qq2 h with ⟨a, b, e, h1, h2⟩ | h
 ·exact ⟨a, 46 :: b, e, h1, .inr ⟨b, rfl, h2⟩⟩
 ·exact ⟨s, [], by simp, h, .inl rfl⟩
theorem Qmo {n m x y : Str} (hn : longS n = true) (hm : longS m = true) (hx : EndL x) (hy : EndL y) (e : n ++ x = m ++ y) : n = m ∧ x = y := by
 obtain ⟨a, r, rfl, ha, hr⟩ := Qij hn
 obtain ⟨b, s, rfl, hb, hs⟩ := Qij hm
 rw [List.append_assoc, List.append_assoc] at e
 have h46 : ∀ {r x : Str}, (r = [] ∨ ∃ b, r = 46 :: b ∧ namS b = true) → EndL x → ∀ c t, r ++ x = c :: t → nameC c = false := fun {r x} hr hx c t e => by
  rcases hr with rfl | ⟨b, rfl, _⟩
  ·exact (hx c t e).1
  ·injection e with e _; subst e; rfl
 obtain ⟨q1, q2⟩ := tokP (Q9 ha).2.2.2.1 (Q9 hb).2.2.2.1 (h46 hr hx) (h46 hs hy) e
 subst q1
 rcases hr with rfl | ⟨r, rfl, hr⟩ <;> rcases hs with rfl | ⟨s, rfl, hs⟩
 ·exact ⟨rfl, q2⟩
 ·obtain ⟨c, t, rfl, hc⟩ := Qfw hs
  have := (hx 46 (c :: t ++ y) q2).2 rfl c (t ++ y) rfl
  rw [hc] at this; cases this
 ·obtain ⟨c, t, rfl, hc⟩ := Qfw hr
  have := (hy 46 (c :: t ++ x) q2.symm).2 rfl c (t ++ x) rfl
  rw [hc] at this; cases this
 ·simp only [List.cons_append, List.cons.injEq, true_and] at q2
  obtain ⟨q3, q4⟩ := tokP (Q9 hr).2.2.2.1 (Q9 hs).2.2.2.1 (fun c t e => (hx c t e).1) (fun c t e => (hy c t e).1) q2
  exact ⟨by rw [q3], q4⟩
theorem QfQ {s : Str} (h : varS s = true) : s ≠ [] ∧ s.length ≤ 32 ∧ upC (s.headD 0) = true ∧ ∀ c ∈ s, nameC c = true := by
 simp only [varS, Bool.and_eq_true, Bool.not_eq_true', List.isEmpty_eq_false_iff, decide_eq_true_eq, List.all_eq_true] at h
 exact ⟨h.1.1.1, h.1.1.2, h.1.2, h.2⟩
theorem Qmt {s : Str} (h : varS s = true) : ∃ c t, s = c :: t ∧ upC c = true := by
 obtain ⟨h1, _, h3, _⟩ := QfQ h
 cases s with
 | nil => exact absurd rfl h1
 | cons c t => exact ⟨c, t, rfl, h3⟩
theorem QtL {c : UInt8} (h : upC c = true) : lowC c = false := by
 simp only [upC, Bool.and_eq_true, decide_eq_true_eq] at h
 simp only [lowC, Bool.and_eq_false_iff, decide_eq_false_iff_not]; omega
def dots : List Str → Str
 | [] => []
 | n :: ns => 46 :: (n ++ dots ns)
theorem Qk2 {ns : List Str} {u : Str} (hu : EndE u) : EndD (dots ns ++ u) := by
 cases ns with
 | nil => exact hu.d
 | cons n ns => exact fun c t e => by injection e with e _; exact .inr (.inr (.inr e.symm))
theorem Qml : ∀ {ns ms : List Str} {u v : Str}, (∀ n ∈ ns, namS n = true) → (∀ n ∈ ms, namS n = true) → EndE u → EndE v → dots ns ++ u = dots ms ++ v → ns = ms ∧ u = v
 | [], [], u, v, _, _, _, _, e => ⟨rfl, e⟩
 | [], m :: ms, u, v, _, hm, hu, _, e => by
  obtain ⟨c, t, hc, hl⟩ := Qfw (hm m (List.mem_cons_self ..))
  subst hc
  have := (hu.l 46 _ e).2 rfl c (t ++ dots ms ++ v) (by simp)
  rw [hl] at this; cases this
 | n :: ns, [], u, v, hn, _, _, hv, e => by
  obtain ⟨c, t, hc, hl⟩ := Qfw (hn n (List.mem_cons_self ..))
  subst hc
  have := (hv.l 46 _ e.symm).2 rfl c (t ++ dots ns ++ u) (by simp)
  rw [hl] at this; cases this
 | n :: ns, m :: ms, u, v, hn, hm, hu, hv, e => by
  simp only [dots, List.cons_append, List.append_assoc, List.cons.injEq, true_and] at e
  obtain ⟨q1, q2⟩ := tokP (Q9 (hn n (List.mem_cons_self ..))).2.2.2.1 (Q9 (hm m (List.mem_cons_self ..))).2.2.2.1 (Qk2 hu).nm (Qk2 hv).nm e
  obtain ⟨q3, q4⟩ := Qml (fun x hx => hn x (List.mem_cons_of_mem _ hx)) (fun x hx => hm x (List.mem_cons_of_mem _ hx)) hu hv q2
  exact ⟨by rw [q1, q3], q4⟩
def noV0 : V := .mk 0 0 [] []
theorem Qu5 {v : V} (h : noV v = true) : v = noV0 := by
 obtain ⟨k, n, s, l⟩ := v
 unfold noV at h
 rw [Bool.and_eq_true, Bool.and_eq_true, Bool.and_eq_true, decide_eq_true_iff, decide_eq_true_iff, decide_eq_true_iff, List.isEmpty_iff] at h
 obtain ⟨⟨⟨h1, h2⟩, h3⟩, h4⟩ := h
 have h1 : k = 0 := h1
 have h2 : n = 0 := h2
 have h3 : s = [] := h3
 have h4 : l = [] := List.length_eq_zero_iff.1 h4
 rw [h1, h2, h3, h4]; rfl
inductive ExC (p : Bool) : ExV → Prop
 | lit (v : V) : litV v = true → ExC p (.mk 1 [] v [])
 | var (n : Str) : varS n = true → ExC p (.mk 2 n noV0 [])
 | any : p = true → ExC p (.mk 3 [] noV0 [])
 | tup (a : List ExV) : a.length ≠ 1 → exsOk p a = true → ExC p (.mk 4 [] noV0 a)
 | mak (n : Str) (a : List ExV) : longS n = true → exsOk p a = true → ExC p (.mk 5 n noV0 a)
 | fn (n : Str) (x : ExV) : p = false → funB n = true → exOk p x = true → ExC p (.mk 6 n noV0 [x])
 | not (x : ExV) : p = false → exOk p x = true → ExC p (.mk 6 notS noV0 [x])
 | op (n : Str) (x y : ExV) : p = false → n ∈ opsW → exOk p x = true → exOk p y = true → ExC p (.mk 6 n noV0 [x, y])
 | fld (n : Str) (x : ExV) : p = false → namS n = true → exOk p x = true → ExC p (.mk 7 n noV0 [x])
 | iff (x y z : ExV) : p = false → exOk p x = true → exOk p y = true → exOk p z = true → ExC p (.mk 8 [] noV0 [x, y, z])
theorem len1 {α : Type} {a : List α} (h : a.length = 1) : ∃ x, a = [x] := by
 match a, h with
 | [x], _ => exact ⟨x, rfl⟩
theorem len2 {α : Type} {a : List α} (h : a.length = 2) : ∃ x y, a = [x, y] := by
 match a, h with
 | [x, y], _ => exact ⟨x, y, rfl⟩
theorem len3 {α : Type} {a : List α} (h : a.length = 3) : ∃ x y z, a = [x, y, z] := by
 match a, h with
 | [x, y, z], _ => exact ⟨x, y, z, rfl⟩
theorem ExC.of {p : Bool} {x : ExV} (h : exOk p x = true) : ExC p x := by
 obtain ⟨k, n, v, a⟩ := x
 unfold exOk at h
 split at h
 ·rename_i hk
  simp only [Bool.and_eq_true, decide_eq_true_eq, List.isEmpty_iff, List.length_eq_zero_iff] at h
  obtain ⟨⟨h1, rfl⟩, rfl⟩ := h
  subst hk
  exact .lit v h1
 ·rw [Bool.and_eq_true, Bool.and_eq_true] at h
  obtain ⟨⟨h1, h2⟩, h3⟩ := h
  have := Qu5 h2
  subst this
  unfold exN at h1
  split at h1
  ·rename_i hk; subst hk
   simp only [Bool.and_eq_true, decide_eq_true_eq, List.length_eq_zero_iff] at h1
   obtain ⟨h1, rfl⟩ := h1
   exact .var n h1
  split at h1
  ·rename_i hk; subst hk
   simp only [Bool.and_eq_true, decide_eq_true_eq, List.isEmpty_iff, List.length_eq_zero_iff] at h1
   obtain ⟨⟨hp, rfl⟩, rfl⟩ := h1
   exact .any hp
  split at h1
  ·rename_i hk; subst hk
   simp only [Bool.and_eq_true, decide_eq_true_eq, List.isEmpty_iff] at h1
   obtain ⟨⟨rfl, h1⟩, _⟩ := h1
   exact .tup a h1 h3
  split at h1
  ·rename_i hk; subst hk
   simp only [Bool.and_eq_true, decide_eq_true_eq] at h1
   exact .mak n a h1.1 h3
  split at h1
  ·rename_i hk; subst hk
   simp only [Bool.and_eq_true, Bool.not_eq_true', decide_eq_true_eq] at h1
   obtain ⟨⟨hp, h4⟩, h5⟩ := h1
   unfold arS at h4 h5
   split at h5
   ·rename_i ho
    obtain ⟨x, y, rfl⟩ := len2 h5
    simp only [exsOk, Bool.and_eq_true] at h3
    exact .op n x y hp (List.contains_iff_mem.1 ho) h3.1 h3.2.1
   ·rename_i ho
    rw [if_neg ho] at h4
    split at h5
    ·rename_i hf
     obtain ⟨x, rfl⟩ := len1 h5
     simp only [exsOk, Bool.and_eq_true] at h3
     rcases hf with rfl | hf
     ·exact .not x hp h3.1
     ·exact .fn n x hp hf h3.1
    ·rename_i hf
     rw [if_neg hf] at h4
     omega
  split at h1
  ·rename_i hk; subst hk
   simp only [Bool.and_eq_true, Bool.not_eq_true', decide_eq_true_eq] at h1
   obtain ⟨⟨hp, h4⟩, h5⟩ := h1
   obtain ⟨x, rfl⟩ := len1 h5
   simp only [exsOk, Bool.and_eq_true] at h3
   exact .fld n x hp h4 h3.1
  split at h1
  ·rename_i hk; subst hk
   simp only [Bool.and_eq_true, Bool.not_eq_true', decide_eq_true_eq, List.isEmpty_iff] at h1
   obtain ⟨⟨hp, rfl⟩, h5⟩ := h1
   obtain ⟨x, y, z, rfl⟩ := len3 h5
   simp only [exsOk, Bool.and_eq_true] at h3
   exact .iff x y z hp h3.1 h3.2.1 h3.2.2.1
  ·cases h1
theorem QmR {n : Str} (h : funB n = true) : n = negS ∨ n = lenS ∨ n = bigS ∨ n = intS := of_decide_eq_true h
theorem Qp6 : funB notS = false := by decide
theorem Qr9 {n : Str} (h : n ∈ opsW) : funB n = false := (by decide : ∀ n ∈ opsW, funB n = false) n h
section
variable {n : Str} {v : V} {a : List ExV} {x y z : ExV}
theorem exsT1 {sep : Nat → Str} (h : sep 0 = []) : exsT sep 0 [x] = exT x := by simp [exsT, h]
theorem QmM : exT (.mk 1 n v a) = showV v := by simp [exT]
theorem Qjf : exT (.mk 2 n v a) = n := by simp [exT]
theorem Qop : exT (.mk 3 n v a) = [95] := by simp [exT]
theorem QmO : exT (.mk 4 n v a) = 40 :: (exsT cm 0 a ++ [41]) := by simp [exT]
theorem QmN : exT (.mk 5 n v a) = n ++ (if a.length = 0 then [] else 40 :: (exsT cm 0 a ++ [41])) := by simp [exT]
theorem Qpc (h : funB n = true) : exT (.mk 6 n v [x]) = n ++ 40 :: (exT x ++ [41]) := by
 have : exsT cm 0 [x] = exT x := exsT1 rfl
 simp [exT, h, this]
theorem Qor : exT (.mk 6 notS v [x]) = 40 :: (notS ++ 32 :: (exT x ++ [41])) := by
 have : exsT noSep 0 [x] = exT x := exsT1 rfl
 simp [exT, Qp6, this]
theorem Qqr (h : n ∈ opsW) : exT (.mk 6 n v [x, y]) = 40 :: (exT x ++ 32 :: (n ++ 32 :: (exT y ++ [41]))) := by
 simp [exT, Qr9 h, exsT, opSep]
theorem QpW : exT (.mk 7 n v [x]) = (if brkE [x] = true then 40 :: (exT x ++ [41]) else exT x) ++ 46 :: n := by
 have : exsT cm 0 [x] = exT x := exsT1 rfl
 simp [exT, this]
theorem Qoq : exT (.mk 8 n v [x, y, z]) = [40, 105, 102, 32] ++ (exT x ++ ([32, 116, 104, 101, 110, 32] ++ (exT y ++ ([32, 101, 108, 115, 101, 32] ++ (exT z ++ [41]))))) := by
 simp [exT, exsT, ifSep]
end
end
section
open Go
def tk (t : Str) : Str := t.takeWhile nameC
theorem QiM : ∀ {a x : Str}, (∀ c ∈ a, nameC c = true) → (∀ c t, x = c :: t → nameC c = false) → tk (a ++ x) = a
 | [], x, _, hx => by
  cases x with
  | nil => rfl
  | cons c t => have := hx c t rfl; simp [tk, this]
 | c :: a, x, ha, hx => by
  have h1 := ha c (List.mem_cons_self ..)
  have h2 := QiM (a := a) (x := x) (fun c hc => ha c (List.mem_cons_of_mem _ hc)) hx
  unfold tk at h2 ⊢
  rw [List.cons_append, List.takeWhile_cons, h1, if_pos rfl, h2]
def ifS : Str := [105, 102]
def sig (t : Str) : Nat := match t with
 | [] => 0
 | c :: r => if upC c = true then 2 else if c = 95 then 3 else if c = 40 then 4 else if lowC c = true then (if tk (c :: r) = trueS ∨ tk (c :: r) = falseS then 1 else if funB (tk (c :: r)) = true then 6 else 5) else 1
theorem Qk8 {c : UInt8} (h : lowC c = true) : upC c = false ∧ c ≠ 95 ∧ c ≠ 40 ∧ c ≠ 41 := by
 simp only [lowC, Bool.and_eq_true, decide_eq_true_eq] at h
 refine ⟨?_, ?_, ?_, ?_⟩
 ·simp only [upC, Bool.and_eq_false_iff, decide_eq_false_iff_not]; omega
 ·rintro rfl; revert h; decide
 ·rintro rfl; revert h; decide
 ·rintro rfl; revert h; decide
theorem QlJ {c : UInt8} {r T : Str} (hc : lowC c = true) (h : tk (c :: r) = T) : sig (c :: r) = if T = trueS ∨ T = falseS then 1 else if funB T = true then 6 else 5 := by
 obtain ⟨q1, q2, q3, _⟩ := Qk8 hc
 simp only [sig]
 rw [if_neg (by rw [q1]; decide), if_neg q2, if_neg q3, if_pos hc, h]
theorem QoC {v : V} (h : litV v = true) : formV v = true ∧ 1 ≤ v.k ∧ v.k ≤ 4 := by
 unfold litV at h
 rw [Bool.and_eq_true, Bool.and_eq_true, decide_eq_true_iff, decide_eq_true_iff] at h
 exact ⟨((QqD v).1 h.2).2.1, h.1.1, h.1.2⟩
theorem Qpm {c : UInt8} (h : digC c = true ∨ c = 45) : upC c = false ∧ c ≠ 95 ∧ c ≠ 40 ∧ lowC c = false ∧ c ≠ 34 := by
 rcases h with h | rfl
 ·simp only [digC, Bool.and_eq_true, decide_eq_true_eq] at h
  refine ⟨?_, ?_, ?_, ?_, ?_⟩
  ·simp only [upC, Bool.and_eq_false_iff, decide_eq_false_iff_not]; omega
  ·rintro rfl; revert h; decide
  ·rintro rfl; revert h; decide
  ·simp only [lowC, Bool.and_eq_false_iff, decide_eq_false_iff_not]; omega
  ·rintro rfl; revert h; decide
 ·decide
/-- what a literal's text is -/
theorem Qgi {v : V} (h : litV v = true) : (v.k = 1 ∧ (showV v = trueS ∨ showV v = falseS)) ∨ ((v.k = 2 ∨ v.k = 3) ∧ showV v ≠ [] ∧ (digC ((showV v).headD 0) = true ∨ (showV v).headD 0 = 45) ∧ ∀ c ∈ showV v, nameC c = true ∨ c = 45) ∨ (v.k = 4 ∧ ∃ s, showV v = 34 :: (s.flatMap qC ++ [34]) ∧ v = .mk 4 0 s []) := by
 obtain ⟨hf, h1, h4⟩ := QoC h
 obtain ⟨_, hc⟩ := QgV hf
 obtain ⟨k, n, s, l⟩ := v
 simp only [V.k, V.n, V.s, V.l] at hc h1 h4 ⊢
 have hdn : ∀ c : UInt8, digC c = true → nameC c = true := fun c h => by
  simp only [digC, Bool.and_eq_true, decide_eq_true_eq] at h
  simp only [nameC, Bool.or_eq_true, Bool.and_eq_true, decide_eq_true_eq]
  exact .inl (.inr h)
 rcases hc with ⟨rfl, _, rfl, rfl⟩ | ⟨rfl, rfl, rfl⟩ | ⟨rfl, hn, rfl, rfl⟩ | ⟨rfl, rfl, rfl⟩ | ⟨rfl, _⟩ | ⟨rfl, _⟩
 ·refine .inl ⟨rfl, ?_⟩
  by_cases h : n = 1
  ·left; simp [showV, h]
  ·right; simp [showV, h]
 ·have e : showV (.mk 2 n [] []) = Lib.itoa n := by simp [showV]
  rw [e]
  exact .inr (.inl ⟨.inl rfl, Qoz n, Qk7 (Qpj (Qoz n)), fun c hc => (Qk7 hc).imp (hdn c) id⟩)
 ·have e : showV (.mk 3 0 s []) = s ++ [98] := by simp [showV]
  rw [e]
  obtain ⟨q1, q2, _⟩ := QjL hn
  refine .inr (.inl ⟨.inr rfl, by simp, ?_, fun c hc => ?_⟩)
  ·cases s with
   | nil => exact absurd rfl q1
   | cons c s => exact q2 c (List.mem_cons_self ..)
  ·rcases List.mem_append.1 hc with hc | hc
   ·exact (q2 c hc).imp (hdn c) id
   ·rw [List.mem_singleton] at hc; subst hc; exact .inl rfl
 ·exact .inr (.inr ⟨rfl, s, by simp [showV, quoteS], rfl⟩)
 ·omega
 ·omega
theorem Qug {v : V} {u : Str} (h : litV v = true) (hu : EndD u) : sig (showV v ++ u) = 1 := by
 rcases Qgi h with ⟨_, e | e⟩ | ⟨_, h1, h2, _⟩ | ⟨_, s, e, _⟩
 ·have := QiM (a := trueS) (x := u) (by decide) hu.nm
  rw [e]
  have e2 : tk (116 :: ([114, 117, 101] ++ u)) = trueS := this
  show sig (116 :: ([114, 117, 101] ++ u)) = 1
  rw [QlJ (by decide) e2]; decide
 ·have := QiM (a := falseS) (x := u) (by decide) hu.nm
  rw [e]
  have e2 : tk (102 :: ([97, 108, 115, 101] ++ u)) = falseS := this
  show sig (102 :: ([97, 108, 115, 101] ++ u)) = 1
  rw [QlJ (by decide) e2]; decide
 ·cases hs : showV v with
  | nil => exact absurd hs h1
  | cons c t =>
   rw [hs, List.headD_cons] at h2
   obtain ⟨q1, q2, q3, q4, _⟩ := Qpm h2
   simp only [List.cons_append, sig]
   rw [if_neg (by rw [q1]; decide), if_neg q2, if_neg q3, if_neg (by rw [q4]; decide)]
 ·rw [e]
  simp only [List.cons_append, sig]
  rw [if_neg (by decide), if_neg (by decide), if_neg (by decide), if_neg (by decide)]
theorem QkR {n u : Str} (h : varS n = true) : sig (n ++ u) = 2 := by
 obtain ⟨c, t, rfl, hc⟩ := Qmt h
 simp only [List.cons_append, sig, hc, if_true]
theorem Qru {u : Str} : sig (95 :: u) = 3 := by simp [sig]; decide
theorem Qf0 {u : Str} : sig (40 :: u) = 4 := by simp [sig]; decide
theorem Qp5 {n u : Str} (h : longS n = true) (hu : ∀ c t, u = c :: t → nameC c = false) : sig (n ++ u) = 5 ∧ ∃ a, tk (n ++ u) = a ∧ a ∉ resW := by
 obtain ⟨a, r, rfl, ha, hr⟩ := Qij h
 obtain ⟨_, _, _, h4, h5⟩ := Q9 ha
 have ht : tk (a ++ r ++ u) = a := by
  rw [List.append_assoc]
  refine QiM h4 fun c t e => ?_
  rcases hr with rfl | ⟨b, rfl, _⟩
  ·exact hu c t e
  ·injection e with e _; subst e; rfl
 refine ⟨?_, a, ht, h5⟩
 obtain ⟨c, t, rfl, hc⟩ := Qfw ha
 have ht : tk (c :: (t ++ r ++ u)) = c :: t := by simpa using ht
 obtain ⟨q1, q2, q3, _⟩ := Qk8 hc
 simp only [List.cons_append, sig]
 rw [if_neg (by rw [q1]; decide), if_neg q2, if_neg q3, if_pos hc, ht]
 rw [if_neg fun hh => h5 (by rcases hh with hh | hh <;> rw [hh] <;> decide), if_neg fun hh => h5 (by
  rcases QmR hh with hh | hh | hh | hh <;> rw [hh] <;> decide)]
theorem Qty {n u : Str} (h : funB n = true) : sig (n ++ 40 :: u) = 6 ∧ tk (n ++ 40 :: u) = n := by
 have h40 : ∀ c t, (40 : UInt8) :: u = c :: t → nameC c = false := fun c t e => by injection e with e _; subst e; rfl
 have key : ∀ n : Str, (∀ c ∈ n, nameC c = true) → tk (n ++ 40 :: u) = n := fun n hn => QiM hn h40
 rcases QmR h with rfl | rfl | rfl | rfl
 all_goals refine ⟨?_, key _ (by decide)⟩
 ·have := key negS (by decide)
  have e2 : tk (110 :: ([101, 103] ++ 40 :: u)) = negS := this
  show sig (110 :: ([101, 103] ++ 40 :: u)) = 6
  rw [QlJ (by decide) e2]; decide
 ·have := key lenS (by decide)
  have e2 : tk (108 :: ([101, 110] ++ 40 :: u)) = lenS := this
  show sig (108 :: ([101, 110] ++ 40 :: u)) = 6
  rw [QlJ (by decide) e2]; decide
 ·have := key bigS (by decide)
  have e2 : tk (98 :: ([105, 103] ++ 40 :: u)) = bigS := this
  show sig (98 :: ([105, 103] ++ 40 :: u)) = 6
  rw [QlJ (by decide) e2]; decide
 ·have := key intS (by decide)
  have e2 : tk (105 :: ([110, 116] ++ 40 :: u)) = intS := this
  show sig (105 :: ([110, 116] ++ 40 :: u)) = 6
  rw [QlJ (by decide) e2]; decide
theorem Que {v w : V} {u u' : Str} (hv : litV v = true) (hw : litV w = true) (hu : EndE u) (hu' : EndE u') (e : showV v ++ u = showV w ++ u') : v = w ∧ u = u' := by
 have hP : ∀ {u : Str}, EndE u → ∀ c t, u = c :: t → (nameC c || c == 45) = false := fun {u} hu c t e => by
  rcases hu.d c t e with h | h | h | h <;> subst h <;> rfl
 have same : showV v = showV w → u = u' → v = w ∧ u = u' := fun h1 h2 => ⟨(Qtg v w [] [] (QoC hv).1 (QoC hw).1 (.inl rfl) (.inl rfl) (by rw [h1])).1, h2⟩
 have tokc : ∀ {v : V}, litV v = true → v.k ≠ 4 → ∀ c ∈ showV v, (nameC c || c == 45) = true := fun {v} h h4 c hc => by
  rcases Qgi h with ⟨_, e | e⟩ | ⟨_, _, _, h3⟩ | ⟨h3, _⟩
  ·rw [e] at hc; exact (by decide : ∀ c ∈ trueS, (nameC c || c == 45) = true) c hc
  ·rw [e] at hc; exact (by decide : ∀ c ∈ falseS, (nameC c || c == 45) = true) c hc
  ·rcases h3 c hc with h | h
   ·rw [h]; rfl
   ·subst h; rfl
  ·exact absurd h3 h4
 have h34 : ∀ {v : V}, litV v = true → v.k ≠ 4 → ∀ s t, showV v ++ t ≠ 34 :: s := fun {v} h h4 s t e => by
  have hne : showV v ≠ [] := by
   rcases Qgi h with ⟨_, e | e⟩ | ⟨_, h3, _⟩ | ⟨h3, _⟩
   ·rw [e]; decide
   ·rw [e]; decide
   ·exact h3
   ·exact absurd h3 h4
  cases hs : showV v with
  | nil => exact hne hs
  | cons c r =>
   rw [hs] at e
   injection e with e _
   have := tokc h h4 c (by rw [hs]; exact List.mem_cons_self ..)
   rw [e] at this; exact absurd this (by decide)
 by_cases h1 : v.k = 4 <;> by_cases h2 : w.k = 4
 ·rcases Qgi hv with ⟨h, _⟩ | ⟨h, _⟩ | ⟨_, s, e1, ev⟩
  ·omega
  ·omega
  rcases Qgi hw with ⟨h, _⟩ | ⟨h, _⟩ | ⟨_, t, e2, ew⟩
  ·omega
  ·omega
  rw [e1, e2] at e
  simp only [List.cons_append, List.append_assoc, List.cons.injEq, true_and, List.nil_append] at e
  obtain ⟨q1, q2⟩ := Qsk e
  exact ⟨by rw [ev, ew, q1], q2⟩
 ·rcases Qgi hv with ⟨h, _⟩ | ⟨h, _⟩ | ⟨_, s, e1, ev⟩
  ·omega
  ·omega
  rw [e1] at e
  exact absurd e.symm (h34 hw h2 _ _)
 ·rcases Qgi hw with ⟨h, _⟩ | ⟨h, _⟩ | ⟨_, s, e1, ev⟩
  ·omega
  ·omega
  rw [e1] at e
  exact absurd e (h34 hv h1 _ _)
 ·obtain ⟨q1, q2⟩ := tokP (P := fun c => nameC c || c == 45) (tokc hv h1) (tokc hw h2) (hP hu) (hP hu') e
  exact same q1 q2
def badW : List Str := [notS, ifS, countS, sumS, minS, maxS]
theorem QsJ : ∀ s ∈ badW, lowC (s.headD 0) = true := by decide
theorem QsK : ∀ s ∈ badW, s ∈ resW := by decide
theorem Qnk {c : UInt8} {t : Str} (h : lowC c = false) : tk (c :: t) ∉ badW := fun hm => by
 have h2 := QsJ _ hm
 simp only [tk, List.takeWhile_cons] at h2
 split at h2
 ·rw [List.headD_cons, h] at h2; cases h2
 ·exact absurd h2 (by decide)
theorem QmQ {p : Bool} : ∀ x : ExV, exOk p x = true → ∀ w, EndD w → (∃ c t, exT x ++ w = c :: t ∧ c ≠ 41 ∧ c ≠ 46) ∧ tk (exT x ++ w) ∉ badW := by
 refine ExV.rec_ fun x ih h w hw => ?_
 have key40 : ∀ t : Str, (∃ c s, (40 : UInt8) :: t = c :: s ∧ c ≠ 41 ∧ c ≠ 46) ∧ tk (40 :: t) ∉ badW := fun t => ⟨⟨40, t, rfl, by decide, by decide⟩, Qnk (by decide)⟩
 cases ExC.of h with
 | lit v hv =>
  rw [QmM]
  rcases Qgi hv with ⟨_, e | e⟩ | ⟨_, h1, h3, _⟩ | ⟨_, s, e, _⟩
  ·have := QiM (a := trueS) (x := w) (by decide) hw.nm
   rw [e, this]; exact ⟨⟨116, [114, 117, 101] ++ w, rfl, by decide, by decide⟩, by decide⟩
  ·have := QiM (a := falseS) (x := w) (by decide) hw.nm
   rw [e, this]; exact ⟨⟨102, [97, 108, 115, 101] ++ w, rfl, by decide, by decide⟩, by decide⟩
  ·cases hs : showV v with
   | nil => exact absurd hs h1
   | cons c t =>
    rw [hs, List.headD_cons] at h3
    have hd : c ≠ 41 ∧ c ≠ 46 := by
     rcases h3 with h3 | h3
     ·exact ⟨QrF h3 rfl, QrF h3 rfl⟩
     ·subst h3; decide
    exact ⟨⟨c, t ++ w, rfl, hd⟩, Qnk (Qpm h3).2.2.2.1⟩
  ·rw [e]
   exact ⟨⟨34, _, rfl, by decide, by decide⟩, Qnk (by decide)⟩
 | var n hn =>
  rw [Qjf]
  obtain ⟨c, t, rfl, hc⟩ := Qmt hn
  exact ⟨⟨c, t ++ w, rfl, (by rintro rfl; revert hc; decide), (by rintro rfl; revert hc; decide)⟩, Qnk (QtL hc)⟩
 | any hp =>
  rw [Qop]
  exact ⟨⟨95, w, rfl, by decide, by decide⟩, Qnk (by decide)⟩
 | tup a _ _ => rw [QmO]; exact key40 _
 | mak n a hn _ =>
  rw [QmN, List.append_assoc]
  have hr : ∀ c t, (if a.length = 0 then [] else 40 :: (exsT cm 0 a ++ [41])) ++ w = c :: t → nameC c = false := fun c t e => by
   split at e
   ·exact hw.nm c t e
   ·injection e with e _; subst e; rfl
  obtain ⟨_, b, hb, hres⟩ := Qp5 hn hr
  rw [hb]
  obtain ⟨c1, r1, rfl, ha, _⟩ := Qij hn
  obtain ⟨c, t, rfl, hc⟩ := Qfw ha
  exact ⟨⟨c, _, rfl, (Qk8 hc).2.2.2, by rintro rfl; revert hc; decide⟩, fun e => hres (QsK _ e)⟩
 | fn n x hp hn _ =>
  rw [Qpc hn, List.append_assoc]
  obtain ⟨_, ht⟩ := Qty (u := exT x ++ [41] ++ w) hn
  have e : n ++ (40 :: (exT x ++ [41]) ++ w) = n ++ 40 :: (exT x ++ [41] ++ w) := by simp
  rw [e, ht]
  rcases QmR hn with rfl | rfl | rfl | rfl
  ·exact ⟨⟨110, _, rfl, by decide, by decide⟩, by decide⟩
  ·exact ⟨⟨108, _, rfl, by decide, by decide⟩, by decide⟩
  ·exact ⟨⟨98, _, rfl, by decide, by decide⟩, by decide⟩
  ·exact ⟨⟨105, _, rfl, by decide, by decide⟩, by decide⟩
 | not x _ _ => rw [Qor]; exact key40 _
 | op n x y _ hn _ _ => rw [Qqr hn]; exact key40 _
 | fld n x hp hn hx =>
  rw [QpW]
  split
  ·exact key40 _
  ·rw [List.append_assoc]
   exact ih x (List.mem_singleton.2 rfl) hx _ fun c t e => by injection e with e _; exact .inr (.inr (.inr e.symm))
 | iff x y z _ _ _ _ => rw [Qoq]; exact key40 _
end
section
open Go
/-- an expression, with fields' names behind it -/
def ch (x : ExV) : List Str → ExV
 | [] => x
 | n :: ns => ch (.mk 7 n noV0 [x]) ns
def chT (x : ExV) (ns : List Str) : Str := (if brkE [x] = true ∧ ns ≠ [] then 40 :: (exT x ++ [41]) else exT x) ++ dots ns
theorem Qeu (x : ExV) : chT x [] = exT x := by simp [chT, dots]
theorem QrA {n : Str} {b : ExV} {ns : List Str} : chT (.mk 7 n noV0 [b]) ns = chT b (n :: ns) := by
 have h7 : brkE [ExV.mk 7 n noV0 [b]] = false := by simp [brkE, ExV.k]
 unfold chT
 rw [h7, QpW]
 simp only [Bool.false_eq_true, false_and, if_false, dots, ne_eq, reduceCtorEq, not_false_eq_true, and_true, List.append_assoc, List.cons_append]
def Inj (x : ExV) : Prop := ∀ (p q : Bool) (y : ExV) (u v : Str), exOk p x = true → exOk q y = true → EndE u → EndE v → exT x ++ u = exT y ++ v → x = y ∧ u = v
/-- an expression's root -/
structure Rt (p : Bool) (y r : ExV) (ns : List Str) : Prop where
 k : r.k ≠ 7
 ok : exOk p r = true
 nm : ∀ n ∈ ns, namS n = true
 p : ns ≠ [] → p = false
 t : ∀ ms, chT y ms = chT r (ns ++ ms)
 c : ∀ ms, ch y ms = ch r (ns ++ ms)
theorem Qnf {p : Bool} : ∀ y : ExV, exOk p y = true → ∃ r ns, Rt p y r ns := by
 refine ExV.rec_ fun y ih h => ?_
 have base : y.k ≠ 7 → ∃ r ns, Rt p y r ns := fun hk => ⟨y, [], hk, h, fun n hn => (by cases hn), fun hn => absurd rfl hn, fun ms => rfl, fun ms => rfl⟩
 cases ExC.of h with
 | fld n x hp hn hx =>
  obtain ⟨r, ns, q⟩ := ih x (List.mem_singleton.2 rfl) hx
  refine ⟨r, ns ++ [n], q.k, q.ok, fun m hm => ?_, fun _ => hp, fun ms => ?_, fun ms => ?_⟩
  ·rcases List.mem_append.1 hm with hm | hm
   ·exact q.nm m hm
   ·rw [List.mem_singleton] at hm; rw [hm]; exact hn
  ·rw [QrA, q.t]; simp
  ·show ch x (n :: ms) = _
   rw [q.c]; simp
 | _ => exact base (by simp [ExV.k])
/-- kinds whose text doesn't begin with ( -/
inductive NP (p : Bool) : ExV → Prop
 | lit (v : V) : litV v = true → NP p (.mk 1 [] v [])
 | mak (n : Str) (a : List ExV) : longS n = true → exsOk p a = true → NP p (.mk 5 n noV0 a)
 | fn (n : Str) (x : ExV) : p = false → funB n = true → exOk p x = true → NP p (.mk 6 n noV0 [x])
theorem Qcm {l : List ExV} {r : Str} {i : Nat} : EndE (exsT cm (i + 1) l ++ 41 :: r) := by
 cases l with
 | nil => exact EndE.of (.inl rfl)
 | cons x l => exact EndE.of (c := 44) (t := 32 :: (exT x ++ exsT cm (i + 1 + 1) l) ++ 41 :: r) (.inr (.inl rfl))
theorem cm0 : cm 0 = [] := rfl
theorem Qov : ∀ (l : List ExV), (∀ x ∈ l, Inj x) → ∀ (i : Nat) (l' : List ExV) (r r' : Str) (p q : Bool), exsOk p l = true → exsOk q l' = true → exsT cm i l ++ 41 :: r = exsT cm i l' ++ 41 :: r' → l = l' ∧ r = r'
 | [], _, i, [], r, r', p, q, _, _, e => ⟨rfl, by simpa [exsT] using e⟩
 | [], _, i, w :: l', r, r', p, q, _, h2, e => by
  exfalso
  simp only [exsOk, Bool.and_eq_true] at h2
  simp only [exsT, List.nil_append, List.append_assoc] at e
  cases i with
  | zero =>
   obtain ⟨⟨c, t, hc, hne, _⟩, _⟩ := QmQ w h2.1 (exsT cm (0 + 1) l' ++ 41 :: r') Qcm.d
   rw [cm0, List.nil_append, hc] at e
   injection e with e _; exact hne e.symm
  | succ i => simp [cm] at e
 | v :: l, _, i, [], r, r', p, q, h1, _, e => by
  exfalso
  simp only [exsOk, Bool.and_eq_true] at h1
  simp only [exsT, List.nil_append, List.append_assoc] at e
  cases i with
  | zero =>
   obtain ⟨⟨c, t, hc, hne, _⟩, _⟩ := QmQ v h1.1 (exsT cm (0 + 1) l ++ 41 :: r) Qcm.d
   rw [cm0, List.nil_append, hc] at e
   injection e with e _; exact hne e
  | succ i => simp [cm] at e
 | v :: l, ih, i, w :: l', r, r', p, q, h1, h2, e => by
  simp only [exsOk, Bool.and_eq_true] at h1 h2
  simp only [exsT, List.append_assoc] at e
  have e := List.append_cancel_left e
  obtain ⟨q1, q2⟩ := ih v (List.mem_cons_self ..) p q w _ _ h1.1 h2.1 Qcm Qcm e
  obtain ⟨q3, q4⟩ := Qov l (fun v hv => ih v (List.mem_cons_of_mem _ hv)) (i + 1) l' r r' p q h1.2 h2.2 q2
  exact ⟨by rw [q1, q3], q4⟩
theorem NP.sig {p : Bool} {x : ExV} {u : Str} (h : NP p x) (hu : EndD u) : sig (exT x ++ u) = (if x.k = 1 then 1 else if x.k = 5 then 5 else 6) := by
 cases h with
 | lit v hv => rw [QmM, Qug hv hu]; rfl
 | mak n a hn _ =>
  rw [QmN, List.append_assoc]
  have hr : ∀ c t, (if a.length = 0 then [] else 40 :: (exsT cm 0 a ++ [41])) ++ u = c :: t → nameC c = false := fun c t e => by
   split at e
   ·exact hu.nm c t e
   ·injection e with e _; subst e; rfl
  rw [(Qp5 hn hr).1]; rfl
 | fn n x hp hn _ =>
  rw [Qpc hn, List.append_assoc]
  have e : n ++ (40 :: (exT x ++ [41]) ++ u) = n ++ 40 :: (exT x ++ [41] ++ u) := by simp
  rw [e, (Qty hn).1]; rfl
theorem NP.eq {p q : Bool} {x y : ExV} {u v : Str} (hx : NP p x) (hy : NP q y) (ih : ∀ w ∈ x.a, Inj w) (hu : EndE u) (hv : EndE v) (e : exT x ++ u = exT y ++ v) : x = y ∧ u = v := by
 have hs := (hx.sig hu.d).symm.trans ((congrArg Sx.sig e).trans (hy.sig hv.d))
 cases hx with
 | lit a ha =>
  cases hy with
  | lit b hb =>
   rw [QmM, QmM] at e
   obtain ⟨q1, q2⟩ := Que ha hb hu hv e
   exact ⟨by rw [q1], q2⟩
  | mak m b hm hb => simp [ExV.k] at hs
  | fn m y _ hm hy => simp [ExV.k] at hs
 | mak n a hn ha =>
  cases hy with
  | lit b hb => simp [ExV.k] at hs
  | mak m b hm hb =>
   rw [QmN, QmN, List.append_assoc, List.append_assoc] at e
   have hl : ∀ {a : List ExV} {u : Str}, EndE u → EndL ((if a.length = 0 then [] else 40 :: (exsT cm 0 a ++ [41])) ++ u) := fun {a u} hu => by
    split
    ·exact hu.l
    ·exact EndL.p _
   obtain ⟨q1, q2⟩ := Qmo hn hm (hl hu) (hl hv) e
   subst q1
   by_cases c1 : a.length = 0 <;> by_cases c2 : b.length = 0
   ·rw [if_pos c1, if_pos c2] at q2
    rw [List.length_eq_zero_iff.1 c1, List.length_eq_zero_iff.1 c2]
    exact ⟨rfl, q2⟩
   ·rw [if_pos c1, if_neg c2, List.nil_append] at q2
    exact absurd q2 hu.ne40
   ·rw [if_neg c1, if_pos c2, List.nil_append] at q2
    exact absurd q2.symm hv.ne40
   ·rw [if_neg c1, if_neg c2] at q2
    simp only [List.cons_append, List.append_assoc, List.cons.injEq, true_and, List.nil_append] at q2
    obtain ⟨q3, q4⟩ := Qov a ih 0 b u v p q ha hb q2
    exact ⟨by rw [q3], q4⟩
  | fn m y _ hm hy => simp [ExV.k] at hs
 | fn n x _ hn hx =>
  cases hy with
  | lit b hb => simp [ExV.k] at hs
  | mak m b hm hb => simp [ExV.k] at hs
  | fn m y _ hm hy =>
   rw [Qpc hn, Qpc hm, List.append_assoc, List.append_assoc] at e
   have hw : ∀ n, funB n = true → ∀ c ∈ n, nameC c = true := fun n hn => by
    rcases QmR hn with rfl | rfl | rfl | rfl <;> decide
   have h40 : ∀ {s u : Str} (c : UInt8) (t : Str), 40 :: s ++ u = c :: t → nameC c = false := fun {s u} c t e => by injection e with e _; subst e; rfl
   obtain ⟨q1, q2⟩ := tokP (hw n hn) (hw m hm) h40 h40 e
   subst q1
   simp only [List.cons_append, List.append_assoc, List.cons.injEq, true_and, List.nil_append] at q2
   obtain ⟨q3, q4⟩ := ih x (List.mem_singleton.2 rfl) _ _ y _ _ hx hy (EndE.of (.inl rfl)) (EndE.of (.inl rfl)) q2
   injection q4 with _ q4
   exact ⟨by rw [q3], q4⟩
/-- kinds whose text begins with (, and fields' names behind any kind -/
theorem NP.of {p : Bool} {x : ExV} (h : exOk p x = true) (hk : x.k ≠ 7) : NP p x ∨ (∃ n, varS n = true ∧ x = .mk 2 n noV0 []) ∨ (p = true ∧ x = .mk 3 [] noV0 []) ∨ (brkE [x] = false ∧ ∃ s, exT x = 40 :: s) := by
 cases ExC.of h with
 | lit v hv => exact .inl (.lit v hv)
 | var n hn => exact .inr (.inl ⟨n, hn, rfl⟩)
 | any hp => exact .inr (.inr (.inl ⟨hp, rfl⟩))
 | tup a _ _ => exact .inr (.inr (.inr ⟨by simp [brkE, ExV.k], _, QmO⟩))
 | mak n a hn ha => exact .inl (.mak n a hn ha)
 | fn n x hp hn hx => exact .inl (.fn n x hp hn hx)
 | not x _ _ => exact .inr (.inr (.inr ⟨by simp [brkE, ExV.k, ExV.n, Qp6], _, Qor⟩))
 | op n x y _ hn _ _ => exact .inr (.inr (.inr ⟨by simp [brkE, ExV.k, ExV.n, Qr9 hn], _, Qqr hn⟩))
 | fld n x _ _ _ => exact absurd rfl hk
 | iff x y z _ _ _ _ => exact .inr (.inr (.inr ⟨by simp [brkE, ExV.k], _, Qoq⟩))
theorem NP.brk {p : Bool} {x : ExV} (h : NP p x) : brkE [x] = true := by
 cases h with
 | lit v hv => simp [Sx.brkE, ExV.k]
 | mak n a hn ha => simp [Sx.brkE, ExV.k]
 | fn n x hp hn hx => simp [Sx.brkE, ExV.k, ExV.n, hn]
theorem NP.inj {p : Bool} {x : ExV} (hx : NP p x) (ih : ∀ w ∈ x.a, Inj w) {q : Bool} {y : ExV} {u v : Str} (hy : exOk q y = true) (hu : EndE u) (hv : EndE v) (e : exT x ++ u = exT y ++ v) : x = y ∧ u = v := by
 obtain ⟨r, ns, R⟩ := Qnf y hy
 have e1 := R.t []
 have e2 : ch y [] = _ := R.c []
 rw [Qeu, List.append_nil] at e1
 rw [List.append_nil] at e2
 have hs := hx.sig hu.d
 rw [e, e1] at hs
 have hno : (if x.k = 1 then 1 else if x.k = 5 then 5 else 6) ≠ 2 ∧ (if x.k = 1 then 1 else if x.k = 5 then 5 else 6) ≠ 3 ∧ (if x.k = 1 then 1 else if x.k = 5 then 5 else 6) ≠ 4 := by
  split
  ·decide
  ·split <;> decide
 by_cases hns : ns = []
 ·subst hns
  have ey : y = r := e2
  subst ey
  rcases NP.of R.ok R.k with h | ⟨n, hn, h⟩ | ⟨_, h⟩ | ⟨h1, s, h2⟩
  ·exact hx.eq h ih hu hv e
  ·exfalso
   rw [Qeu, h, Qjf, QkR hn] at hs
   exact hno.1 hs.symm
  ·exfalso
   rw [Qeu, h, Qop] at hs
   rw [show ([95] : Str) ++ v = 95 :: v from rfl, Qru] at hs
   exact hno.2.1 hs.symm
  ·exfalso
   rw [Qeu, h2, List.cons_append, Qf0] at hs
   exact hno.2.2 hs.symm
 ·exfalso
  unfold chT at hs
  rcases NP.of R.ok R.k with h | ⟨n, hn, h⟩ | ⟨h, _⟩ | ⟨h1, s, h2⟩
  ·rw [if_pos ⟨h.brk, hns⟩, List.cons_append, List.cons_append, Qf0] at hs
   exact hno.2.2 hs.symm
  ·have hb : Sx.brkE [r] = false := by rw [h]; simp [Sx.brkE, ExV.k]
   rw [hb, if_neg (by simp), h, Qjf, List.append_assoc, QkR hn] at hs
   exact hno.1 hs.symm
  ·rw [R.p hns] at h; cases h
  ·rw [h1, if_neg (by simp), h2, List.cons_append, List.cons_append, Qf0] at hs
   exact hno.2.2 hs.symm
/-- what stands behind the first ( -/
def sg2 (c : Str) : Nat := if c.head? = some 41 then 0 else if tk c = notS then 1 else if tk c = ifS then 2 else 3
/-- forms of a text that begins with (: the expression x, names ns, what is behind; the rest of the text -/
inductive PF (p : Bool) : ExV → List Str → Str → Str → Prop
 | tup0 (ns u) : PF p (.mk 4 [] noV0 []) ns u (41 :: (dots ns ++ u))
 | tup (e f l ns u) : exOk p e = true → exsOk p (f :: l) = true → PF p (.mk 4 [] noV0 (e :: f :: l)) ns u (exT e ++ (exsT cm 1 (f :: l) ++ 41 :: (dots ns ++ u)))
 | not (x ns u) : exOk p x = true → PF p (.mk 6 notS noV0 [x]) ns u (notS ++ 32 :: (exT x ++ 41 :: (dots ns ++ u)))
 | op (n x y ns u) : n ∈ opsW → exOk p x = true → exOk p y = true → PF p (.mk 6 n noV0 [x, y]) ns u (exT x ++ 32 :: (n ++ 32 :: (exT y ++ 41 :: (dots ns ++ u))))
 | iff (x y z ns u) : exOk p x = true → exOk p y = true → exOk p z = true → PF p (.mk 8 [] noV0 [x, y, z]) ns u (ifS ++ 32 :: (exT x ++ ([32, 116, 104, 101, 110, 32] ++ (exT y ++ ([32, 101, 108, 115, 101, 32] ++ (exT z ++ 41 :: (dots ns ++ u)))))))
 | brk (x ns u) : NP p x → PF p x ns u (exT x ++ 41 :: (dots ns ++ u))
theorem PF.of {p : Bool} {x : ExV} {ns : List Str} {u : Str} (h : exOk p x = true) (hk : x.k ≠ 7) : (NP p x ∧ ns = []) ∨ (∃ n, varS n = true ∧ x = .mk 2 n noV0 []) ∨ (p = true ∧ x = .mk 3 [] noV0 []) ∨ ∃ c, chT x ns ++ u = 40 :: c ∧ PF p x ns u c := by
 have np : NP p x → (NP p x ∧ ns = []) ∨ ∃ c, chT x ns ++ u = 40 :: c ∧ PF p x ns u c := fun h => by
  by_cases hn : ns = []
  ·exact .inl ⟨h, hn⟩
  ·refine .inr ⟨_, ?_, .brk x ns u h⟩
   unfold chT
   rw [if_pos ⟨h.brk, hn⟩]; simp
 have par : ∀ {s : Str}, Sx.brkE [x] = false → exT x = 40 :: s → chT x ns ++ u = 40 :: (s ++ (dots ns ++ u)) := fun {s} hb ht => by
  unfold chT
  rw [hb, if_neg (by simp), ht]; simp
 cases ExC.of h with
 | lit v hv => exact (np (.lit v hv)).imp id fun h => .inr (.inr h)
 | var n hn => exact .inr (.inl ⟨n, hn, rfl⟩)
 | any hp => exact .inr (.inr (.inl ⟨hp, rfl⟩))
 | tup a h1 ha =>
  refine .inr (.inr (.inr ?_))
  match a, h1, ha with
  | [], _, _ => exact ⟨_, (par (s := [41]) (by simp [Sx.brkE, ExV.k]) (by rw [QmO]; simp [exsT])).trans rfl, .tup0 ns u⟩
  | [e], h1, _ => exact absurd rfl h1
  | e :: f :: l, _, ha =>
   have ha' := ha
   rw [exsOk, Bool.and_eq_true] at ha'
   refine ⟨_, (par (by simp [Sx.brkE, ExV.k]) QmO).trans ?_, .tup e f l ns u ha'.1 ha'.2⟩
   rw [show exsT cm 0 (e :: f :: l) = exT e ++ exsT cm 1 (f :: l) from rfl]; simp
 | mak n a hn ha => exact (np (.mak n a hn ha)).imp id fun h => .inr (.inr h)
 | fn n x hp hn hx => exact (np (.fn n x hp hn hx)).imp id fun h => .inr (.inr h)
 | not x _ hx => exact .inr (.inr (.inr ⟨_, (par (by simp [Sx.brkE, ExV.k, ExV.n, Qp6]) Qor).trans (by simp), .not x ns u hx⟩))
 | op n x y _ hn hx hy => exact .inr (.inr (.inr ⟨_, (par (by simp [Sx.brkE, ExV.k, ExV.n, Qr9 hn]) (Qqr hn)).trans (by simp), .op n x y ns u hn hx hy⟩))
 | fld n x _ _ _ => exact absurd rfl hk
 | iff x y z _ hx hy hz => exact .inr (.inr (.inr ⟨_, (par (s := (ifS ++ 32 :: (exT x ++ ([32, 116, 104, 101, 110, 32] ++ (exT y ++ ([32, 101, 108, 115, 101, 32] ++ (exT z ++ [41]))))))) (by simp [Sx.brkE, ExV.k]) (by rw [Qoq]; rfl)).trans (by simp), .iff x y z ns u hx hy hz⟩))
theorem Qfh {p : Bool} {x : ExV} {w : Str} (h : exOk p x = true) (hw : EndD w) : sg2 (exT x ++ w) = 3 := by
 obtain ⟨⟨c, t, e, hc, _⟩, h2⟩ := QmQ x h w hw
 unfold sg2
 rw [if_neg (show ¬ tk (exT x ++ w) = notS from fun e => h2 (by rw [e]; decide)), if_neg (show ¬ tk (exT x ++ w) = ifS from fun e => h2 (by rw [e]; decide)), if_neg]
 rw [e]; simp [hc]
theorem Qhv {w : Str} : sg2 (notS ++ 32 :: w) = 1 := by
 have := QiM (a := notS) (x := 32 :: w) (by decide) fun c t e => by injection e with e _; subst e; rfl
 unfold sg2
 rw [if_neg (by simp [notS]), if_pos this]
theorem Qke {w : Str} : sg2 (ifS ++ 32 :: w) = 2 := by
 have := QiM (a := ifS) (x := 32 :: w) (by decide) fun c t e => by injection e with e _; subst e; rfl
 unfold sg2
 rw [if_neg (by simp [ifS]), if_neg (by rw [this]; decide), if_pos this]
theorem Qu8 {n m t s : Str} (hn : n ∈ opsW) (hm : m ∈ opsW) (e : n ++ 32 :: t = m ++ 32 :: s) : n = m ∧ t = s := by
 have hP : ∀ n ∈ opsW, ∀ c ∈ n, (!(c == 32)) = true := by decide
 obtain ⟨q1, q2⟩ := tokP (P := fun c => !(c == 32)) (hP n hn) (hP m hm) (fun c t e => by injection e with e _; subst e; rfl) (fun c t e => by injection e with e _; subst e; rfl) e
 injection q2 with _ q2
 exact ⟨q1, q2⟩
/-- the expression at the head of what stands behind the first ( -/
theorem PF.inj {p q : Bool} {x y : ExV} {ns ms : List Str} {u v c : Str} (hx : PF p x ns u c) (hy : PF q y ms v c) (okx : exOk p x = true) (oky : exOk q y = true) (ih : ∀ w ∈ x.a, Inj w) (hn : ∀ n ∈ ns, namS n = true) (hm : ∀ n ∈ ms, namS n = true) (hu : EndE u) (hv : EndE v) : x = y ∧ ns = ms ∧ u = v := by
 have E41 : ∀ {t : Str}, EndE (41 :: t) := fun {t} => EndE.of (.inl rfl)
 have E32 : ∀ {t : Str}, EndE (32 :: t) := fun {t} => EndE.of (.inr (.inr rfl))
 have fin : ∀ {d : Str}, 41 :: (dots ns ++ u) = 41 :: (dots ms ++ v) → ns = ms ∧ u = v := fun {d} e => by
  injection e with _ e
  exact Qml hn hm hu hv e
 have c41 : ∀ {s : Str}, sg2 (41 :: s) = 0 := fun {s} => by simp [sg2]
 have sep : ∀ {f : ExV} {l : List ExV} {t : Str}, ∃ s, exsT cm 1 (f :: l) ++ t = 44 :: 32 :: s := fun {f l t} => ⟨exT f ++ exsT cm 2 l ++ t, by simp [exsT, cm]⟩
 -- the head expression decides
 have headx : ∀ {e e' : ExV} {w w' : Str} {p q : Bool}, (e = x ∧ NP p x ∨ e ∈ x.a) → exOk p e = true → exOk q e' = true → EndE w → EndE w' → exT e ++ w = exT e' ++ w' → e = e' ∧ w = w' := fun {e e' w w' p q} he ok ok' h h' ee => by
  rcases he with ⟨rfl, hnp⟩ | he
  ·exact hnp.inj ih ok' h h' ee
  ·exact ih e he p q e' w w' ok ok' h h' ee
 generalize hc : c = c0 at hy
 cases hx with
 | tup0 ns u =>
  cases hy with
  | tup0 => exact ⟨rfl, fin (d := []) hc⟩
  | tup e f l ms v h1 h2 => have := congrArg sg2 hc; rw [c41, Qfh h1 (Qcm (i := 0)).d] at this; cases this
  | not x ms v h1 => have := congrArg sg2 hc; rw [c41, Qhv] at this; cases this
  | op n x y ms v h0 h1 h2 => have := congrArg sg2 hc; rw [c41, Qfh h1 E32.d] at this; cases this
  | iff x y z ms v h1 h2 h3 => have := congrArg sg2 hc; rw [c41, Qke] at this; cases this
  | brk _ _ _ h1 => have := congrArg sg2 hc; rw [c41, Qfh oky E41.d] at this; cases this
 | tup e f l ns u g1 g2 =>
  cases hy with
  | tup0 => have := congrArg sg2 hc; rw [c41, Qfh g1 (Qcm (i := 0)).d] at this; cases this
  | tup e' f' l' ms v h1 h2 =>
   obtain ⟨q1, q2⟩ := headx (.inr (List.mem_cons_self ..)) g1 h1 (Qcm (i := 0)) (Qcm (i := 0)) hc
   obtain ⟨q3, q4⟩ := Qov (f :: l) (fun w hw => ih w (List.mem_cons_of_mem _ hw)) 1 (f' :: l') _ _ p q g2 h2 q2
   obtain ⟨q5, q6⟩ := Qml hn hm hu hv q4
   exact ⟨by rw [q1, q3], q5, q6⟩
  | not x ms v h1 => have := congrArg sg2 hc; rw [Qhv, Qfh g1 (Qcm (i := 0)).d] at this; cases this
  | op n x y ms v h0 h1 h2 =>
   obtain ⟨_, q2⟩ := headx (.inr (List.mem_cons_self ..)) g1 h1 (Qcm (i := 0)) E32 hc
   obtain ⟨s, hs⟩ := sep (f := f) (l := l) (t := 41 :: (dots ns ++ u))
   rw [hs] at q2; injection q2 with q2 _; exact absurd q2 (by decide)
  | iff x y z ms v h1 h2 h3 => have := congrArg sg2 hc; rw [Qke, Qfh g1 (Qcm (i := 0)).d] at this; cases this
  | brk _ _ _ h1 =>
   obtain ⟨_, q2⟩ := headx (.inr (List.mem_cons_self ..)) g1 oky (Qcm (i := 0)) E41 hc
   obtain ⟨s, hs⟩ := sep (f := f) (l := l) (t := 41 :: (dots ns ++ u))
   rw [hs] at q2; injection q2 with q2 _; exact absurd q2 (by decide)
 | not x ns u g1 =>
  cases hy with
  | tup0 => have := congrArg sg2 hc; rw [c41, Qhv] at this; cases this
  | tup e' f' l' ms v h1 h2 => have := congrArg sg2 hc; rw [Qhv, Qfh h1 (Qcm (i := 0)).d] at this; cases this
  | not x' ms v h1 =>
   have hc := List.append_cancel_left hc
   injection hc with _ hc
   obtain ⟨q1, q2⟩ := headx (.inr (List.mem_cons_self ..)) g1 h1 E41 E41 hc
   obtain ⟨q3, q4⟩ := fin (d := []) q2
   exact ⟨by rw [q1], q3, q4⟩
  | op n x y ms v h0 h1 h2 => have := congrArg sg2 hc; rw [Qhv, Qfh h1 E32.d] at this; cases this
  | iff x y z ms v h1 h2 h3 => have := congrArg sg2 hc; rw [Qke, Qhv] at this; cases this
  | brk _ _ _ h1 => have := congrArg sg2 hc; rw [Qhv, Qfh oky E41.d] at this; cases this
 | op n x y ns u g0 g1 g2 =>
  cases hy with
  | tup0 => have := congrArg sg2 hc; rw [c41, Qfh g1 E32.d] at this; cases this
  | tup e' f' l' ms v h1 h2 =>
   obtain ⟨_, q2⟩ := headx (.inr (List.mem_cons_self ..)) g1 h1 E32 (Qcm (i := 0)) hc
   obtain ⟨s, hs⟩ := sep (f := f') (l := l') (t := 41 :: (dots ms ++ v))
   rw [hs] at q2; injection q2 with q2 _; exact absurd q2 (by decide)
  | not x' ms v h1 => have := congrArg sg2 hc; rw [Qhv, Qfh g1 E32.d] at this; cases this
  | op n' x' y' ms v h0 h1 h2 =>
   obtain ⟨q1, q2⟩ := headx (.inr (List.mem_cons_self ..)) g1 h1 E32 E32 hc
   injection q2 with _ q2
   obtain ⟨q3, q4⟩ := Qu8 g0 h0 q2
   obtain ⟨q5, q6⟩ := headx (.inr (List.mem_cons_of_mem _ (List.mem_cons_self ..))) g2 h2 E41 E41 q4
   obtain ⟨q7, q8⟩ := fin (d := []) q6
   exact ⟨by rw [q1, q3, q5], q7, q8⟩
  | iff x y z ms v h1 h2 h3 => have := congrArg sg2 hc; rw [Qke, Qfh g1 E32.d] at this; cases this
  | brk _ _ _ h1 =>
   obtain ⟨_, q2⟩ := headx (.inr (List.mem_cons_self ..)) g1 oky E32 E41 hc
   injection q2 with q2 _; exact absurd q2 (by decide)
 | iff x y z ns u g1 g2 g3 =>
  cases hy with
  | tup0 => have := congrArg sg2 hc; rw [c41, Qke] at this; cases this
  | tup e' f' l' ms v h1 h2 => have := congrArg sg2 hc; rw [Qke, Qfh h1 (Qcm (i := 0)).d] at this; cases this
  | not x' ms v h1 => have := congrArg sg2 hc; rw [Qke, Qhv] at this; cases this
  | op n' x' y' ms v h0 h1 h2 => have := congrArg sg2 hc; rw [Qke, Qfh h1 E32.d] at this; cases this
  | iff x' y' z' ms v h1 h2 h3 =>
   have hc := List.append_cancel_left hc
   injection hc with _ hc
   obtain ⟨q1, q2⟩ := headx (.inr (List.mem_cons_self ..)) g1 h1 E32 E32 hc
   have q2 := List.append_cancel_left (show ([32, 116, 104, 101, 110, 32] : Str) ++ (exT y ++ ([32, 101, 108, 115, 101, 32] ++ (exT z ++ 41 :: (dots ns ++ u)))) = ([32, 116, 104, 101, 110, 32] : Str) ++ (exT y' ++ ([32, 101, 108, 115, 101, 32] ++ (exT z' ++ 41 :: (dots ms ++ v)))) from q2)
   obtain ⟨q3, q4⟩ := headx (.inr (List.mem_cons_of_mem _ (List.mem_cons_self ..))) g2 h2 E32 E32 q2
   have q4 := List.append_cancel_left (show ([32, 101, 108, 115, 101, 32] : Str) ++ (exT z ++ 41 :: (dots ns ++ u)) = ([32, 101, 108, 115, 101, 32] : Str) ++ (exT z' ++ 41 :: (dots ms ++ v)) from q4)
   obtain ⟨q5, q6⟩ := headx (.inr (List.mem_cons_of_mem _ (List.mem_cons_of_mem _ (List.mem_cons_self ..)))) g3 h3 E41 E41 q4
   obtain ⟨q7, q8⟩ := fin (d := []) q6
   exact ⟨by rw [q1, q3, q5], q7, q8⟩
  | brk _ _ _ h1 => have := congrArg sg2 hc; rw [Qke, Qfh oky E41.d] at this; cases this
 | brk _ _ _ g1 =>
  cases hy with
  | tup0 => have := congrArg sg2 hc; rw [c41, Qfh okx E41.d] at this; cases this
  | tup e' f' l' ms v h1 h2 =>
   obtain ⟨_, q2⟩ := headx (.inl ⟨rfl, g1⟩) okx h1 E41 (Qcm (i := 0)) hc
   obtain ⟨s, hs⟩ := sep (f := f') (l := l') (t := 41 :: (dots ms ++ v))
   rw [hs] at q2; injection q2 with q2 _; exact absurd q2 (by decide)
  | not x' ms v h1 => have := congrArg sg2 hc; rw [Qhv, Qfh okx E41.d] at this; cases this
  | op n' x' y' ms v h0 h1 h2 =>
   obtain ⟨_, q2⟩ := headx (.inl ⟨rfl, g1⟩) okx h1 E41 E32 hc
   injection q2 with q2 _; exact absurd q2 (by decide)
  | iff x' y' z' ms v h1 h2 h3 => have := congrArg sg2 hc; rw [Qke, Qfh okx E41.d] at this; cases this
  | brk _ _ _ h1 =>
   obtain ⟨q1, q2⟩ := headx (.inl ⟨rfl, g1⟩) okx oky E41 E41 hc
   obtain ⟨q3, q4⟩ := fin (d := []) q2
   exact ⟨q1, q3, q4⟩
end
section
open Go
def InjC (x : ExV) : Prop := ∀ (p q : Bool) (ns : List Str) (y : ExV) (ms : List Str) (u v : Str), exOk p x = true → exOk q y = true → (∀ n ∈ ns, namS n = true) → (∀ n ∈ ms, namS n = true) → (ns ≠ [] → p = false) → (ms ≠ [] → q = false) → EndE u → EndE v → chT x ns ++ u = chT y ms ++ v → ch x ns = ch y ms ∧ u = v
theorem InjC.inj {x : ExV} (h : InjC x) : Inj x := fun p q y u v hx hy hu hv e => by
 have := h p q [] y [] u v hx hy (fun n hn => by cases hn) (fun n hn => by cases hn) (fun h => absurd rfl h) (fun h => absurd rfl h) hu hv (by rw [Qeu, Qeu]; exact e)
 exact this
/-- between roots -/
theorem Qs7 {p q : Bool} {x y : ExV} {ns ms : List Str} {u v : Str} (ih : ∀ w ∈ x.a, Inj w) (hx : exOk p x = true) (hy : exOk q y = true) (kx : x.k ≠ 7) (ky : y.k ≠ 7) (hn : ∀ n ∈ ns, namS n = true) (hm : ∀ n ∈ ms, namS n = true) (pn : ns ≠ [] → p = false) (qm : ms ≠ [] → q = false) (hu : EndE u) (hv : EndE v)
 (e : chT x ns ++ u = chT y ms ++ v) : x = y ∧ ns = ms ∧ u = v := by
 have sgn : ∀ {p : Bool} {x : ExV} {u : Str}, NP p x → EndE u → sig (chT x [] ++ u) ≠ 2 ∧ sig (chT x [] ++ u) ≠ 3 ∧ sig (chT x [] ++ u) ≠ 4 := fun {p x u} h hu => by
  rw [Qeu, h.sig hu.d]
  split
  ·decide
  ·split <;> decide
 have sgv : ∀ {n : Str} {ns : List Str} {u : Str}, varS n = true → chT (.mk 2 n noV0 []) ns ++ u = n ++ (dots ns ++ u) ∧ sig (chT (.mk 2 n noV0 []) ns ++ u) = 2 := fun {n ns u} h => by
  have e : chT (.mk 2 n noV0 []) ns ++ u = n ++ (dots ns ++ u) := by
   unfold chT
   rw [if_neg (by simp [Sx.brkE, ExV.k]), Qjf, List.append_assoc]
  exact ⟨e, by rw [e, QkR h]⟩
 have sga : ∀ {ns : List Str} {u : Str}, chT (.mk 3 [] noV0 []) ns ++ u = 95 :: (dots ns ++ u) ∧ sig (chT (.mk 3 [] noV0 []) ns ++ u) = 3 := fun {ns u} => by
  have e : chT (.mk 3 [] noV0 []) ns ++ u = 95 :: (dots ns ++ u) := by
   unfold chT
   rw [if_neg (by simp [Sx.brkE, ExV.k]), Qop]; rfl
  exact ⟨e, by rw [e, Qru]⟩
 rcases PF.of (ns := ns) (u := u) hx kx with ⟨h1, rfl⟩ | ⟨n, h1, rfl⟩ | ⟨h1, rfl⟩ | ⟨c, h1, h2⟩
 ·have s1 := sgn h1 hu
  rw [e] at s1
  rcases PF.of (ns := ms) (u := v) hy ky with ⟨g1, rfl⟩ | ⟨m, g1, rfl⟩ | ⟨g1, rfl⟩ | ⟨d, g1, g2⟩
  ·rw [Qeu, Qeu] at e
   obtain ⟨q1, q2⟩ := h1.eq g1 ih hu hv e
   exact ⟨q1, rfl, q2⟩
  ·exact absurd (sgv g1).2 s1.1
  ·exact absurd sga.2 s1.2.1
  ·rw [g1, Qf0] at s1; exact absurd rfl s1.2.2
 ·obtain ⟨e1, s1⟩ := sgv (ns := ns) (u := u) h1
  rw [e] at s1
  rcases PF.of (ns := ms) (u := v) hy ky with ⟨g1, rfl⟩ | ⟨m, g1, rfl⟩ | ⟨g1, rfl⟩ | ⟨d, g1, g2⟩
  ·exact absurd s1 (sgn g1 hv).1
  ·rw [e1, (sgv g1).1] at e
   obtain ⟨q1, q2⟩ := tokP (QfQ h1).2.2.2 (QfQ g1).2.2.2 (Qk2 hu).nm (Qk2 hv).nm e
   obtain ⟨q3, q4⟩ := Qml hn hm hu hv q2
   exact ⟨by rw [q1], q3, q4⟩
  ·rw [sga.2] at s1; cases s1
  ·rw [g1, Qf0] at s1; cases s1
 ·obtain ⟨e1, s1⟩ := sga (ns := ns) (u := u)
  rw [e] at s1
  have hns : ns = [] := Classical.byContradiction fun h => by rw [pn h] at h1; cases h1
  subst hns
  rcases PF.of (ns := ms) (u := v) hy ky with ⟨g1, rfl⟩ | ⟨m, g1, rfl⟩ | ⟨g1, rfl⟩ | ⟨d, g1, g2⟩
  ·exact absurd s1 (sgn g1 hv).2.1
  ·rw [(sgv g1).2] at s1; cases s1
  ·have hms : ms = [] := Classical.byContradiction fun h => by rw [qm h] at g1; cases g1
   subst hms
   rw [e1, sga.1] at e
   injection e with _ e
   exact ⟨rfl, rfl, e⟩
  ·rw [g1, Qf0] at s1; cases s1
 ·have s1 : sig (chT y ms ++ v) = 4 := by rw [← e, h1, Qf0]
  rcases PF.of (ns := ms) (u := v) hy ky with ⟨g1, rfl⟩ | ⟨m, g1, rfl⟩ | ⟨g1, rfl⟩ | ⟨d, g1, g2⟩
  ·exact absurd s1 (sgn g1 hv).2.2
  ·rw [(sgv g1).2] at s1; cases s1
  ·rw [sga.2] at s1; cases s1
  ·rw [h1, g1] at e
   injection e with _ e
   subst e
   exact h2.inj g2 hx hy ih hn hm hu hv
theorem QpY : ∀ x : ExV, InjC x := by
 refine ExV.rec_ fun x ih p q ns y ms u v hx hy hn hm pn qm hu hv e => ?_
 have rt : x.k ≠ 7 → ch x ns = ch y ms ∧ u = v := fun kx => by
  obtain ⟨r, ls, R⟩ := Qnf y hy
  rw [R.t] at e
  obtain ⟨q1, q2, q3⟩ := Qs7 (fun w hw => (ih w hw).inj) hx R.ok kx R.k hn (fun n hn => (List.mem_append.1 hn).elim (R.nm n) (hm n)) pn (fun h => by
   by_cases h1 : ls = []
   ·by_cases h2 : ms = []
    ·rw [h1, h2] at h; exact absurd rfl h
    ·exact qm h2
   ·exact R.p h1) hu hv e
  exact ⟨by rw [R.c, q1, q2], q3⟩
 cases ExC.of hx with
 | fld n b hp hnm hb =>
  rw [QrA] at e
  exact ih b (List.mem_singleton.2 rfl) p q (n :: ns) y ms u v hb hy (fun m hm => (List.mem_cons.1 hm).elim (fun h => h ▸ hnm) (hn m)) hm (fun _ => hp) qm hu hv e
 | _ => exact rt (by simp [ExV.k])
/-- the text tells the expression -/
theorem QlG {p q : Bool} {x y : ExV} {u v : Str} (hx : exOk p x = true) (hy : exOk q y = true) (hu : EndE u) (hv : EndE v) (e : exT x ++ u = exT y ++ v) : x = y ∧ u = v := (QpY x).inj p q y u v hx hy hu hv e
theorem Qqs {l l' : List ExV} {r r' : Str} {p q : Bool} (h1 : exsOk p l = true) (h2 : exsOk q l' = true) (e : exsT cm 0 l ++ 41 :: r = exsT cm 0 l' ++ 41 :: r') : l = l' ∧ r = r' := Qov l (fun x _ => (QpY x).inj) 0 l' r r' p q h1 h2 e
/-- behind a type -/
def EndT (r : Str) : Prop := ∀ c t, r = c :: t → c = 41 ∨ c = 44
theorem EndT.nm {r : Str} (h : EndT r) : ∀ c t, r = c :: t → (nameC c || c == 46 || c == 39) = false := fun c t e => by
 rcases h c t e with h | h <;> subst h <;> rfl
theorem EndT.ne40 {r t : Str} (h : EndT r) : r ≠ 40 :: t := fun e => by
 rcases h _ _ e with h | h <;> exact absurd h (by decide)
theorem EndT.of {c : UInt8} {t : Str} (h : c = 41 ∨ c = 44) : EndT (c :: t) := fun d s e => by
 injection e with e1 _
 subst e1; exact h
theorem EndT.nil : EndT [] := fun c t e => by cases e
/-- a type's name -/
def tyC (c : UInt8) : Bool := nameC c || c == 46 || c == 39
theorem Qlu {c : UInt8} (h : nameC c = true) : tyC c = true := by unfold tyC; rw [h]; rfl
theorem Qli {s : Str} (h : parS s = true) : ∃ t, s = 39 :: t ∧ namS t = true := by
 unfold parS at h
 cases s with
 | nil => cases h
 | cons c t =>
  simp only [Bool.and_eq_true, decide_eq_true_eq] at h
  exact ⟨t, by rw [h.1], h.2⟩
theorem QqC {s : Str} (h : longS s = true) : ∀ c ∈ s, tyC c = true := by
 obtain ⟨a, r, rfl, ha, hr⟩ := Qij h
 intro c hc
 rcases List.mem_append.1 hc with hc | hc
 ·exact Qlu ((Q9 ha).2.2.2.1 c hc)
 ·rcases hr with rfl | ⟨b, rfl, hb⟩
  ·cases hc
  ·rcases List.mem_cons.1 hc with rfl | hc
   ·rfl
   ·exact Qlu ((Q9 hb).2.2.2.1 c hc)
theorem Qlv {n : Str} {m : Nat} (h : tyN n m = true) (ht : n ≠ tupS) : n ≠ [] ∧ ∀ c ∈ n, tyC c = true := by
 unfold tyN at h
 split at h
 ·rename_i hn
  rcases hn with rfl | rfl | rfl | rfl <;> decide
 rw [Bool.or_eq_true, Bool.and_eq_true, Bool.and_eq_true] at h
 rcases h with h | h
 ·obtain ⟨t, rfl, hb⟩ := Qli h.1
  refine ⟨by simp, fun c hc => ?_⟩
  rcases List.mem_cons.1 hc with rfl | hc
  ·rfl
  ·exact Qlu ((Q9 hb).2.2.2.1 c hc)
 ·refine ⟨fun e => ?_, QqC h.1⟩
  obtain ⟨a, r, e2, ha, _⟩ := Qij h.1
  rw [e] at e2
  exact (Q9 ha).1 (List.append_eq_nil_iff.1 e2.symm).1
theorem QjH {x : TyV} (h : tyOk x = true) : ∃ c t, tyT x = c :: t ∧ c ≠ 41 ∧ (x.n ≠ tupS → tyC c = true) ∧ (x.n = tupS → c = 40) := by
 obtain ⟨n, a⟩ := x
 rw [tyOk, Bool.and_eq_true] at h
 rw [tyT]
 by_cases ht : n = tupS
 ·rw [if_pos ht]; exact ⟨40, _, rfl, by decide, fun h => absurd ht h, fun _ => rfl⟩
 ·rw [if_neg ht]
  obtain ⟨h1, h2⟩ := Qlv h.1 ht
  cases n with
  | nil => exact absurd rfl h1
  | cons c n =>
   have := h2 c (List.mem_cons_self ..)
   exact ⟨c, _, rfl, (fun e => by rw [e] at this; cases this), fun _ => this, fun e => absurd e ht⟩
theorem QqO {l : List TyV} {r : Str} {i : Nat} : EndT (tysT (i + 1) l ++ 41 :: r) := by
 cases l with
 | nil => exact EndT.of (.inl rfl)
 | cons x l => exact EndT.of (c := 44) (t := 32 :: (tyT x ++ tysT (i + 1 + 1) l) ++ 41 :: r) (.inr rfl)
def InjT (x : TyV) : Prop := ∀ (y : TyV) (u v : Str), tyOk x = true → tyOk y = true → EndT u → EndT v → tyT x ++ u = tyT y ++ v → x = y ∧ u = v
theorem Qsy : ∀ (l : List TyV), (∀ x ∈ l, InjT x) → ∀ (i : Nat) (l' : List TyV) (r r' : Str), tysOk l = true → tysOk l' = true → tysT i l ++ 41 :: r = tysT i l' ++ 41 :: r' → l = l' ∧ r = r'
 | [], _, i, [], r, r', _, _, e => ⟨rfl, by simpa [tysT] using e⟩
 | [], _, i, w :: l', r, r', _, h2, e => by
  exfalso
  simp only [tysOk, Bool.and_eq_true] at h2
  simp only [tysT, List.nil_append, List.append_assoc] at e
  cases i with
  | zero =>
   obtain ⟨c, t, hc, hne, _⟩ := QjH h2.1
   rw [cm0, List.nil_append, hc] at e
   injection e with e _; exact hne e.symm
  | succ i => simp [cm] at e
 | v :: l, _, i, [], r, r', h1, _, e => by
  exfalso
  simp only [tysOk, Bool.and_eq_true] at h1
  simp only [tysT, List.nil_append, List.append_assoc] at e
  cases i with
  | zero =>
   obtain ⟨c, t, hc, hne, _⟩ := QjH h1.1
   rw [cm0, List.nil_append, hc] at e
   injection e with e _; exact hne e
  | succ i => simp [cm] at e
 | v :: l, ih, i, w :: l', r, r', h1, h2, e => by
  simp only [tysOk, Bool.and_eq_true] at h1 h2
  simp only [tysT, List.append_assoc] at e
  have e := List.append_cancel_left e
  obtain ⟨q1, q2⟩ := ih v (List.mem_cons_self ..) w _ _ h1.1 h2.1 QqO QqO e
  obtain ⟨q3, q4⟩ := Qsy l (fun v hv => ih v (List.mem_cons_of_mem _ hv)) (i + 1) l' r r' h1.2 h2.2 q2
  exact ⟨by rw [q1, q3], q4⟩
theorem Qvj : ∀ x : TyV, InjT x := by
 refine TyV.rec_ fun x ih y u v hx hy hu hv e => ?_
 obtain ⟨n, a⟩ := x
 obtain ⟨m, b⟩ := y
 have hx' := hx; have hy' := hy
 rw [tyOk, Bool.and_eq_true] at hx hy
 have tails : (40 :: (tysT 0 a ++ [41])) ++ u = (40 :: (tysT 0 b ++ [41])) ++ v → a = b ∧ u = v := fun e => by
  simp only [List.cons_append, List.append_assoc, List.cons.injEq, true_and, List.nil_append] at e
  exact Qsy a ih 0 b u v hx.2 hy.2 e
 by_cases h1 : n = tupS <;> by_cases h2 : m = tupS
 ·rw [tyT, tyT, if_pos h1, if_pos h2] at e
  obtain ⟨q1, q2⟩ := tails e
  exact ⟨by rw [h1, h2, q1], q2⟩
 ·obtain ⟨c, t, e1, _, _, e2⟩ := QjH hx'
  obtain ⟨d, s, e3, _, e4, _⟩ := QjH hy'
  rw [e1, e3] at e
  injection e with e _
  have := e4 h2
  rw [← e, e2 h1] at this; cases this
 ·obtain ⟨c, t, e1, _, e2, _⟩ := QjH hx'
  obtain ⟨d, s, e3, _, _, e4⟩ := QjH hy'
  rw [e1, e3] at e
  injection e with e _
  have := e2 h1
  rw [e, e4 h2] at this; cases this
 ·rw [tyT, tyT, if_neg h1, if_neg h2, List.append_assoc, List.append_assoc] at e
  have hr : ∀ {a : List TyV} {u : Str}, EndT u → ∀ c t, (if a.length = 0 then [] else 40 :: (tysT 0 a ++ [41])) ++ u = c :: t → tyC c = false := fun {a u} hu c t e => by
   split at e
   ·exact hu.nm c t e
   ·injection e with e _; subst e; rfl
  obtain ⟨q1, q2⟩ := tokP (P := tyC) (Qlv hx.1 h1).2 (Qlv hy.1 h2).2 (hr hu) (hr hv) e
  subst q1
  by_cases c1 : a.length = 0 <;> by_cases c2 : b.length = 0
  ·rw [if_pos c1, if_pos c2] at q2
   rw [List.length_eq_zero_iff.1 c1, List.length_eq_zero_iff.1 c2]
   exact ⟨rfl, q2⟩
  ·rw [if_pos c1, if_neg c2, List.nil_append] at q2
   exact absurd q2 hu.ne40
  ·rw [if_neg c1, if_pos c2, List.nil_append] at q2
   exact absurd q2.symm hv.ne40
  ·rw [if_neg c1, if_neg c2] at q2
   obtain ⟨q3, q4⟩ := tails q2
   exact ⟨by rw [q3], q4⟩
theorem Qsw {x y : TyV} {u v : Str} (hx : tyOk x = true) (hy : tyOk y = true) (hu : EndT u) (hv : EndT v) (e : tyT x ++ u = tyT y ++ v) : x = y ∧ u = v := Qvj x y u v hx hy hu hv e
end
section
open Go
theorem Qqx {α : Type} {f : α → Str} {sep : Str} {ok : α → Prop} {End Term : Str → Prop}
 (hinj : ∀ x y u v, ok x → ok y → End u → End v → f x ++ u = f y ++ v → x = y ∧ u = v)
 (hE : ∀ r, Term r → End r) (hE2 : ∀ s, End (sep ++ s)) (hS : ∀ r s, Term r → r ≠ sep ++ s) (hN : ∀ x w r, ok x → End w → Term r → f x ++ w ≠ r) :
 ∀ (l : List α) (i : Nat) (l' : List α) (r r' : Str), (∀ x ∈ l, ok x) → (∀ x ∈ l', ok x) → Term r → Term r' → jo sep f i l ++ r = jo sep f i l' ++ r' → l = l' ∧ r = r' := by
 have hend : ∀ (l : List α) (i : Nat) (r : Str), Term r → End (jo sep f (i + 1) l ++ r) := fun l i r hr => by
  cases l with
  | nil => exact hE r hr
  | cons x l => simp only [jo, Nat.add_eq_zero_iff, Nat.succ_ne_self, and_false, if_false, List.append_assoc]; exact hE2 _
 have one : ∀ (x : α) (l : List α) (i : Nat) (r r' : Str), ok x → Term r → Term r' → jo sep f i (x :: l) ++ r ≠ r' := fun x l i r r' hx hr hr' e => by
  simp only [jo, List.append_assoc] at e
  split at e
  ·exact hN x _ r' hx (hend l i r hr) hr' e
  ·exact hS r' _ hr' e.symm
 intro l
 induction l with
 | nil =>
  intro i l' r r' _ h2 hr hr' e
  cases l' with
  | nil => exact ⟨rfl, by simpa [jo] using e⟩
  | cons y l' => exact absurd e.symm (one y l' i r' r (h2 y (List.mem_cons_self ..)) hr' hr)
 | cons x l ih =>
  intro i l' r r' h1 h2 hr hr' e
  cases l' with
  | nil => exact absurd e (one x l i r r' (h1 x (List.mem_cons_self ..)) hr hr')
  | cons y l' =>
   simp only [jo, List.append_assoc] at e
   have e := List.append_cancel_left e
   obtain ⟨q1, q2⟩ := hinj x y _ _ (h1 x (List.mem_cons_self ..)) (h2 y (List.mem_cons_self ..)) (hend l i r hr) (hend l' i r' hr') e
   obtain ⟨q3, q4⟩ := ih (i + 1) l' r r' (fun x hx => h1 x (List.mem_cons_of_mem _ hx)) (fun x hx => h2 x (List.mem_cons_of_mem _ hx)) hr hr' q2
   exact ⟨by rw [q1, q3], q4⟩
/-- what follows is one byte, at the least -/
def Tm (c : UInt8) (r : Str) : Prop := ∃ t, r = c :: t
theorem Tm.mk (c : UInt8) (t : Str) : Tm c (c :: t) := ⟨t, rfl⟩
theorem Quy {t : TyV} (h : tyOk t = true) (ht : t.n ≠ tupS) : ∃ w, tyT t = t.n ++ w ∧ ∀ v, EndT v → ∀ c s, w ++ v = c :: s → c = 40 ∨ c = 41 ∨ c = 44 := by
 obtain ⟨n, a⟩ := t
 have ht : n ≠ tupS := ht
 refine ⟨if a.length = 0 then [] else 40 :: (tysT 0 a ++ [41]), by rw [tyT, if_neg ht]; rfl, fun v hv c s e => ?_⟩
 split at e
 ·exact .inr (hv c s e)
 ·injection e with e _; exact .inl e.symm
theorem tyw {t : TyV} (h : tyOk t = true) (ht : t.n ≠ tupS) : ∀ c ∈ t.n, tyC c = true := by
 obtain ⟨n, a⟩ := t
 rw [tyOk, Bool.and_eq_true] at h
 exact (Qlv h.1 ht).2
theorem QuM {n : Str} {s : Str} {t : TyV} {v : Str} (hn : namS n = true) (ht : tyOk t = true) (hv : EndT v) : n ++ 58 :: s ≠ tyT t ++ v := fun e => by
 by_cases h : t.n = tupS
 ·obtain ⟨c, r, e1, _, _, e2⟩ := QjH ht
  obtain ⟨d, m, rfl, hd⟩ := Qfw hn
  rw [e1, e2 h] at e
  injection e with e _
  subst e; exact absurd hd (by decide)
 ·obtain ⟨w, e1, e2⟩ := Quy ht h
  rw [e1, List.append_assoc] at e
  obtain ⟨_, q⟩ := tokP (P := tyC) (fun c hc => Qlu ((Q9 hn).2.2.2.1 c hc)) (tyw ht h) (fun c t e => by injection e with e _; subst e; rfl) (fun c s e => by
   rcases e2 v hv c s e with h | h | h <;> subst h <;> rfl) e
  rcases e2 v hv 58 s q.symm with h | h | h <;> exact absurd h (by decide)
theorem Qox {nm : Bool} {f : FdV} (h : fdOk nm f = true) : (namS f.n = true ∨ f.n = []) ∧ tyOk f.t = true := by
 unfold fdOk at h
 rw [Bool.and_eq_true, Bool.or_eq_true, Bool.and_eq_true, List.isEmpty_iff] at h
 exact ⟨h.1.imp id fun h => h.2, h.2⟩
theorem QuL {nm : Bool} {x y : FdV} {u v : Str} (hx : fdOk nm x = true) (hy : fdOk nm y = true) (hu : EndT u) (hv : EndT v) (e : fdT x ++ u = fdT y ++ v) : x = y ∧ u = v := by
 obtain ⟨n, t⟩ := x
 obtain ⟨m, s⟩ := y
 obtain ⟨h1, h2⟩ := Qox hx
 obtain ⟨g1, g2⟩ := Qox hy
 dsimp only at h1 h2 g1 g2
 unfold fdT at e
 dsimp only at e
 by_cases c1 : n = [] <;> by_cases c2 : m = []
 ·rw [if_pos c1, if_pos c2] at e
  obtain ⟨q1, q2⟩ := Qsw h2 g2 hu hv e
  exact ⟨by rw [c1, c2, q1], q2⟩
 ·rw [if_pos c1, if_neg c2] at e
  simp only [List.nil_append, List.append_assoc, List.cons_append] at e
  exact absurd e.symm (QuM (g1.resolve_right c2) h2 hu)
 ·rw [if_neg c1, if_pos c2] at e
  simp only [List.nil_append, List.append_assoc, List.cons_append] at e
  exact absurd e (QuM (h1.resolve_right c1) g2 hv)
 ·rw [if_neg c1, if_neg c2] at e
  simp only [List.nil_append, List.append_assoc, List.cons_append] at e
  obtain ⟨q1, q2⟩ := tokP (Q9 (h1.resolve_right c1)).2.2.2.1 (Q9 (g1.resolve_right c2)).2.2.2.1 (fun c t e => by injection e with e _; subst e; rfl) (fun c t e => by injection e with e _; subst e; rfl) e
  injection q2 with _ q2
  injection q2 with _ q2
  obtain ⟨q3, q4⟩ := Qsw h2 g2 hu hv q2
  exact ⟨by rw [q1, q3], q4⟩
theorem Qt7 {nm : Bool} {x : FdV} (h : fdOk nm x = true) : ∃ c t, fdT x = c :: t ∧ c ≠ 41 := by
 obtain ⟨h1, h2⟩ := Qox h
 unfold fdT
 by_cases c1 : x.n = []
 ·rw [if_pos c1]
  obtain ⟨c, t, e, hc, _⟩ := QjH h2
  exact ⟨c, t, e, hc⟩
 ·rw [if_neg c1]
  obtain ⟨c, t, e, hc⟩ := Qfw (h1.resolve_right c1)
  rw [e]
  exact ⟨c, _, rfl, (Qk8 hc).2.2.2⟩
theorem QrR {nm : Bool} {l l' : List FdV} {r r' : Str} (h1 : fdsOk nm l = true) (h2 : fdsOk nm l' = true) (e : fdsT l ++ 41 :: r = fdsT l' ++ 41 :: r') : l = l' ∧ r = r' := by
 unfold fdsOk at h1 h2
 rw [Bool.and_eq_true, List.all_eq_true] at h1 h2
 have := Qqx (f := fdT) (sep := [44, 32]) (ok := fun x => fdOk nm x = true) (End := EndT) (Term := Tm 41) (fun x y u v hx hy hu hv e => QuL hx hy hu hv e) (fun r ⟨t, e⟩ => by rw [e]; exact EndT.of (.inl rfl)) (fun s => EndT.of (.inr rfl))
  (fun r s ⟨t, e⟩ e' => by rw [e] at e'; injection e' with e' _; exact absurd e' (by decide)) (fun x w r hx _ ⟨t, e⟩ e' => by
   obtain ⟨c, s, e2, hc⟩ := Qt7 hx
   rw [e, e2] at e'; injection e' with e' _; exact hc e') l 0 l' (41 :: r) (41 :: r') h1.2 h2.2 (Tm.mk ..) (Tm.mk ..) e
 obtain ⟨q1, q2⟩ := this
 injection q2 with _ q2
 exact ⟨q1, q2⟩
def EndC (r : Str) : Prop := ∀ c t, r = c :: t → c = 32 ∨ c = 10
theorem EndC.of {c : UInt8} {t : Str} (h : c = 32 ∨ c = 10) : EndC (c :: t) := fun d s e => by
 injection e with e1 _
 subst e1; exact h
theorem Qmk {c : CnV} (h : cnOk c = true) : namS c.n = true ∧ fdsOk false c.f = true := by
 unfold cnOk at h
 rwa [Bool.and_eq_true] at h
theorem QuJ {x y : CnV} {u v : Str} (hx : cnOk x = true) (hy : cnOk y = true) (hu : EndC u) (hv : EndC v) (e : cnT x ++ u = cnT y ++ v) : x = y ∧ u = v := by
 obtain ⟨n, a⟩ := x
 obtain ⟨m, b⟩ := y
 obtain ⟨h1, h2⟩ := Qmk hx
 obtain ⟨g1, g2⟩ := Qmk hy
 unfold cnT at e
 dsimp only at h1 h2 g1 g2 e
 rw [List.append_assoc, List.append_assoc] at e
 have hr : ∀ {a : List FdV} {u : Str}, EndC u → ∀ c t, (if a.length = 0 then [] else 40 :: (fdsT a ++ [41])) ++ u = c :: t → nameC c = false := fun {a u} hu c t e => by
  split at e
  ·rcases hu c t e with h | h <;> subst h <;> rfl
  ·injection e with e _; subst e; rfl
 have n40 : ∀ {u t : Str}, EndC u → u ≠ 40 :: t := fun {u t} hu e => by rcases hu _ _ e with h | h <;> exact absurd h (by decide)
 obtain ⟨q1, q2⟩ := tokP (Q9 h1).2.2.2.1 (Q9 g1).2.2.2.1 (hr hu) (hr hv) e
 subst q1
 by_cases c1 : a.length = 0 <;> by_cases c2 : b.length = 0
 ·rw [if_pos c1, if_pos c2] at q2
  rw [List.length_eq_zero_iff.1 c1, List.length_eq_zero_iff.1 c2]
  exact ⟨rfl, q2⟩
 ·rw [if_pos c1, if_neg c2, List.nil_append] at q2
  exact absurd q2 (n40 hu)
 ·rw [if_neg c1, if_pos c2, List.nil_append] at q2
  exact absurd q2.symm (n40 hv)
 ·rw [if_neg c1, if_neg c2] at q2
  simp only [List.cons_append, List.append_assoc, List.cons.injEq, true_and, List.nil_append] at q2
  obtain ⟨q3, q4⟩ := QrR h2 g2 q2
  exact ⟨by rw [q3], q4⟩
theorem Qt2 {l l' : List CnV} {r r' : Str} (h1 : l.all cnOk = true) (h2 : l'.all cnOk = true) (e : jo [32, 124, 32] cnT 0 l ++ 10 :: r = jo [32, 124, 32] cnT 0 l' ++ 10 :: r') : l = l' ∧ r = r' := by
 rw [List.all_eq_true] at h1 h2
 have := Qqx (f := cnT) (sep := [32, 124, 32]) (ok := fun x => cnOk x = true) (End := EndC) (Term := Tm 10) (fun x y u v hx hy hu hv e => QuJ hx hy hu hv e) (fun r ⟨t, e⟩ => by rw [e]; exact EndC.of (.inr rfl)) (fun s => EndC.of (.inl rfl))
  (fun r s ⟨t, e⟩ e' => by rw [e] at e'; injection e' with e' _; exact absurd e' (by decide)) (fun x w r hx _ ⟨t, e⟩ e' => by
   obtain ⟨c, s, e2, hc⟩ := Qfw (Qmk hx).1
   unfold cnT at e'
   rw [e, e2] at e'; injection e' with e' _; subst e'; exact absurd hc (by decide)) l 0 l' (10 :: r) (10 :: r') h1 h2 (Tm.mk ..) (Tm.mk ..) e
 obtain ⟨q1, q2⟩ := this
 injection q2 with _ q2
 exact ⟨q1, q2⟩
theorem Qs5 {l l' : List Str} {r r' : Str} (h1 : l.all parS = true) (h2 : l'.all parS = true) (e : jo [44, 32] id 0 l ++ 41 :: r = jo [44, 32] id 0 l' ++ 41 :: r') : l = l' ∧ r = r' := by
 rw [List.all_eq_true] at h1 h2
 have pc : ∀ {s : Str}, parS s = true → ∀ c ∈ s, tyC c = true := fun {s} h c hc => by
  obtain ⟨t, rfl, ht⟩ := Qli h
  rcases List.mem_cons.1 hc with rfl | hc
  ·rfl
  ·exact Qlu ((Q9 ht).2.2.2.1 c hc)
 have := Qqx (f := (id : Str → Str)) (sep := [44, 32]) (ok := fun x => parS x = true) (End := EndT) (Term := Tm 41) (fun x y u v hx hy hu hv e => tokP (P := tyC) (pc hx) (pc hy) hu.nm hv.nm e) (fun r ⟨t, e⟩ => by rw [e]; exact EndT.of (.inl rfl)) (fun s => EndT.of (.inr rfl))
  (fun r s ⟨t, e⟩ e' => by rw [e] at e'; injection e' with e' _; exact absurd e' (by decide)) (fun x w r hx _ ⟨t, e⟩ e' => by
   obtain ⟨s, e2, _⟩ := Qli hx
   rw [e, e2] at e'; injection e' with e' _; exact absurd e' (by decide)) l 0 l' (41 :: r) (41 :: r') h1 h2 (Tm.mk ..) (Tm.mk ..) e
 obtain ⟨q1, q2⟩ := this
 injection q2 with _ q2
 exact ⟨q1, q2⟩
def EndB (r : Str) : Prop := ∀ c t, r = c :: t → c = 44 ∨ (c = 46 ∧ ∀ d t', t = d :: t' → lowC d = false)
theorem EndB.e {r : Str} (h : EndB r) : EndE r := fun c t e => (h c t e).elim (fun h => .inr (.inl h)) fun h => .inr (.inr (.inr h))
inductive LiC : LiV → Prop
 | atom (r : Str) (a : List ExV) : longS r = true → exsOk true a = true → LiC ⟨1, r, a⟩
 | nott (r : Str) (a : List ExV) : longS r = true → exsOk true a = true → LiC ⟨2, r, a⟩
 | cond (x : ExV) : exOk false x = true → LiC ⟨3, [], [x]⟩
 | bind (r : Str) (x : ExV) : varS r = true → exOk false x = true → LiC ⟨4, r, [x]⟩
theorem LiC.of {x : LiV} (h : liOk x = true) : LiC x := by
 obtain ⟨k, r, a⟩ := x
 unfold liOk at h
 dsimp only at h
 split at h
 ·rename_i hk
  simp only [Bool.and_eq_true, decide_eq_true_eq] at h
  rcases hk with rfl | rfl
  ·exact .atom r a h.1.1 h.2
  ·exact .nott r a h.1.1 h.2
 split at h
 ·rename_i hk; subst hk
  simp only [Bool.and_eq_true, decide_eq_true_eq, List.isEmpty_iff] at h
  obtain ⟨⟨rfl, h1⟩, h2⟩ := h
  obtain ⟨x, rfl⟩ := len1 h1
  simp only [exsOk, Bool.and_eq_true] at h2
  exact .cond x h2.1
 split at h
 ·rename_i hk; subst hk
  simp only [Bool.and_eq_true, decide_eq_true_eq] at h
  obtain ⟨⟨h0, h1⟩, h2⟩ := h
  obtain ⟨x, rfl⟩ := len1 h1
  simp only [exsOk, Bool.and_eq_true] at h2
  exact .bind r x h0 h2.1
 ·cases h
section
variable {r : Str} {a : List ExV} {x : ExV}
theorem Qmm : liT ⟨1, r, a⟩ = r ++ 40 :: (exsT cm 0 a ++ [41]) := by simp [liT]
theorem QoB : liT ⟨2, r, a⟩ = notS ++ 32 :: (r ++ 40 :: (exsT cm 0 a ++ [41])) := by simp [liT, notS]
theorem Qii : liT ⟨3, r, [x]⟩ = if x.k = 5 then 40 :: (exT x ++ [41]) else exT x := by
 have : exsT cm 0 [x] = exT x := exsT1 rfl
 simp [liT, isMk, this]
theorem Qmn : liT ⟨4, r, [x]⟩ = r ++ 32 :: 61 :: 32 :: exT x := by
 have : exsT cm 0 [x] = exT x := exsT1 rfl
 simp [liT, this]
end
theorem QsL {x : ExV} {u : Str} (h : exOk false x = true) (hk : x.k ≠ 5) (hu : EndE u) : sig (exT x ++ u) ≠ 5 := by
 obtain ⟨r, ns, R⟩ := Qnf x h
 have e1 := R.t []
 rw [Qeu, List.append_nil] at e1
 rw [e1]
 rcases PF.of (ns := ns) (u := u) R.ok R.k with ⟨g1, rfl⟩ | ⟨m, g1, g2⟩ | ⟨g1, _⟩ | ⟨d, g1, g2⟩
 ·have e2 : x = r := R.c []
  rw [Qeu, g1.sig hu.d, ← e2, if_neg hk]
  split <;> decide
 ·unfold chT
  rw [g2, if_neg (by simp [Sx.brkE, ExV.k]), Qjf, List.append_assoc, QkR g1]; decide
 ·cases g1
 ·rw [g1, Qf0]; decide
theorem QqB {n u : Str} (h : longS n = true) : sig (n ++ 40 :: u) = 5 ∧ tk (n ++ 40 :: u) ∉ resW := by
 obtain ⟨q1, a, q2, q3⟩ := Qp5 (u := 40 :: u) h fun c t e => by injection e with e _; subst e; rfl
 exact ⟨q1, by rw [q2]; exact q3⟩
/-- literals of different kinds have different texts -/
theorem QuY {x y : LiV} {u v : Str} (hx : LiC x) (hy : LiC y) (hu : EndB u) (hv : EndB v) (hk : x.k < y.k) : liT x ++ u ≠ liT y ++ v := by
 have tnot : ∀ {w : Str}, tk (notS ++ 32 :: w) = notS := fun {w} => QiM (by decide) fun c t e => by injection e with e _; subst e; rfl
 have hc : ∀ {x : ExV} {u : Str}, exOk false x = true → EndB u → tk (liT ⟨3, [], [x]⟩ ++ u) ∉ badW ∧ sig (liT ⟨3, [], [x]⟩ ++ u) ≠ 5 := fun {x u} h hu => by
  rw [Qii]
  split
  ·exact ⟨Qnk (by decide), by rw [List.cons_append, Qf0]; decide⟩
  ·rename_i hk; exact ⟨(QmQ x h u hu.e.d).2, QsL h hk hu.e⟩
 have eN : ∀ {m : Str} {b : List ExV} {v : Str}, liT ⟨2, m, b⟩ ++ v = notS ++ 32 :: (m ++ 40 :: (exsT cm 0 b ++ [41]) ++ v) := fun {m b v} => by rw [QoB]; simp
 have eB : ∀ {m : Str} {x : ExV} {v : Str}, liT ⟨4, m, [x]⟩ ++ v = m ++ (32 :: 61 :: 32 :: exT x ++ v) := fun {m x v} => by rw [Qmn]; simp
 intro e
 cases hx with
 | atom r a h1 h2 =>
  rw [Qmm] at e
  have e0 : r ++ 40 :: (exsT cm 0 a ++ [41]) ++ u = r ++ 40 :: (exsT cm 0 a ++ [41] ++ u) := by simp
  rw [e0] at e
  obtain ⟨s1, s2⟩ := QqB (u := exsT cm 0 a ++ [41] ++ u) h1
  cases hy with
  | atom => simp at hk
  | nott m b g1 g2 =>
   rw [eN] at e
   rw [e, tnot] at s2
   exact s2 (by decide)
  | cond x g1 => rw [e] at s1; exact (hc g1 hv).2 s1
  | bind m x g1 g2 =>
   rw [eB] at e
   rw [e, QkR g1] at s1; cases s1
 | nott r a h1 h2 =>
  rw [eN] at e
  have s := tnot (w := r ++ 40 :: (exsT cm 0 a ++ [41]) ++ u)
  rw [e] at s
  cases hy with
  | atom => simp at hk
  | nott => simp at hk
  | cond x g1 => exact (hc g1 hv).1 (by rw [s]; decide)
  | bind m x g1 g2 =>
   rw [eB] at s
   obtain ⟨c, t, rfl, hcc⟩ := Qmt g1
   exact Qnk (QtL hcc) (by rw [List.cons_append] at s; rw [s]; decide)
 | cond x h1 =>
  cases hy with
  | atom => simp at hk
  | nott => simp at hk
  | cond => simp at hk
  | bind m y g1 g2 =>
   rw [eB] at e
   have s : sig (m ++ (32 :: 61 :: 32 :: exT y ++ v)) = 2 := QkR g1
   rw [← e, Qii] at s
   split at s
   ·rw [List.cons_append, Qf0] at s; cases s
   ·rename_i hk5
    rw [Qii, if_neg hk5] at e
    obtain ⟨r, ns, R⟩ := Qnf x h1
    have e1 := R.t []
    rw [Qeu, List.append_nil] at e1
    rw [e1] at s e
    rcases PF.of (ns := ns) (u := u) R.ok R.k with ⟨q1, rfl⟩ | ⟨n, q1, q2⟩ | ⟨q1, _⟩ | ⟨d, q1, _⟩
    ·rw [Qeu, q1.sig hu.e.d] at s
     split at s
     ·cases s
     ·split at s <;> cases s
    ·unfold chT at e
     rw [q2, if_neg (by simp [Sx.brkE, ExV.k]), Qjf, List.append_assoc] at e
     obtain ⟨_, q3⟩ := tokP (QfQ q1).2.2.2 (QfQ g1).2.2.2 (Qk2 hu.e).nm (fun c t e => by injection e with e _; subst e; rfl) e
     cases ns with
     | nil =>
      rcases hu 32 _ q3 with h | ⟨h, _⟩ <;> exact absurd h (by decide)
     | cons a ns => injection q3 with q3 _; exact absurd q3 (by decide)
    ·cases q1
    ·rw [q1, Qf0] at s; cases s
 | bind r x h1 h2 =>
  cases hy with
  | atom => simp at hk
  | nott => simp at hk
  | cond => simp at hk
  | bind => simp at hk
/-- a constructor in brackets is no other expression -/
theorem Qu1 {x y : ExV} {u v : Str} (hx : exOk false x = true) (hy : exOk false y = true) (hk : x.k = 5) (hk2 : y.k ≠ 5) (hu : EndB u) (hv : EndB v) : 40 :: (exT x ++ [41]) ++ u ≠ exT y ++ v := fun e => by
 have np : NP false x := by
  cases ExC.of hx with
  | mak n a h1 h2 => exact .mak n a h1 h2
  | _ => exact absurd hk (by simp [ExV.k])
 obtain ⟨r, ns, R⟩ := Qnf y hy
 have e1 := R.t []
 rw [Qeu, List.append_nil] at e1
 rw [e1] at e
 have s : sig (40 :: (exT x ++ [41]) ++ u) = 4 := Qf0
 rw [e] at s
 rcases PF.of (ns := ns) (u := v) R.ok R.k with ⟨q1, rfl⟩ | ⟨n, q1, q2⟩ | ⟨q1, _⟩ | ⟨d, q1, q2⟩
 ·rw [Qeu, q1.sig hv.e.d] at s
  split at s
  ·cases s
  ·split at s <;> cases s
 ·unfold chT at s
  rw [q2, if_neg (by simp [Sx.brkE, ExV.k]), Qjf, List.append_assoc, QkR q1] at s; cases s
 ·cases q1
 ·rw [q1] at e
  injection e with _ e
  have pf : PF false x [] u (exT x ++ 41 :: (dots [] ++ u)) := .brk x [] u np
  have ee : exT x ++ 41 :: (dots [] ++ u) = d := by rw [← e]; simp [dots]
  rw [ee] at pf
  obtain ⟨q3, q4, _⟩ := pf.inj q2 hx R.ok (fun w _ => (QpY w).inj) (fun n hn => by cases hn) R.nm hu.e hv.e
  have e2 : y = ch r ns := by have := R.c []; rw [List.append_nil] at this; exact this
  rw [← q4, ← q3] at e2
  exact hk2 (by rw [e2]; exact hk)
theorem QuX {x y : LiV} {u v : Str} (hx : liOk x = true) (hy : liOk y = true) (hu : EndB u) (hv : EndB v) (e : liT x ++ u = liT y ++ v) : x = y ∧ u = v := by
 have hx := LiC.of hx
 have hy := LiC.of hy
 have hkk : x.k = y.k := by
  rcases Int.lt_trichotomy x.k y.k with h | h | h
  ·exact absurd e (QuY hx hy hu hv h)
  ·exact h
  ·exact absurd e.symm (QuY hy hx hv hu h)
 cases hx with
 | atom r a h1 h2 =>
  cases hy with
  | atom m b g1 g2 =>
   have e0 : ∀ {r : Str} {a : List ExV} {u : Str}, liT ⟨1, r, a⟩ ++ u = r ++ 40 :: (exsT cm 0 a ++ 41 :: u) := fun {r a u} => by rw [Qmm]; simp
   rw [e0, e0] at e
   obtain ⟨q1, q2⟩ := Qmo h1 g1 (EndL.p _) (EndL.p _) e
   injection q2 with _ q2
   obtain ⟨q3, q4⟩ := Qqs h2 g2 q2
   exact ⟨by rw [q1, q3], q4⟩
  | nott => simp at hkk
  | cond => simp at hkk
  | bind => simp at hkk
 | nott r a h1 h2 =>
  cases hy with
  | atom => simp at hkk
  | nott m b g1 g2 =>
   have e0 : ∀ {r : Str} {a : List ExV} {u : Str}, liT ⟨2, r, a⟩ ++ u = notS ++ 32 :: (r ++ 40 :: (exsT cm 0 a ++ 41 :: u)) := fun {r a u} => by rw [QoB]; simp
   rw [e0, e0] at e
   have e := List.append_cancel_left e
   injection e with _ e
   obtain ⟨q1, q2⟩ := Qmo h1 g1 (EndL.p _) (EndL.p _) e
   injection q2 with _ q2
   obtain ⟨q3, q4⟩ := Qqs h2 g2 q2
   exact ⟨by rw [q1, q3], q4⟩
  | cond => simp at hkk
  | bind => simp at hkk
 | cond x h1 =>
  cases hy with
  | atom => simp at hkk
  | nott => simp at hkk
  | cond y g1 =>
   rw [Qii, Qii] at e
   by_cases c1 : x.k = 5 <;> by_cases c2 : y.k = 5
   ·rw [if_pos c1, if_pos c2] at e
    simp only [List.cons_append, List.append_assoc, List.cons.injEq, true_and, List.nil_append] at e
    obtain ⟨q1, q2⟩ := QlG h1 g1 (EndE.of (.inl rfl)) (EndE.of (.inl rfl)) e
    injection q2 with _ q2
    exact ⟨by rw [q1], q2⟩
   ·rw [if_pos c1, if_neg c2] at e
    exact absurd e (Qu1 h1 g1 c1 c2 hu hv)
   ·rw [if_neg c1, if_pos c2] at e
    exact absurd e.symm (Qu1 g1 h1 c2 c1 hv hu)
   ·rw [if_neg c1, if_neg c2] at e
    obtain ⟨q1, q2⟩ := QlG h1 g1 hu.e hv.e e
    exact ⟨by rw [q1], q2⟩
  | bind => simp at hkk
 | bind r x h1 h2 =>
  cases hy with
  | atom => simp at hkk
  | nott => simp at hkk
  | cond => simp at hkk
  | bind m y g1 g2 =>
   have e0 : ∀ {m : Str} {x : ExV} {v : Str}, liT ⟨4, m, [x]⟩ ++ v = m ++ 32 :: 61 :: 32 :: (exT x ++ v) := fun {m x v} => by rw [Qmn]; simp
   rw [e0, e0] at e
   obtain ⟨q1, q2⟩ := tokP (QfQ h1).2.2.2 (QfQ g1).2.2.2 (fun c t e => by injection e with e _; subst e; rfl) (fun c t e => by injection e with e _; subst e; rfl) e
   simp only [List.cons_append, List.cons.injEq, true_and] at q2
   obtain ⟨q3, q4⟩ := QlG h2 g2 hu.e hv.e q2
   exact ⟨by rw [q1, q3], q4⟩
theorem Quc {x : LiV} {w : Str} (h : liOk x = true) (hw : EndB w) : ∃ c t, liT x ++ w = c :: t ∧ c ≠ 46 := by
 cases LiC.of h with
 | atom r a h1 h2 =>
  obtain ⟨a1, r1, rfl, ha, _⟩ := Qij h1
  obtain ⟨c, t, rfl, hc⟩ := Qfw ha
  rw [Qmm]
  exact ⟨c, _, rfl, by rintro rfl; revert hc; decide⟩
 | nott r a h1 h2 => rw [QoB]; exact ⟨110, _, rfl, by decide⟩
 | cond x h1 =>
  rw [Qii]
  split
  ·exact ⟨40, _, rfl, by decide⟩
  ·obtain ⟨⟨c, t, e, _, hc⟩, _⟩ := QmQ x h1 w hw.e.d
   exact ⟨c, t, e, hc⟩
 | bind r x h1 h2 =>
  obtain ⟨c, t, rfl, hc⟩ := Qmt h1
  rw [Qmn]
  exact ⟨c, _, rfl, by rintro rfl; revert hc; decide⟩
theorem Qts {l l' : List LiV} {r r' : Str} (h1 : l.all liOk = true) (h2 : l'.all liOk = true) (e : boT l ++ 46 :: 10 :: r = boT l' ++ 46 :: 10 :: r') : l = l' ∧ r = r' := by
 rw [List.all_eq_true] at h1 h2
 have := Qqx (f := liT) (sep := [44, 32]) (ok := fun x => liOk x = true) (End := EndB) (Term := fun r => ∃ t, r = 46 :: 10 :: t) (fun x y u v hx hy hu hv e => QuX hx hy hu hv e)
  (fun r ⟨t, e⟩ => by rw [e]; exact fun c s e => by injection e with e1 e2; exact .inr ⟨e1.symm, fun d t' e3 => by rw [← e2] at e3; injection e3 with e3 _; subst e3; rfl⟩)
  (fun s => fun c t e => by injection e with e _; exact .inl e.symm)
  (fun r s ⟨t, e⟩ e' => by rw [e] at e'; injection e' with e' _; exact absurd e' (by decide)) (fun x w r hx hw ⟨t, e⟩ e' => by
   obtain ⟨c, s, e2, hc⟩ := Quc hx hw
   rw [e, e2] at e'; injection e' with e' _; exact hc e') l 0 l' (46 :: 10 :: r) (46 :: 10 :: r') h1 h2 ⟨r, rfl⟩ ⟨r', rfl⟩ e
 obtain ⟨q1, q2⟩ := this
 injection q2 with _ q2
 injection q2 with _ q2
 exact ⟨q1, q2⟩
theorem Qqf {g : Str} (h : agOk g = true) : g = [] ∨ (g ∈ badW ∧ (∀ c ∈ g, nameC c = true) ∧ ∃ c t, g = c :: t ∧ c ≠ 41) := by
 unfold agOk at h
 rw [decide_eq_true_iff] at h
 rcases h with h | rfl | rfl | rfl | rfl
 ·exact .inl h
 ·exact .inr ⟨by decide, by decide, 99, _, rfl, by decide⟩
 ·exact .inr ⟨by decide, by decide, 115, _, rfl, by decide⟩
 ·exact .inr ⟨by decide, by decide, 109, _, rfl, by decide⟩
 ·exact .inr ⟨by decide, by decide, 109, _, rfl, by decide⟩
theorem QuF {g u v : Str} {x y : ExV} (hg : g ∈ badW) (hn : ∀ c ∈ g, nameC c = true) (hy : exOk false y = true) (hv : EndE v) : g ++ 40 :: u ≠ exT y ++ v := fun e => by
 have := QiM (a := g) (x := 40 :: u) hn fun c t e => by injection e with e _; subst e; rfl
 rw [e] at this
 exact (QmQ y hy v hv.d).2 (by rw [this]; exact hg)
theorem QuD {g h u v : Str} {x y : ExV} (hg : agOk g = true) (hh : agOk h = true) (hx : exOk false x = true) (hy : exOk false y = true) (hu : EndE u) (hv : EndE v) (e : agT g x ++ u = agT h y ++ v) : g = h ∧ x = y ∧ u = v := by
 unfold agT at e
 rcases Qqf hg with h1 | ⟨h1, h2, c1, t1, h3, h4⟩ <;> rcases Qqf hh with g1 | ⟨g1, g2, c2, t2, g3, g4⟩
 ·rw [if_pos h1, if_pos g1] at e
  obtain ⟨q1, q2⟩ := QlG hx hy hu hv e
  exact ⟨by rw [h1, g1], q1, q2⟩
 ·rw [if_pos h1, if_neg (by rw [g3]; simp), List.append_assoc, List.cons_append] at e
  exact absurd e.symm (QuF (x := x) g1 g2 hx hu)
 ·rw [if_neg (by rw [h3]; simp), if_pos g1, List.append_assoc, List.cons_append] at e
  exact absurd e (QuF (x := x) h1 h2 hy hv)
 ·rw [if_neg (by rw [h3]; simp), if_neg (by rw [g3]; simp), List.append_assoc, List.append_assoc] at e
  obtain ⟨q1, q2⟩ := tokP h2 g2 (fun c t e => by injection e with e _; subst e; rfl) (fun c t e => by injection e with e _; subst e; rfl) e
  simp only [List.cons_append, List.append_assoc, List.cons.injEq, true_and, List.nil_append] at q2
  obtain ⟨q3, q4⟩ := QlG hx hy (EndE.of (.inl rfl)) (EndE.of (.inl rfl)) q2
  injection q4 with _ q4
  exact ⟨q1, q3, q4⟩
theorem Qol {gs : List Str} {xs : List ExV} {r : Str} {i : Nat} : EndE (agsT (i + 1) gs xs ++ 41 :: r) := by
 cases gs with
 | nil => exact EndE.of (.inl rfl)
 | cons g gs =>
  cases xs with
  | nil => exact EndE.of (.inl rfl)
  | cons x xs => exact EndE.of (c := 44) (t := 32 :: (agT g x ++ agsT (i + 1 + 1) gs xs) ++ 41 :: r) (.inr (.inl rfl))
theorem Qrp {g w : Str} {x : ExV} (hg : agOk g = true) (hx : exOk false x = true) (hw : EndE w) : ∃ c t, agT g x ++ w = c :: t ∧ c ≠ 41 := by
 unfold agT
 rcases Qqf hg with h1 | ⟨h1, h2, c1, t1, h3, h4⟩
 ·rw [if_pos h1]
  obtain ⟨⟨c, t, e, hc, _⟩, _⟩ := QmQ x hx w hw.d
  exact ⟨c, t, e, hc⟩
 ·rw [if_neg (by rw [h3]; simp), h3]
  exact ⟨c1, _, rfl, h4⟩
theorem Qrq : ∀ (gs : List Str) (xs : List ExV) (i : Nat) (hs : List Str) (ys : List ExV) (r r' : Str), gs.length = xs.length → hs.length = ys.length → gs.all agOk = true → hs.all agOk = true → exsOk false xs = true → exsOk false ys = true → agsT i gs xs ++ 41 :: r = agsT i hs ys ++ 41 :: r' → gs = hs ∧ xs = ys ∧ r = r'
 | [], [], i, [], [], r, r', _, _, _, _, _, _, e => ⟨rfl, rfl, by simpa [agsT] using e⟩
 | [], [], i, h :: hs, y :: ys, r, r', _, _, _, a2, _, b2, e => by
  exfalso
  simp only [List.all_cons, Bool.and_eq_true] at a2
  simp only [exsOk, Bool.and_eq_true] at b2
  simp only [agsT, List.nil_append, List.append_assoc] at e
  cases i with
  | zero =>
   obtain ⟨c, t, hc, hne⟩ := Qrp a2.1 b2.1 (Qol (gs := hs) (xs := ys) (r := r') (i := 0))
   rw [cm0, List.nil_append, hc] at e
   injection e with e _; exact hne e.symm
  | succ i => simp [cm] at e
 | g :: gs, x :: xs, i, [], [], r, r', _, _, a1, _, b1, _, e => by
  exfalso
  simp only [List.all_cons, Bool.and_eq_true] at a1
  simp only [exsOk, Bool.and_eq_true] at b1
  simp only [agsT, List.nil_append, List.append_assoc] at e
  cases i with
  | zero =>
   obtain ⟨c, t, hc, hne⟩ := Qrp a1.1 b1.1 (Qol (gs := gs) (xs := xs) (r := r) (i := 0))
   rw [cm0, List.nil_append, hc] at e
   injection e with e _; exact hne e
  | succ i => simp [cm] at e
 | g :: gs, x :: xs, i, h :: hs, y :: ys, r, r', l1, l2, a1, a2, b1, b2, e => by
  simp only [List.all_cons, Bool.and_eq_true] at a1 a2
  simp only [exsOk, Bool.and_eq_true] at b1 b2
  simp only [agsT, List.append_assoc] at e
  have e := List.append_cancel_left e
  obtain ⟨q1, q2, q3⟩ := QuD a1.1 a2.1 b1.1 b2.1 Qol Qol e
  obtain ⟨q4, q5, q6⟩ := Qrq gs xs (i + 1) hs ys r r' (by simpa using l1) (by simpa using l2) a1.2 a2.2 b1.2 b2.2 q3
  exact ⟨by rw [q1, q4], by rw [q2, q5], q6⟩
 | [], _ :: _, _, _, _, _, _, h, _, _, _, _, _, _ => by simp at h
 | _ :: _, [], _, _, _, _, _, h, _, _, _, _, _, _ => by simp at h
 | _, _, _, [], _ :: _, _, _, _, h, _, _, _, _, _ => by simp at h
 | _, _, _, _ :: _, [], _, _, _, h, _, _, _, _, _ => by simp at h
end
end Sx
end
