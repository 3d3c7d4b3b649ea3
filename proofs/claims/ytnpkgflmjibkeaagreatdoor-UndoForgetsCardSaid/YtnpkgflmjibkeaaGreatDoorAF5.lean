/-
  Texts of this family, one behind the other: UdI, OpRForgets, RowIForgets.
-/
import Derived.Test.YtnpkgflmjibkeaaGreatDoorAF4
noncomputable section
set_option linter.unusedVariables false
set_option linter.unusedSimpArgs false
set_option maxRecDepth 10000
namespace Sx
section
open Go Go.Proofs
section
variable {C : Ctx} {o o2 : Own_} {A B H H2 E : Heap} {x n N : Nat} {s s2 t : Sl} {S S0 : Sta} {a : Nat → Sta} {l l2 : List OpV} {W : List NR}
theorem Qli (hFm : FmtC C) {K : Heap → Prop} (h : LG o A H x a n N) (hb : Bs o B H) (hs : Ops B s l) (hf : FewOp l) (hn : n + l.length ≤ 1000)
 (k : ∀ o2 A2 D a2 n2 N2, Mv o A H o2 A2 D → LG o2 A2 D x a2 n2 N2 → Stp a n a2 n2 → n2 ≤ n + l.length → N2 ≤ N + 2 * l.length → K D) :
 lp (α := Int) 0 H (fun x22 J23 H24 => ift (decide ((x22 : Int) < (Sl.len s : Int)))
  (ixa s x22 fun p26 => ldT H24 Qm.c (p26.1, p26.2 + (x22 : Int).toNat * 4) fun x31 => QbB C (some (x, 0)) x31 (fun H33 => J23 (w .i64 (x22 + 1)) H33) H24) (K H24)) := by
 have hlen := SlIs.len hs
 have hfl := hf.len
 refine ⟨fun y D => ∃ (i : Nat) (o2 : Own_) (A2 : Heap) (a2 : Nat → Sta) (n2 N2 : Nat), y = (i : Int) ∧ i ≤ l.length ∧ Mv o A H o2 A2 D ∧ LG o2 A2 D x a2 n2 N2 ∧ Stp a n a2 n2 ∧ n2 ≤ n + i ∧ N2 ≤ N + 2 * i, fun y _ => l.length - y.toNat, ⟨0, o, A, a, n, N, rfl, Nat.zero_le _, Mv.of_le (Heap.le.refl _), h, Stp.refl, by omega, by omega⟩, ?_⟩
 rintro _ D ⟨i, o2, A2, a2, n2, N2, rfl, hi, hm, hL, hst, hn2, hN2⟩
 rw [hlen]
 refine ift.of (fun hlt => ?_) fun hge => ?_
 ·have hil : i < l.length := by have := of_decide_eq_true hlt; omega
  have hb2 := hb.mv hm
  refine SlIs.ld hs hb2.le (z := 4) (fun _ => rfl) (by omega) rfl hil fun y hy => ?_
  obtain ⟨q1, q2⟩ := hf.op _ (List.getElem_mem hil)
  refine Qlv hFm hL (by omega) hb2 hy q1 q2 fun o3 A3 D3 a3 n3 N3 m3 l3 s3 r1 r2 => ?_
  rw [QQ (by omega) (by omega)]
  exact ⟨⟨i + 1, o3, A3, a3, n3, N3, by omega, by omega, hm.trans m3, l3, hst.trans s3, by omega, by omega⟩, by first | omega | (dsimp only; omega)⟩
 ·have hie : i = l.length := by have := of_decide_eq_false hge; omega
  subst hie
  exact k o2 A2 D a2 n2 N2 hm hL hst hn2 hN2
theorem IsW.bds {n : Nat} (h : IsW S W) (hF : FineS S) : ∀ z ∈ W, VBs z.2 ∧ z.2.length ≤ 140737488355328 := fun z hz => by
 have := hF z ((h.mem z).1 hz)
 exact ⟨this.b, by have := this.tookR.len; omega⟩
/-- rows rise -/
theorem QlG {K : Bool → Heap → Prop} (hs : NRows A s W) (hA : A.le H) (hr : RiseN W) (hb : ∀ z ∈ W, okR z.2) (k : K true H) :
 lp (α := Int) 1 H (fun x73 J74 H75 =>
 ift (decide ((x73 : Int) < (Sl.len s : Int)))
 (jn (α := Bool) (fun x78 H79 =>
 ift x78
 (K false H79)
 (J74 (w .i64 (x73 + 1)) H79))
 (fun J77 => dr H75 fun Hs81 =>
 ixa s x73 fun p83 =>
 ldS Hs81 ((p83.1, p83.2 + (x73 : Int).toNat * 2).1, (p83.1, p83.2 + (x73 : Int).toNat * 2).2 + 0) fun x88 =>
 ixa s (w .i64 (x73 - 1)) fun p90 =>
 ldS Hs81 ((p90.1, p90.2 + (w .i64 (x73 - 1) : Int).toNat * 2).1, (p90.1, p90.2 + (w .i64 (x73 - 1) : Int).toNat * 2).2 + 0) fun x95 =>
 ift (x88 == x95)
 (ixa s (w .i64 (x73 - 1)) fun p98 =>
 ldL Hs81 ((p98.1, p98.2 + (w .i64 (x73 - 1) : Int).toNat * 2).1, (p98.1, p98.2 + (w .i64 (x73 - 1) : Int).toNat * 2).2 + 1) fun x103 =>
 ixa s x73 fun p105 =>
 ldL Hs81 ((p105.1, p105.2 + (x73 : Int).toNat * 2).1, (p105.1, p105.2 + (x73 : Int).toNat * 2).2 + 1) fun x110 =>
 Qbn C x103 x110 (fun r113 H114 =>
 Heap.le Hs81 H114 ∧
 J77 (decide ((r113 : Int) ≥ 0)) H114) H75)
 (J77 false H75)))
 (K true H75)) := by
  have hlen := SlIs.len hs
  have hbd := SlIs.bd hs
  refine ⟨fun y D => D = H ∧ ∃ i : Nat, y = (i : Int) ∧ 1 ≤ i, fun y _ => W.length - y.toNat, ⟨rfl, 1, rfl, Nat.le_refl _⟩, ?_⟩
  rintro _ D ⟨rfl, i, rfl, hi⟩
  rw [hlen]
  refine ift.of (fun hlt => ?_) fun _ => k
  have hil : i < W.length := by have := of_decide_eq_true hlt; omega
  have hil1 : i - 1 < W.length := by omega
  have hw1 : w .i64 ((i : Int) - 1) = ((i - 1 : Nat) : Int) := by rw [QQ (by omega) (by omega)]; omega
  rw [hw1]
  refine ⟨fun b D2 => D2 = D ∧ b = false, ?_, ?_⟩
  ·refine ⟨D, Heap.le.refl _, ?_⟩
   refine SlIs.fS hs hA (z := 2) (fun _ => rfl) (by omega) rfl hil (j := 0) (f := fun x => x.Rel) (fun _ => rfl) fun y hy => ?_
   refine SlIs.fS hs hA (z := 2) (fun _ => rfl) (by omega) rfl hil1 (j := 0) (f := fun x => x.Rel) (fun _ => rfl) fun z hz => ?_
   rw [hy.1, hz.1]
   refine ift.of (fun he => ?_) fun _ => ⟨rfl, rfl⟩
   have he : W[i].1 = W[i - 1].1 := by simpa using he
   refine SlIs.fL hs hA (z := 2) (fun _ => rfl) (by omega) rfl hil1 (j := 1) (f := fun x => x.L) (fun _ => rfl) fun z hz => ?_
   refine SlIs.fL hs hA (z := 2) (fun _ => rfl) (by omega) rfl hil (j := 1) (f := fun x => x.L) (fun _ => rfl) fun y hy => ?_
   have m1 := hb _ (List.getElem_mem hil)
   have m2 := hb _ (List.getElem_mem hil1)
   have hlt2 := List.pairwise_iff_getElem.1 hr (i - 1) i hil1 hil (by omega)
   unfold cmpN at hlt2
   rw [he, Lin.txt.refl trivial] at hlt2
   rw [if_neg (by simp)] at hlt2
   refine Qf3 (hz.2.le hA) (hy.2.le hA) (by have := m2.len; omega) (by have := m1.len; omega) m2.b m1.b (fun v hv => by have := Qc2 hv; have := m2.z; omega) (fun v hv => by have := Qc2 hv; have := m1.z; omega) ⟨Heap.le.refl _, rfl, ?_⟩
   exact decide_eq_false (by omega)
  ·rintro _ D2 ⟨rfl, rfl⟩
   refine Qi rfl ?_
   rw [QQ (by omega) (by omega)]
   exact ⟨⟨rfl, i + 1, by omega, by omega⟩, by first | omega | (dsimp only; omega)⟩
theorem Qg0 (hFm : FmtC C) {K : Bool → Heap → Prop} (hs : Ops H s l) (hs2 : Ops H s2 l2) (hB : ∀ o ∈ l, InOp o) (hB2 : ∀ o ∈ l2, InOp o) (k : ∀ H2, K true H2) : QV C s s2 K H := by
 apply Qeg
 unfold QbV
 refine Qjf hs hB fun b1 hb1 => ?_
 refine ⟨fun b D => D = H ∧ (b = false → FewOp l ∧ FewOp l2), ?_, ?_⟩
 ·refine ift.of (fun h => ⟨rfl, fun e => by cases e⟩) fun h => ?_
  exact Qjf hs2 hB2 fun b2 hb2 => ⟨rfl, fun e => ⟨hb1 h, hb2 e⟩⟩
 rintro b3 D ⟨rfl, hb3⟩
 refine ⟨fun b E => D.le E ∧ (b = false → FewOp l ∧ FewOp l2), ?_, ?_⟩
 ·refine ift.of (fun h => ⟨Heap.le.refl _, fun e => by cases e⟩) fun h => ?_
  exact Qi6 hFm fun H2 l2 => ⟨l2, fun _ => hb3 h⟩
 rintro b10 E ⟨hDE, hb10⟩
 refine ift.of (fun h => Qi6 hFm fun H2 _ => k H2) fun h => ?_
 obtain ⟨f1, f2⟩ := hb10 h
 have hl1 := f1.len
 have hl2 := f2.len
 refine Qlb fun x o H2 hle0 hno h0 => ?_
 have bs0 : Bs o E H2 := ⟨hle0, fun c w hw => hno c w hw⟩
 have hsE := hs.le hDE
 have hs2E := hs2.le hDE
 refine Qli hFm h0 bs0 hsE f1 (by omega) fun o1 A1 E1 a1 n1 N1 m1 g1 st1 r1 r2 => ?_
 have bs1 := bs0.mv m1
 refine QjO g1 (by omega) fun W sW E2 l2' hW iW => ?_
 have g2 := g1.up l2'
 have bs2 := bs1.up l2'
 have bw2 := Qis g1.oh l2'
 have hF1 := g1.f n1 (Nat.le_refl _)
 have hbd := iW.bds (n := 0) hF1
 refine QjJ g2 fun E3 m3 g3 => ?_
 have bs3 := bs2.mv m3
 have bw3 := bw2.mv m3
 refine QiQ g3 ?_
 refine ⟨fun b D2 => E3.le D2 ∧ b = false, ?_, ?_⟩
 ·refine Qi rfl ?_
  refine QjO g3 (by omega) fun W2 sW2 E4 l4 hW2 iW2 => ?_
  have := iW2.uniq iW
  subst this
  exact Qie hW2 hW (Heap.new_le _ _) (bw3.up l4).le hbd ⟨l4, rfl⟩
 rintro _ E4 ⟨l4, rfl⟩
 refine Qi rfl ?_
 have g4 := g3.up l4
 have bs4 := bs3.up l4
 have bw4 := bw3.up l4
 refine Qli hFm g4 bs4 hs2E f2 (by omega) fun o5 A5 E5 a5 n5 N5 m5 g5 st5 r3 r4 => ?_
 have bw5 := bw4.mv m5
 have he0 : a5 0 = a1 n1 := st5.old 0 (Nat.le_refl _)
 refine QjI (jj := 0) g5 (by omega) (fun hc => absurd ⟨by omega, by omega⟩ hc) fun _ _ o6 E6 m6 g6 => ?_
 have bw6 := bw5.mv m6
 have e00 : (0 : Int).toNat = 0 := rfl
 rw [e00] at g6
 refine ⟨fun b D2 => E6.le D2 ∧ b = false, ?_, ?_⟩
 ·refine Qi rfl ?_
  refine QjO g6 (by omega) fun W2 sW2 E7 l7 hW2 iW2 => ?_
  rw [he0] at iW2
  have := iW2.uniq iW
  subst this
  exact Qie hW2 hW (Heap.new_le _ _) (bw6.up l7).le hbd ⟨l7, rfl⟩
 rintro _ E7 ⟨l7, rfl⟩
 refine Qi rfl ?_
 exact QlG hW (bw6.up l7).le iW.rise (fun z hz => (hF1 z ((iW.mem z).1 hz)).tookR) (k E7)
end
end
section
set_option maxRecDepth 100000
open Go Go.Proofs
def OpsIn (A : Heap) (s : Sl) (l : List OpV) : Prop := Ops A s l ∧ ∀ o ∈ l, InOp o
section
variable {P : Program} {W : World}
theorem Ql0 {α β : Type} {R : α → β → Prop} {c : β → List Value} {t e : TypeId} {z n : Nat} {cs : List Value} (h : TrW P W n t cs) (ht : P.underlying t = some (.slice e)) (hz : P.cellsOf e = z) (hz0 : 0 < z) (hb : 1 ≤ P.bytesOf e)
 (ih : ∀ m, m < n → ∀ cs, TrW P W m e cs → ∃ (v : α) (x : β), cs = c x ∧ R v x) : ∃ (s : Sl) (l : List α), cs = [slv s] ∧ SlIs R c (heapOf W) s l ∧ ∀ v ∈ l, ∃ x, R v x := by
 obtain ⟨s, css, m, hm, h1, h2, h3, h4, h5, h6, h7⟩ := h.slice ht hz hz0
 have key : ∀ (css : List (List Value)), (∀ c' ∈ css, ∃ (v : α) (x : β), c' = c x ∧ R v x) → ∃ (l : List α) (xs : List β), css.flatten = xs.flatMap c ∧ css.length = xs.length ∧ l.length = xs.length ∧ (∀ (i : Nat) (v : α) (x : β), l[i]? = some v → xs[i]? = some x → R v x) ∧ ∀ v ∈ l, ∃ x, R v x := by
  intro css
  induction css with
  | nil => intro _; exact ⟨[], [], rfl, rfl, rfl, fun i v x hv => by simp at hv, fun v hv => by cases hv⟩
  | cons c' css ihc =>
   intro hh
   obtain ⟨v, x, g1, g2⟩ := hh c' (List.mem_cons_self ..)
   obtain ⟨l, xs, k1, k2, k3, k4, k5⟩ := ihc fun c' hc => hh c' (List.mem_cons_of_mem _ hc)
   refine ⟨v :: l, x :: xs, by rw [List.flatten_cons, List.flatMap_cons, k1, g1], by simp [k2], by simp [k3], fun i v' x' hv hx => ?_, fun v' hv => ?_⟩
   ·cases i with
    | zero => simp at hv hx; subst hv; subst hx; exact g2
    | succ i => exact k4 i v' x' (by simpa using hv) (by simpa using hx)
   ·rcases List.mem_cons.1 hv with rfl | hv
    ·exact ⟨x, g2⟩
    ·exact k5 v' hv
 obtain ⟨l, xs, k1, k2, k3, k4, k5⟩ := key css fun c' hc => ih m hm c' (h7 c' hc).2
 have hmx : reachBytes = 140737488351232 := rfl
 rw [hmx] at h4
 have hsl : s.len ≤ 140737488351232 := Nat.le_trans (Nat.le_mul_of_pos_right _ (by omega)) h4
 exact ⟨s, l, h1, ⟨xs, by rw [← k1]; exact h6, by omega, k3, by omega, k4⟩, k5⟩
end
section
variable {W : World}
theorem valTO : ValT Tryz.prog 56 28 := ⟨⟨_, Tryz.underlying56, rfl, ⟨_, _, rfl, rfl, rfl, Tryz.underlying5, by kernel_rfl⟩, ⟨_, _, rfl, rfl, rfl, Tryz.underlying2, by kernel_rfl⟩, ⟨_, _, rfl, rfl, rfl, Tryz.underlying9, by kernel_rfl⟩, ⟨_, rfl, rfl, rfl, by kernel_rfl⟩⟩, by kernel_rfl, Tryz.underlying28⟩
def OpIn (A : Heap) (o : OpV) (x : Qm) : Prop := OpIs A o x ∧ InOp o
theorem QlO (n : Nat) {cs : List Value} (h : TrW Tryz.prog W n 30 cs) : ∃ (rel : Str) (row : List V) (x : Qc), cs = Qc.c x ∧ x.Rel = rel ∧ VRow (heapOf W) x.L row ∧ VBs row ∧ row.length ≤ 140737488355328 ∧ rel.length ≤ 140737488355328 := by
 obtain ⟨hl, m, rfl, hf⟩ := h.struct Tryz.underlying30
 rw [show Tryz.prog.cellsOf 30 = 2 by kernel_rfl] at hl
 match cs, hl with
 | [q0, q1], _ =>
 have g0 : TrW Tryz.prog W m 9 (([q0, q1].drop 0).take (Tryz.prog.cellsOf 9)) := hf 0 _ rfl
 have g1 : TrW Tryz.prog W m 28 (([q0, q1].drop 1).take (Tryz.prog.cellsOf 28)) := hf 1 _ rfl
 rw [show Tryz.prog.cellsOf 9 = 1 by kernel_rfl] at g0
 rw [show Tryz.prog.cellsOf 28 = 1 by kernel_rfl] at g1
 replace g0 : TrW Tryz.prog W m 9 [q0] := g0
 replace g1 : TrW Tryz.prog W m 28 [q1] := g1
 obtain ⟨rel, e0, _, l0⟩ := g0.str Tryz.underlying9
 have hmx : reachBytes = 140737488351232 := rfl
 rw [hmx] at l0
 obtain ⟨y1, r1, z1, v1, w1, u1⟩ := QlH valTO (of_decide_eq_true (by kernel_rfl)) g1
 exact ⟨rel, r1, ⟨rel, y1⟩, (show [q0, q1] = [q0] ++ [q1] from rfl).trans (by rw [z1, e0]; rfl), rfl, v1, w1, u1, by omega⟩
theorem QlZ (n : Nat) {cs : List Value} (h : TrW Tryz.prog W n 32 cs) : ∃ (v : OpV) (x : Qm), cs = Qm.c x ∧ OpIn (heapOf W) v x := by
 obtain ⟨hl, m, rfl, hf⟩ := h.struct Tryz.underlying32
 rw [show Tryz.prog.cellsOf 32 = 4 by kernel_rfl] at hl
 match cs, hl with
 | [q0, q1, q2, q3], _ =>
 have g0 : TrW Tryz.prog W m 5 (([q0, q1, q2, q3].drop 0).take (Tryz.prog.cellsOf 5)) := hf 0 _ rfl
 have g1 : TrW Tryz.prog W m 3 (([q0, q1, q2, q3].drop 1).take (Tryz.prog.cellsOf 3)) := hf 1 _ rfl
 have g2 : TrW Tryz.prog W m 30 (([q0, q1, q2, q3].drop 2).take (Tryz.prog.cellsOf 30)) := hf 2 _ rfl
 rw [show Tryz.prog.cellsOf 5 = 1 by kernel_rfl] at g0
 rw [show Tryz.prog.cellsOf 3 = 1 by kernel_rfl] at g1
 rw [show Tryz.prog.cellsOf 30 = 2 by kernel_rfl] at g2
 replace g0 : TrW Tryz.prog W m 5 [q0] := g0
 replace g1 : TrW Tryz.prog W m 3 [q1] := g1
 replace g2 : TrW Tryz.prog W m 30 [q2, q3] := g2
 obtain ⟨x0, e0, _⟩ := g0.int Tryz.underlying5
 obtain ⟨x1, e1, w1⟩ := g1.int Tryz.underlying3
 obtain ⟨rel, row, y, e2, r1, r2, r3, r4, r5⟩ := QlO m g2
 exact ⟨⟨x0, x1, rel, row⟩, ⟨x0, x1, y⟩, (show [q0, q1, q2, q3] = [q0] ++ ([q1] ++ [q2, q3]) from rfl).trans (by rw [e0, e1, e2]; rfl), ⟨rfl, rfl, r1, r2⟩, r3, r4, r5⟩
theorem Qhp {H : Type} {enc : TypeId × Value → H} {base : Nat} {v : Value} {d : DataW H} {p : List MemPlace} (hv : Value.okWide Tryz.prog W .any base 22 v) (h : DataW.Trod enc Tryz.prog W 0 (fun _ => true) true 22 v d p) (hw : ∀ w ∈ d.weights Tryz.prog 22, w ≤ reachBytes) :
 ∃ (s : Sl) (a : List OpV), v = slv s ∧ OpsIn (heapOf W) s a := by
 obtain ⟨x, len, c, rfl⟩ := WideShapes.okWide_slice Tryz.underlying22 hv
 obtain ⟨n, hn⟩ := TrW.of h hw
 obtain ⟨s, a, h1, h2, h3⟩ := Ql0 (R := OpIn (heapOf W)) (c := Qm.c) hn Tryz.underlying22 (show Tryz.prog.cellsOf 32 = 4 by kernel_rfl) (by omega) (of_decide_eq_true (by kernel_rfl)) (fun m hm cs hc => QlZ m hc)
 refine ⟨s, a, ?_, SlIs.le (Heap.le.refl _) h2 fun _ _ _ hx => hx.1, fun o ho => (h3 o ho).elim fun _ h => h.2⟩
 simpa [Value.cells] using h1
end
theorem Qf9 {C : Ctx} {H : Heap} (hFm : FmtC C) {s0 s1 : Sl} {l0 l1 : List OpV} (h0 : OpsIn H s0 l0) (h1 : OpsIn H s1 l1) : QV C s0 s1 (fun r _ => r = true) H := Qg0 hFm h0.1 h1.1 h0.2 h1.2 fun _ => rfl
end
end Sx
end
noncomputable section

end

