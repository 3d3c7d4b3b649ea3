/-
  Texts of this family, one behind the other: IxP4, IxA, IxHP, U, RowIPlays.
-/
import Derived.Test.YtjafihegefejdaaGreatDoorAP4
import Derived.Test.YtjafihegefejdaaGreatDoorRows
import Derived.JoinedCond
noncomputable section
set_option linter.unusedVariables false
set_option linter.unusedSimpArgs false
set_option maxRecDepth 10000
namespace Sx
section
open Go Go.Proofs
section
variable {C : Ctx} {B H E : Heap} {s : Sl}
/-- places written over -/
theorem Qlp {tp : Sl} {n : Nat} {K : Heap → Prop} (hl : tp.len = n) (hn : n ≤ 1000000) (hx : tp.x = none) (hc : 0 < n → ∃ b cs, tp.p = some (b, 0) ∧ E b = some (true, .row cs) ∧ n ≤ cs.length) (k : ∀ E2, (∀ c, (∀ q, tp.p = some q → q.1 ≠ c) → E2 c = E c) → K E2) :
 lp (α := Int) 0 E (fun x108 J109 H110 => ift (decide ((x108 : Int) < (Sl.len tp : Int))) (ixa tp x108 fun p112 => st (p112.1, p112.2 + (x108 : Int).toNat * 1) (.int .i64 (-5)) (fun H117 => J109 (w .i64 (x108 + 1)) H117) H110) (K H110)) := by
 rw [hl]
 refine ⟨fun z F => ∃ i : Nat, z = (i : Int) ∧ i ≤ n ∧ (∀ c, (∀ q, tp.p = some q → q.1 ≠ c) → F c = E c) ∧ (0 < n → ∃ b cs, tp.p = some (b, 0) ∧ F b = some (true, .row cs) ∧ n ≤ cs.length), fun z _ => n - z.toNat, ⟨0, rfl, Nat.zero_le _, fun _ _ => rfl, hc⟩, ?_⟩
 rintro _ F ⟨i, rfl, hi, hF, hb⟩
 refine ift.of (fun hlt => ?_) fun _ => k F hF
 have hil : i < n := by have := of_decide_eq_true hlt; omega
 obtain ⟨b, cs, h1, h2, h3⟩ := hb (by omega)
 refine ⟨(b, 0), h1, hx, by omega, by omega, _, h2, ?_, ?_⟩
 ·show 0 + ((i : Nat) : Int).toNat * 1 < cs.length
  omega
 ·rw [Qm (by omega) (by omega)]
  refine ⟨⟨i + 1, by omega, by omega, fun c hc2 => ?_, fun _ => ⟨b, _, h1, Heap.put_same .., by rw [List.length_set]; exact h3⟩⟩, by first | omega | (dsimp only; omega)⟩
  have : c ≠ b := fun e => hc2 _ h1 e.symm
  show (F.put b _) c = E c
  rw [Heap.put_ne _ _ _ this]; exact hF c hc2
theorem Qir (hFm : FmtC C) {l : List StV} {K : Bool → Heap → Prop} (hs : StL B s l) (hB : B.le H) (hb : ∀ v ∈ l, VBs v.row ∧ pVs v.row ≤ 1000000000000 ∧ v.ps.length ≤ 1000000000000 ∧ ∀ z ∈ v.ps, -9223372036854775808 ≤ z ∧ z ≤ 9223372036854775807) (k : ∀ H2, K true H2) : Q1 C s K H := by
 apply Qe8
 unfold Qco
 refine Ql8 hs hB (fun v hv => ⟨(hb v hv).2.1, (hb v hv).2.2.1⟩) fun b0 hb0 => ift.of (fun _ => k H) fun hc => ?_
 obtain ⟨hll, hsz⟩ := hb0 hc
 have hlen := SlIs.len hs
 have okr : ∀ v ∈ l, okRow v.row := fun v hv => Qmd (hb v hv).1 (by have := (hsz v hv).1; omega)
 have okp : ∀ v ∈ l, PsOk v.ps := fun v hv => ⟨by have := (hsz v hv).2; omega, (hb v hv).2.2.2⟩
 refine IX.new fun x0 o0 A0 H5 a1 a2 a3 a4 => ?_
 intro y ny
 have ly := Heap.le_put ny (g := .row (Qi.c (⟨Sl.nil⟩ : Qi))) (m := true)
 have hBy : B y = none := hB.none (a1.none ny)
 have nilR : ∀ {M : Heap}, VRows M Sl.nil [] := fun {M} => ⟨[], .inl rfl, rfl, rfl, fun i x l hx => by simp at hx⟩
 have q0 : QS B (H5.put y (.row (Qi.c (⟨Sl.nil⟩ : Qi)))) x0 y o0 A0 B [] [] Sl.nil := by
  refine ⟨a4.up ly, ⟨hB.trans (a1.trans ly), fun c w hw => hB.none (a2 c w hw)⟩, Heap.le.refl _, ⟨Heap.put_same .., nilR, hB.trans (a1.trans ly), hBy, (fun l hl => by cases hl), Nat.zero_le _⟩, ?_, a4.oh.le.none ny⟩
  cases he : o0 y with
  | none => rfl
  | some w => exact absurd ny (a4.oh.oh y w he)
 generalize H5.put y (.row (Qi.c (⟨Sl.nil⟩ : Qi))) = H7 at *
 rw [hlen]
 refine ⟨fun z E => ∃ (i x : Nat) (o : Own_) (A N : Heap) (R S : List (List V)) (sL : Sl), z = (some (x, 0), (i : Int)) ∧ i ≤ l.length ∧ QS B E x y o A N R S sL ∧ Alk R S ∧ S.length ≤ i, fun z _ => l.length - z.2.toNat, ⟨0, x0, o0, A0, B, [], [], Sl.nil, rfl, Nat.zero_le _, q0, ⟨.nil, fun _ => Iff.rfl⟩, Nat.zero_le _⟩, ?_⟩
 rintro _ E ⟨i, x, o, A, N, R, S, sL, rfl, hi, q, ha, hSl⟩
 refine ift.of (fun hlt => ?_) fun hlt => ?_
 ·have hil : i < l.length := by have := of_decide_eq_true hlt; dsimp only at this; omega
  have hmem := List.getElem_mem hil
  have okr1 := okr _ hmem
  have okp1 := okp _ hmem
  have hBE : B.le E := q.bn.trans q.bs.le
  refine SlIs.ld hs hBE (z := 3) (fun _ => rfl) (by omega) rfl hil fun xs hxs => ?_
  intro b19 n19
  have l19 := Heap.le_put n19 (g := .row (Qf.c xs)) (m := true)
  refine nwT rfl ?_
  have h19 : (E.put b19 (.row (Qf.c xs))) b19 = some (true, .row (Qf.c xs)) := Heap.put_same ..
  generalize E.put b19 (.row (Qf.c xs)) = H21 at *
  refine ⟨xs.Row, by rw [Q7 h19]; rfl, ?_⟩
  refine QkT hxs.2.1 (hBE.trans l19) okr1.2 fun r24 H25 hM => ?_
  have l25 := hM.le
  intro b26 n26
  have l26 := Heap.le_put n26 (g := .row []) (m := true)
  refine ⟨xs.Places, by rw [Q7 (l26 _ _ (l25 _ _ h19))]; rfl, ?_⟩
  obtain ⟨zs, p1, p2, p3, p4, p5⟩ := hxs.2.2
  have hzl := SlIs.len hxs.2.2
  have hfl : (zs.flatMap cI).length = zs.length := by
   have h5 : ∀ l : List Int, (l.flatMap cI).length = l.length := fun l => by induction l with
    | nil => rfl
    | cons a l ih => rw [List.flatMap_cons, List.length_append, ih]; simp [cI]; omega
   exact h5 zs
  have hpl := okp1.1
  refine QjS (H0 := H25) (zc := [.int .i64 0]) (cs := []) (ys := zs.flatMap cI) ⟨l26, ⟨by simp, rfl, Nat.le_refl _, .inr ⟨b26, [], rfl, Heap.put_same .., by simp⟩⟩, fun q hq => (by simp only [Option.some.injEq] at hq; subst hq; exact n26)⟩ (QaY ((hBE.trans l19).trans (l25.trans l26)) p1) (by rw [hfl]; simp; omega) (fun u hu => ?_) (by dsimp only; omega) (by dsimp only; omega) fun r30 H31 g1 g2 => ?_
  ·obtain ⟨x, _, hx⟩ := List.mem_flatMap.1 hu
   simp only [cI, List.mem_singleton] at hx
   subst hx; rfl
  have l31 := g1.le
  have hr30 : r30.len = l[i].ps.length := by rw [g2]; dsimp only; omega
  have hE31 : E.le H31 := l19.trans (l25.trans l31)
  have hzp : IL (Heap.new H25 H31) r30 l[i].ps := ⟨zs, by simpa using g1.new.rdsl, by omega, p3, p4, p5⟩
  have d : SD B (Heap.new E H31) b19 xs l[i] r24 r30 := ⟨⟨true, Heap.new_some (l31 _ _ (l25 _ _ h19)) n19⟩, hxs.1, hxs.2.1, hxs.2.2, hM.row.le (Qb6 l19 l31), SlIs.le (Qb6 (l19.trans l25) (Heap.le.refl _)) hzp fun _ _ _ h => h, okr1, okp1⟩
  have hyE : E y ≠ none := by rw [q.dy.yl]; simp
  have hZ : ∀ c, Heap.new E H31 c ≠ none → E c = none := fun c hc => by
   cases he : Heap.new E H31 c with
   | none => exact absurd he hc
   | some e => exact (Heap.new_inv he).1
  have hz : PZ (Heap.new E H31) H31 o A N y := by
   refine ⟨Qlk q.ix.oh hE31, fun c hc => ⟨q.ix.oh.le.none (hZ c hc), q.bs.le.none (hZ c hc)⟩, ?_⟩
   cases he : Heap.new E H31 y with
   | none => rfl
   | some e => exact absurd (Heap.new_inv he).1 hyE
  have q31 := q.up hE31
  have hln : S.length < 900 := by omega
  refine ⟨fun u G => ∃ (x : Nat) (o : Own_) (A N : Heap) (R S : List (List V)) (sL : Sl), u = some (x, 0) ∧ QS B G x y o A N R S sL ∧ PZ (Heap.new E H31) G o A N y ∧ Alk R S ∧ S.length ≤ i + 1, ?_, ?_⟩
  ·refine ⟨xs.Kind, by rw [Q7 (l31 _ _ (l25 _ _ h19))]; rfl, ?_⟩
   refine ift.of (fun _ => ?_) fun _ => ift.of (fun _ => ?_) fun _ => ift.of (fun _ => ?_) fun _ => ift.of (fun _ => ?_) fun _ => ?_
   ·exact Qml q31 hz ha d hln fun o A N R S2 sL E h1 h2 h3 h4 => ⟨x, o, A, N, R, S2, sL, rfl, h1, h2, h3, by omega⟩
   ·exact Ql0 q31 hz ha d hBy fun o A N R S2 sL E h1 h2 h3 h4 => ⟨x, o, A, N, R, S2, sL, rfl, h1, h2, h3, by omega⟩
   ·exact Qlg hFm q31 hz ha d fun o A N R S2 sL E h1 h2 h3 h4 => ⟨x, o, A, N, R, S2, sL, rfl, h1, h2, h3, by omega⟩
   ·exact Qk4 q31 hz ha d fun x o A N R S2 sL E h1 h2 h3 h4 => ⟨x, o, A, N, R, S2, sL, rfl, h1, h2, h3, by omega⟩
   ·exact ⟨x, o, A, N, R, S, sL, rfl, q31, hz, ha, by omega⟩
  ·rintro _ G ⟨x2, o2, A2, N2, R2, S2, sL2, rfl, qG, zG, aG, hS2⟩
   obtain ⟨kk, hkk⟩ := hM.sp
   have hkk2 : Sp (fun c => H21 c = none ∧ H25 c ≠ none) G kk r24 := hkk.to fun b e hb' he' => ⟨⟨hb', by rw [he']; simp⟩, zG.zb.le _ _ (Heap.new_some (l31 _ _ he') (l19.none hb'))⟩
   refine QkB hkk2 fun G1 f1 _ => ?_
   refine Qlp hr30 (by omega) g1.own.2.1 (fun hpos => ?_) fun G2 f2 => ?_
   ·obtain ⟨_, _, _, ⟨q5, q6⟩ | ⟨bq, sp, q5, q6, q7⟩⟩ := g1.own
    ·have := g1.own.2.2.1; omega
    ·have hq25 : H25 bq = none := g1.fresh _ q5
     have hqE : E bq = none := (l19.trans l25).none hq25
     have h6 := q7
     have h7 := g1.own.2.2.1
     rw [show [Value.int .i64 0].length = 1 from rfl, Nat.mul_one] at h6
     refine ⟨bq, _, q5, ?_, Nat.le_trans (by omega) h6⟩
     rw [f1 bq fun h5 => h5.2 hq25]
     exact zG.zb.le _ _ (Heap.new_some q6 hqE)
   have hfix : ∀ c, Heap.new E H31 c = none → G2 c = G c := fun c hc => by
    have hn1 : ¬ (H21 c = none ∧ H25 c ≠ none) := fun ⟨u1, u2⟩ => by
     cases he : H25 c with
     | none => exact u2 he
     | some e => rw [Heap.new_some (l31 _ _ he) (l19.none u1)] at hc; cases hc
    rw [f2 c fun q5 hq5 e5 => ?_, f1 c hn1]
    obtain ⟨g, hg⟩ := g1.own.mine hq5
    have hfr := g1.fresh q5 hq5
    rw [e5] at hg hfr
    rw [Heap.new_some hg ((l19.trans l25).none hfr)] at hc; cases hc
   have q2 := qG.zone zG hfix
   have h19G : G2 b19 = some (true, .row (Qf.c xs)) := by
    have hn1 : ¬ (H21 b19 = none ∧ H25 b19 ≠ none) := fun ⟨u1, _⟩ => by rw [h19] at u1; cases u1
    rw [f2 b19 fun q5 hq5 e5 => ?_, f1 b19 hn1]
    ·exact zG.zb.le _ _ (Heap.new_some (l31 _ _ (l25 _ _ h19)) n19)
    ·have hfr := g1.fresh q5 hq5
     rw [e5, l25 _ _ h19] at hfr; cases hfr
   refine q2.ix.all fun T st ys H119 tT => ?_
   have q3 := q2.up tT.le
   have hbB : Bs o2 B H119 := q3.bs.sub q3.bn
   have h19H := tT.le _ _ h19G
   have hTS : T = S2 := QkC aG.ri aG.me tT
   have rr := tT.rows
   rw [hTS] at rr
   refine ⟨fun b F => b = false ∧ H119.le F, ?_, ?_⟩
   ·refine ⟨H119, Heap.le.refl _, ⟨xs.Row, by rw [Q7 h19H]; rfl, xs.Row, by rw [Q7 h19H]; rfl, ?_⟩⟩
    refine q3.ix.has hbB ⟨d.vr, okr1.1, okr1.2⟩ fun b1 hb1 H132 h132 => ⟨h132, ?_⟩
    have q4 := q3.up h132
    refine QjJ q4.dy d.vr (hbB.le.trans h132) fun b2 hb2 => ⟨h132, ?_⟩
    have hbb : b1 = b2 := by
     have h5 : b1 = true ↔ b2 = true := by rw [hb1, hb2, aG.me]
     cases b1 <;> cases b2 <;> simp_all
    rw [hbb]
    refine Qd (by simp) ?_
    refine ⟨sL2, by rw [Q7 q3.dy.yl]; rfl, ?_⟩
    refine q4.ix.len ⟨h132, ?_⟩
    rw [q4.dy.vs.len, aG.len q4.ix]
    refine Qd (by simp) ?_
    refine ⟨sL2, by rw [Q7 q3.dy.yl]; rfl, ?_⟩
    refine Qb1 rr q4.dy.vs ((Heap.new_le _ _).trans h132) q4.dy.nle (by have := q4.dy.ln; omega) q4.dy.ll ⟨h132, rfl, h132⟩
   ·rintro _ F ⟨rfl, hF⟩
    refine Qd rfl ?_
    refine Qi7 (tT.up hF) (by rw [hTS]; have := q3.dy.ln; omega) fun E3 e3 => ?_
    rw [Qm (by dsimp only; omega) (by dsimp only; omega)]
    exact ⟨⟨i + 1, x2, o2, A2, N2, R2, S2, sL2, rfl, by omega, q2.up e3, aG, hS2⟩, by first | omega | (dsimp only; omega)⟩
 ·refine ⟨E, Heap.le.refl _, sL, by rw [Q7 q.dy.yl]; rfl, ?_⟩
  refine q.ix.all fun T st ys H2 tT => ⟨tT.le, ?_⟩
  have q3 := q.up tT.le
  have hTS : T = S := QkC ha.ri ha.me tT
  have rr := tT.rows
  rw [hTS] at rr
  exact Qb1 rr q3.dy.vs (Heap.new_le _ _) q3.dy.nle (by have := q3.dy.ln; omega) q3.dy.ll ⟨tT.le, k H2⟩
end
end
section
open Go Go.Proofs
mutual
theorem Qnh : ∀ v : V, pV v ≤ vbulk v
 | .mk k n s l => by
  have := Qi0 l
  simp only [pV, vbulk]; omega
theorem Qi0 : ∀ l : List V, pVs l ≤ vbulks l
 | [] => Nat.le_refl _
 | v :: l => by
  have := Qnh v
  have := Qi0 l
  simp only [pVs, vbulks]; omega
end
section
variable {H : Type} {enc : TypeId × Value → H} {P : Program} {W : World}
theorem Ql6 {ti e : TypeId} (hti : P.underlying ti = some (.slice e)) (hte : P.underlying e = some (.int .i64)) (hc : P.cellsOf e = 1) {n : Nat} {cs : List Value} {x : DataW H × List MemPlace} (h : DataW.trod enc P W 0 (fun _ => true) true n ti cs = some x) (hs : sizeD x.1 ≤ 1048576) :
 ∃ (s : Sl) (l : List Int), cs = [slv s] ∧ IL (heapOf W) s l ∧ (∀ z ∈ l, -9223372036854775808 ≤ z ∧ z ≤ 9223372036854775807) ∧ l.length ≤ 1048576 ∧ s.len ≤ s.cap := by
 obtain ⟨s, css, ys, m, hm, p0, p1, p2, p3, p4, p5, p6⟩ := QeC hti (by rw [hc]; omega) h
 have key : ∀ (css : List (List Value)) (ys : List (DataW H × List MemPlace)), css.length = ys.length → (∀ (i : Nat) (c : List Value) (y : DataW H × List MemPlace), css[i]? = some c → ys[i]? = some y → DataW.trod enc P W 0 (fun _ => true) true m e c = some y) →
  ∃ l : List Int, css.flatten = l.flatMap cI ∧ css.length = l.length ∧ ∀ z ∈ l, -9223372036854775808 ≤ z ∧ z ≤ 9223372036854775807 := by
  intro css
  induction css with
  | nil => intro ys _ _; exact ⟨[], rfl, rfl, fun z hz => by cases hz⟩
  | cons c css ih =>
   intro ys hl hh
   cases ys with
   | nil => simp at hl
   | cons y ys =>
    obtain ⟨z, z1, z2, z3⟩ := DataW.trod_int hte (hh 0 c y rfl rfl)
    obtain ⟨l, k1, k2, k3⟩ := ih ys (by simpa using hl) fun i c' y' a b => hh (i + 1) c' y' (by simpa using a) (by simpa using b)
    refine ⟨z :: l, by rw [List.flatten_cons, List.flatMap_cons, k1, z1]; rfl, by simp [k2], fun q hq => ?_⟩
    rcases List.mem_cons.1 hq with rfl | hq
    ·simpa [Lit.wf, IntKind.min, IntKind.max, IntKind.signed, IntKind.bits] using z3
    ·exact k3 q hq
 obtain ⟨l, k1, k2, k3⟩ := key css ys (by omega) fun i c y hc hy => (p6 i c y hc hy).2
 have hsl := Qgo (ys.map (·.1))
 rw [List.length_map] at hsl
 refine ⟨s, l, p0, ⟨l, by rw [← k1]; exact p4, by omega, rfl, by omega, fun i v y hv hy => by rw [hv] at hy; injection hy with hy; exact hy.symm⟩, k3, by omega, p1⟩
end
end
section
open Go Go.Proofs
section
variable {H : Type} {enc : TypeId × Value → H} {P : Program} {W : World}
/-- the type of steps -/
structure StT (P : Program) (t tl ti : TypeId) : Prop where
 st : ∃ fs : Array Field, P.underlying t = some (.struct fs) ∧ fs.size = 3 ∧ (∃ f tk, fs[0]? = some f ∧ f.type = tk ∧ f.offset = 0 ∧ P.underlying tk = some (.int .u8) ∧ P.cellsOf tk = 1) ∧ (∃ f, fs[1]? = some f ∧ f.type = tl ∧ f.offset = 1 ∧ P.cellsOf tl = 1) ∧ (∃ f, fs[2]? = some f ∧ f.type = ti ∧ f.offset = 2 ∧ P.cellsOf ti = 1)
 cells : P.cellsOf t = 3
theorem Qnn {t tl : TypeId} (hT : ValT P t tl) {n : Nat} {cs : List Value} {x : DataW H × List MemPlace} (h : DataW.trod enc P W 0 (fun _ => true) true n tl cs = some x) (hs : sizeD x.1 ≤ 1048576) :
 ∃ (s : Sl) (l : List V), cs = [slv s] ∧ VRow (heapOf W) s l ∧ VBs l ∧ vbulks l ≤ 1048576 := by
 obtain ⟨s, css, ys, m', hm', p0, p1, p2, p3, p4, p5, p6⟩ := QeC hT.sl (by rw [hT.cells]; omega) h
 obtain ⟨l, r1, r2, r3⟩ := Qkv (H := H) hT p2 p3 p4 (m := m') fun i c y hc hy => by
  obtain ⟨_, h5⟩ := p6 i c y hc hy
  have h6 := Qdp (List.mem_map_of_mem (f := (·.1)) (List.mem_of_getElem? hy))
  exact QnV hT m' h5 (by omega)
 exact ⟨s, l, p0, r1, r2, by omega⟩
theorem QmC {t tl ti tv e : TypeId} (hT : ValT P tv tl) (hS : StT P t tl ti) (hti : P.underlying ti = some (.slice e)) (hte : P.underlying e = some (.int .i64)) (hc : P.cellsOf e = 1) {n : Nat} {cs : List Value} {x : DataW H × List MemPlace} (h : DataW.trod enc P W 0 (fun _ => true) true n t cs = some x) (hs : sizeD x.1 ≤ 1048576) :
 ∃ (v : StV) (y : Qf), cs = Qf.c y ∧ StIs (heapOf W) v y ∧ VBs v.row ∧ vbulks v.row ≤ 1048576 ∧ v.ps.length ≤ 1048576 ∧ ∀ z ∈ v.ps, -9223372036854775808 ≤ z ∧ z ≤ 9223372036854775807 := by
 obtain ⟨fs, hu, hfs, ⟨f0, t0, a0, b0, c0, d0, e0⟩, ⟨f1, a1, b1, c1, e1⟩, ⟨f2, a2, b2, c2, e2⟩⟩ := hS.st
 obtain ⟨xs, m, rfl, hx, hl, hxl, hf⟩ := DataW.trod_struct hu h
 rw [hS.cells] at hl
 rw [hfs] at hxl
 match cs, hl with
 | [q0, q1, q2], _ =>
 match xs, hxl with
 | [y0, y1, y2], _ =>
 have g0 := hf 0 f0 a0
 have g1 := hf 1 f1 a1
 have g2 := hf 2 f2 a2
 rw [b0, c0, e0] at g0
 rw [b1, c1, e1] at g1
 rw [b2, c2, e2] at g2
 simp at g0 g1 g2
 have hsx : sizeD x.1 = sizeD y0.1 + (sizeD y1.1 + (sizeD y2.1 + 0)) + 1 := by rw [hx]; simp [sizeD, sizeDs]
 obtain ⟨n0, k0, k1, k2⟩ := DataW.trod_int d0 g0
 obtain ⟨s1, l, r0, r1, r2, r3⟩ := Qnn hT g1 (by omega)
 obtain ⟨s2, ps, p0, p1, p2, p3, _⟩ := Ql6 hti hte hc g2 (by omega)
 refine ⟨⟨n0, l, ps⟩, ⟨n0, s1, s2⟩, ?_, ⟨rfl, r1, p1⟩, r2, r3, p3, p2⟩
 injection k0 with k0
 injection r0 with r0
 injection p0 with p0
 subst k0; subst r0; subst p0
 rfl
theorem QkG {t ts tl ti tv e : TypeId} (hT : ValT P tv tl) (hS : StT P t tl ti) (hti : P.underlying ti = some (.slice e)) (hte : P.underlying e = some (.int .i64)) (hc : P.cellsOf e = 1) (hts : P.underlying ts = some (.slice t)) {base : Nat} {v : Value} {d : DataW H} {p : List MemPlace} (hv : Value.okWide P W .any base ts v) (h : DataW.Trod enc P W 0 (fun _ => true) true ts v d p) (hs : sizeD d ≤ 1048576) :
 ∃ (s : Sl) (l : List StV), v = slv s ∧ StL (heapOf W) s l ∧ ∀ v ∈ l, VBs v.row ∧ vbulks v.row ≤ 1048576 ∧ v.ps.length ≤ 1048576 ∧ ∀ z ∈ v.ps, -9223372036854775808 ≤ z ∧ z ≤ 9223372036854775807 := by
 obtain ⟨a, len, c, rfl⟩ := WideShapes.okWide_slice hts hv
 obtain ⟨n, hn⟩ := h
 obtain ⟨s, css, ys, m, hm, p0, p1, p2, p3, p4, p5, p6⟩ := QeC hts (by rw [hS.cells]; omega) hn
 dsimp only at p5
 have key : ∀ (css : List (List Value)) (ys : List (DataW H × List MemPlace)), css.length = ys.length → (∀ y ∈ ys, sizeD y.1 ≤ 1048576) → (∀ (i : Nat) (c : List Value) (y : DataW H × List MemPlace), css[i]? = some c → ys[i]? = some y → DataW.trod enc P W 0 (fun _ => true) true m t c = some y) →
  ∃ (xs : List Qf) (l : List StV), css.flatten = xs.flatMap Qf.c ∧ css.length = xs.length ∧ xs.length = l.length ∧ (∀ (i : Nat) (v : StV) (x : Qf), l[i]? = some v → xs[i]? = some x → StIs (heapOf W) v x) ∧ ∀ v ∈ l, VBs v.row ∧ vbulks v.row ≤ 1048576 ∧ v.ps.length ≤ 1048576 ∧ ∀ z ∈ v.ps, -9223372036854775808 ≤ z ∧ z ≤ 9223372036854775807 := by
  intro css
  induction css with
  | nil => intro ys _ _ _; exact ⟨[], [], rfl, rfl, rfl, fun i v x hv => by simp at hv, fun v hv => by cases hv⟩
  | cons c css ih =>
   intro ys hl hy hh
   cases ys with
   | nil => simp at hl
   | cons y ys =>
    obtain ⟨v, x, v1, v2, v3⟩ := QmC hT hS hti hte hc (hh 0 c y rfl rfl) (hy y (List.mem_cons_self ..))
    obtain ⟨xs, l, k1, k2, k3, k4, k5⟩ := ih ys (by simpa using hl) (fun y' hy' => hy y' (List.mem_cons_of_mem _ hy')) fun i c' y' a b => hh (i + 1) c' y' (by simpa using a) (by simpa using b)
    refine ⟨x :: xs, v :: l, by rw [List.flatten_cons, List.flatMap_cons, k1, v1], by simp [k2], by simp [k3], fun i v' x' hv' hx' => ?_, fun v' hv' => ?_⟩
    ·cases i with
     | zero => simp at hv' hx'; subst hv'; subst hx'; exact v2
     | succ i => exact k4 i v' x' (by simpa using hv') (by simpa using hx')
    ·rcases List.mem_cons.1 hv' with rfl | hv'
     ·exact v3
     ·exact k5 v' hv'
 obtain ⟨xs, l, k1, k2, k3, k4, k5⟩ := key css ys (by omega) (fun y hy => by
  have := Qdp (List.mem_map_of_mem (f := (·.1)) hy)
  omega) fun i c y hc hy => (p6 i c y hc hy).2
 have hsl := Qgo (ys.map (·.1))
 rw [List.length_map] at hsl
 exact ⟨s, l, by simpa [Value.cells] using p0, ⟨xs, by rw [← k1]; exact p4, by omega, k3.symm, by omega, k4⟩, k5⟩
end
theorem QhL {C : Ctx} {H : Heap} (hFm : FmtC C) {s : Sl} {l : List StV} (hs : StL H s l) (hb : ∀ v ∈ l, VBs v.row ∧ vbulks v.row ≤ 1048576 ∧ v.ps.length ≤ 1048576 ∧ ∀ z ∈ v.ps, -9223372036854775808 ≤ z ∧ z ≤ 9223372036854775807) : Q1 C s (fun r _ => r = true) H :=
 Qir hFm hs (Heap.le.refl _) (fun v hv => by
  obtain ⟨h1, h2, h3, h4⟩ := hb v hv
  have := Qi0 v.row
  exact ⟨h1, by omega, by omega, h4⟩) fun _ => rfl
end
end Sx
end
noncomputable section
set_option linter.unusedVariables false
namespace Go.Proofs.YtjafihegefejdaaGreatDoor
open Sx
mutual
theorem Qj8 {H : Type} : ∀ (d : DataW H), sizeD d ≤ Rows.uptoBulk d
 | .lit l => by cases l <;> simp [sizeD, Rows.uptoBulk]
 | .nil => by simp [sizeD, Rows.uptoBulk]
 | .ptr d => by have := Qj8 d; simp only [sizeD, Rows.uptoBulk]; omega
 | .slice e s => by have := Qf7 e; have := Qf7 s; simp only [sizeD, Rows.uptoBulk]; omega
 | .agg p => by have := Qf7 p; simp only [sizeD, Rows.uptoBulk]; omega
 | .iface _ d => by have := Qj8 d; simp only [sizeD, Rows.uptoBulk]; omega
 | .map _ => by simp [sizeD, Rows.uptoBulk]
 | .held _ => by simp [sizeD, Rows.uptoBulk]
theorem Qf7 {H : Type} : ∀ (l : List (DataW H)), sizeDs l ≤ Rows.uptoBulkAll l
 | [] => by simp [sizeDs, Rows.uptoBulkAll]
 | d :: r => by have := Qj8 d; have := Qf7 r; simp only [sizeDs, Rows.uptoBulkAll]; omega
end
theorem Qmz {H : Type} {ds : List (DataW H)} (hk : Rows.uptoSmall H ds = true) {d : DataW H} (hd : d ∈ ds) : sizeD d ≤ 1048576 := by
 have h : Rows.uptoBulkAll ds ≤ 1048576 := of_decide_eq_true hk
 have h1 := Qf7 ds
 have h2 := Qdp hd
 omega
end Go.Proofs.YtjafihegefejdaaGreatDoor
namespace Sx
open Go
end Sx
end

noncomputable section

end

