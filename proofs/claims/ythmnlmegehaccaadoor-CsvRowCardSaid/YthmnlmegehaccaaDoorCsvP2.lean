/-
  What csv.Read and the document's reader hand back.
-/
import Derived.Test.YthmnlmegehaccaaDoorCsvP1
set_option linter.unusedVariables false
set_option linter.unusedSimpArgs false
set_option maxRecDepth 10000
namespace Sx
open Go Go.Proofs

theorem u8eq (c : UInt8) (n : Nat) (hn : n < 256) : ((c.toNat : Int) == (n : Int)) = decide (c = UInt8.ofNat n) := by
  rw [Bool.eq_iff_iff]; simp only [decide_eq_true_eq, beq_iff_eq]
  constructor
  · intro h; exact UInt8.toNat_inj.1 (by rw [UInt8.toNat_ofNat']; omega)
  · rintro rfl; rw [UInt8.toNat_ofNat']; omega
theorem e34 (c : UInt8) : ((c.toNat : Int) == 34) = decide (c = 34) := u8eq c 34 (by omega)
theorem e44 (c : UInt8) : ((c.toNat : Int) == 44) = decide (c = 44) := u8eq c 44 (by omega)
theorem e13 (c : UInt8) : ((c.toNat : Int) == 13) = decide (c = 13) := u8eq c 13 (by omega)
theorem e10 (c : UInt8) : ((c.toNat : Int) == 10) = decide (c = 10) := u8eq c 10 (by omega)
theorem n34 (c : UInt8) : ((c.toNat : Int) != 34) = !decide (c = 34) := by rw [bne, e34]
theorem n44 (c : UInt8) : ((c.toNat : Int) != 44) = !decide (c = 44) := by rw [bne, e44]
theorem n13 (c : UInt8) : ((c.toNat : Int) != 13) = !decide (c = 13) := by rw [bne, e13]
theorem n10 (c : UInt8) : ((c.toNat : Int) != 10) = !decide (c = 10) := by rw [bne, e10]

theorem Outs.down {D D2 A : Heap} {so sr : Sl} {l : List (List Str)} {cur : List Str} (h : Outs D A so l sr cur) (hle : D2.le D) : Outs D2 A so l sr cur := by
  obtain ⟨⟨ss, h1, h2, h3⟩, h4, h5, h6, h7⟩ := h
  exact ⟨⟨ss, h1, h2, fun i t r a b => by obtain ⟨q1, q2, q3⟩ := h3 i t r a b; exact ⟨q1, q2.le hle, q3⟩⟩, h4.le hle, h5, h6.le hle, h7⟩
theorem Outs.drop {D A : Heap} {so sr : Sl} {l : List (List Str)} {cur : List Str} (h : Outs D A so l sr cur) : Outs D A so l Sl.nil [] := by
  obtain ⟨⟨ss, h1, h2, h3⟩, h4, h5, h6, h7⟩ := h
  exact ⟨⟨ss, h1, h2, fun i t r a b => by obtain ⟨q1, q2, q3, q4⟩ := h3 i t r a b; exact ⟨q1, q2, q3, Dj.nil _⟩⟩, h4, Own.nil _ _, Fresh.nil _, Dj.nil _⟩

/-- the places of csv.Read's variables -/
structure Bx (H D : Heap) (b1 b3 b5 b7 b9 b13 : Nat) : Prop where
  le : H.le D
  n1 : H b1 = none
  n3 : H b3 = none
  n5 : H b5 = none
  n7 : H b7 = none
  n9 : H b9 = none
  n13 : H b13 = none
  d1 : ∃ e, D b1 = some e
  d3 : ∃ e, D b3 = some e
  d5 : ∃ e, D b5 = some e
  d7 : ∃ e, D b7 = some e
  d9 : ∃ e, D b9 = some e
  d13 : ∃ e, D b13 = some e
  ne : b1 ≠ b3 ∧ b1 ≠ b5 ∧ b1 ≠ b7 ∧ b1 ≠ b9 ∧ b1 ≠ b13 ∧ b3 ≠ b5 ∧ b3 ≠ b7 ∧ b3 ≠ b9 ∧ b3 ≠ b13 ∧ b5 ≠ b7 ∧ b5 ≠ b9 ∧ b5 ≠ b13 ∧ b7 ≠ b9 ∧ b7 ≠ b13 ∧ b9 ≠ b13

/-- where csv.Read stands -/
structure CI (H D H' : Heap) (b1 b3 b5 b7 b9 b13 : Nat) (s : CS) (so sr : Sl) : Prop where
  le : H.le H'
  dom : Dom D H'
  o1 : H' b1 = some (true, .row [slv so])
  o3 : H' b3 = some (true, .row [slv sr])
  o : Outs D H' so s.out sr s.cur
  bl : IsB tyB tyE H' b5 s.b
  st : H' b7 = some (true, .row [.int .i64 (s.st : Int)])
  op : H' b9 = some (true, .row [.bool s.op])
  fn : H' b13 = some (true, .row [.func (.func 17) (List.toArray []) (List.toArray [pv (some (b3, 0)), pv (some (b5, 0)), pv (some (b7, 0))])])

section
variable {C : Ctx} {H D H' : Heap} {b1 b3 b5 b7 b9 b13 : Nat} {s : CS} {so sr : Sl}

theorem le_put_new {A B : Heap} {b : Nat} {g : GO} {m : Bool} (h : A.le B) (hb : A b = none) : A.le (B.put b g m) := h.put g m hb

theorem CI.putSt (bx : Bx H D b1 b3 b5 b7 b9 b13) (h : CI H D H' b1 b3 b5 b7 b9 b13 s so sr) (n : Nat) : CI H D (H'.put b7 (.row [.int .i64 (n : Int)])) b1 b3 b5 b7 b9 b13 { s with st := n } so sr := by
  have hn := bx.ne
  exact ⟨le_put_new h.le bx.n7, h.dom.put, by rw [Heap.put_ne _ _ _ (by omega)]; exact h.o1, by rw [Heap.put_ne _ _ _ (by omega)]; exact h.o3, h.o.kept (Kept.put bx.d7), h.bl.but (Heap.but.put _ _ _ _) (by omega), Heap.put_same .., by rw [Heap.put_ne _ _ _ (by omega)]; exact h.op, by rw [Heap.put_ne _ _ _ (by omega)]; exact h.fn⟩
theorem CI.putOp (bx : Bx H D b1 b3 b5 b7 b9 b13) (h : CI H D H' b1 b3 b5 b7 b9 b13 s so sr) (v : Bool) : CI H D (H'.put b9 (.row [.bool v])) b1 b3 b5 b7 b9 b13 { s with op := v } so sr := by
  have hn := bx.ne
  exact ⟨le_put_new h.le bx.n9, h.dom.put, by rw [Heap.put_ne _ _ _ (by omega)]; exact h.o1, by rw [Heap.put_ne _ _ _ (by omega)]; exact h.o3, h.o.kept (Kept.put bx.d9), h.bl.but (Heap.but.put _ _ _ _) (by omega), by rw [Heap.put_ne _ _ _ (by omega)]; exact h.st, Heap.put_same .., by rw [Heap.put_ne _ _ _ (by omega)]; exact h.fn⟩
theorem CI.putB (bx : Bx H D b1 b3 b5 b7 b9 b13) (h : CI H D H' b1 b3 b5 b7 b9 b13 s so sr) (v : Str) : CI H D (H'.put b5 (Bd v)) b1 b3 b5 b7 b9 b13 { s with b := v } so sr := by
  have hn := bx.ne
  exact ⟨le_put_new h.le bx.n5, h.dom.put, by rw [Heap.put_ne _ _ _ (by omega)]; exact h.o1, by rw [Heap.put_ne _ _ _ (by omega)]; exact h.o3, h.o.kept (Kept.put bx.d5), IsB.put, by rw [Heap.put_ne _ _ _ (by omega)]; exact h.st, by rw [Heap.put_ne _ _ _ (by omega)]; exact h.op, by rw [Heap.put_ne _ _ _ (by omega)]; exact h.fn⟩

/-- what a slice's growing keeps of the boxes -/
theorem off_get {A B : Heap} {t : Sl} {b : Nat} {e : Bool × GO} (hle : (A.off t).le B) (hf : Fresh D t) (hd : ∃ e, D b = some e) (h : A b = some e) : B b = some e :=
  hle _ _ (Heap.off_some h fun p hp e' => by have := hf p hp; obtain ⟨v, hv⟩ := hd; rw [e', hv] at this; cases this)

theorem Read_1_ok {K : Heap → Prop} (bx : Bx H D b1 b3 b5 b7 b9 b13) (h : CI H D H' b1 b3 b5 b7 b9 b13 s so sr) (hb : s.b.length ≤ 1000000000) (hc : s.cur.length ≤ 1000000000) (k : ∀ H2 r, CI H D H2 b1 b3 b5 b7 b9 b13 s.field so r → K H2) : c_csv_Read_1 C (b3, 0) (b5, 0) (b7, 0) K H' := by
  apply ad_csv_Read_1
  unfold sh_csv_Read_1
  have h1 := h.o1
  have h2 := h.o3
  have h3 := h.o
  have hn := bx.ne
  refine ⟨fun x => if x = b3 then H' b3 else none, fun x e hx => ?_, sr, by simp [rd, h2, GO.cells?], ?_⟩
  · dsimp only at hx; split at hx
    · rename_i e'; subst e'; exact hx
    · cases hx
  have hs : ∀ B : Heap, B b3 = H' b3 → Heap.le (fun x => if x = b3 then H' b3 else none) B := fun B hB x e hx => by
    dsimp only at hx; split at hx
    · rename_i e'; subst e'; rw [hB]; exact hx
    · cases hx
  refine String_ok h.bl (by omega) ⟨hs _ (Heap.put_ne _ _ _ (by omega)), ?_⟩
  have hA := h.putB bx s.b
  have g1 := hA.o1
  have g2 := hA.o3
  have g3 := hA.o
  have hA3 : (H'.put b5 (Bd s.b)) b3 = H' b3 := Heap.put_ne _ _ _ (by omega)
  have hA7 := hA.st
  have hA9 := hA.op
  have hA13 := hA.fn
  have hAl := hA.le
  have hAd := hA.dom
  have hAb := hA.bl
  generalize H'.put b5 (Bd s.b) = A at *
  intro b2 hb2
  have nb : ∀ {b : Nat} {e : Bool × GO}, A b = some e → b ≠ b2 := fun hh e => by subst e; rw [hh] at hb2; cases hb2
  refine ⟨hs _ (by rw [Heap.put_ne _ _ _ (nb g2), hA3]), [sv s.b], .inr ⟨rfl, _, rfl, rds_put_new⟩, by simp [sv, Value.oneCell'], ?_⟩
  have hle2 : A.le (A.put b2 (.row [sv s.b])) := Heap.le_put hb2
  have g4 := g3.kept (Kept.le (D := D) hle2)
  have hdom2 := hAd.le hle2
  refine g4.field hdom2 (by dsimp only; omega) fun r B hO hB => ?_
  have keep : ∀ {b : Nat} {e : Bool × GO}, (∃ e, D b = some e) → A b = some e → B b = some e := fun hd hh => off_get (D := D) hB g4.fr hd (hle2 _ _ hh)
  have B3 := keep bx.d3 g2
  refine ⟨hs _ (by rw [B3, ← hA3, g2]), _, B3, by simp, ?_⟩
  have hBl : H.le B := (hAl.trans hle2 |> fun q => Heap.le_off q (g4.fr.le bx.le)).trans hB
  have hBd : Dom D B := hdom2.off g4.fr hB
  have hBB : IsB tyB tyE B b5 s.b := by
    rcases hAb with q | ⟨q0, q⟩
    · exact .inl (keep bx.d5 q)
    · exact .inr ⟨q0, keep bx.d5 q⟩
  have hci : CI H D (B.put b3 (.row [slv r])) b1 b3 b5 b7 b9 b13 ⟨s.st, s.op, s.out, s.cur ++ [s.b], s.b⟩ so r :=
    ⟨le_put_new hBl bx.n3, hBd.put, by rw [Heap.put_ne _ _ _ (by omega)]; exact keep bx.d1 g1, Heap.put_same .., hO.kept (Kept.put bx.d3), hBB.but (Heap.but.put _ _ _ _) (by omega), by rw [Heap.put_ne _ _ _ (by omega)]; exact keep bx.d7 hA7, by rw [Heap.put_ne _ _ _ (by omega)]; exact keep bx.d9 hA9, by rw [Heap.put_ne _ _ _ (by omega)]; exact keep bx.d13 hA13⟩
  refine Reset_ok hci.bl ?_
  have hci2 := hci.putB bx []
  refine ⟨_, hci2.st, by simp, ?_⟩
  exact k _ _ (hci2.putSt bx 0)

theorem Read_2_ok {K : Heap → Prop} (bx : Bx H D b1 b3 b5 b7 b9 b13) (h : CI H D H' b1 b3 b5 b7 b9 b13 s so sr) (hb : s.b.length ≤ 1000000000) (hc : s.cur.length ≤ 1000000000) (ho : s.out.length ≤ 1000000000) (k : ∀ H2 r, CI H D H2 b1 b3 b5 b7 b9 b13 s.over r Sl.nil → K H2) : c_csv_Read_2 C (b13, 0) (b1, 0) (b3, 0) (b9, 0) K H' := by
  apply ad_csv_Read_2
  unfold sh_csv_Read_2
  have hn := bx.ne
  refine ⟨_, by rw [rd_row h.fn]; rfl, 17, [], [pv (some (b3, 0)), pv (some (b5, 0)), pv (some (b7, 0))], rfl, ok_csv_Read_1, ?_⟩
  refine Read_1_ok (K := fun H3 => _) bx h hb hc fun A r hA => ?_
  refine ⟨so, by simp [rd, hA.o1, GO.cells?], r, by simp [rd, hA.o3, GO.cells?], ?_⟩
  refine hA.o.over hA.dom (by show (s.out.length + 1) * 24 ≤ _; omega) fun r2 B hO hB => ?_
  have keep : ∀ {b : Nat} {e : Bool × GO}, (∃ e, D b = some e) → A b = some e → B b = some e := fun hd hh => off_get (D := D) hB hA.o.fo hd hh
  have hBl : H.le B := (Heap.le_off hA.le (hA.o.fo.le bx.le)).trans hB
  have hBd : Dom D B := hA.dom.off hA.o.fo hB
  have hBB : IsB tyB tyE B b5 s.field.b := by
    rcases hA.bl with q | ⟨q0, q⟩
    · exact .inl (keep bx.d5 q)
    · exact .inr ⟨q0, keep bx.d5 q⟩
  refine ⟨_, keep bx.d1 hA.o1, by simp, _, by rw [Heap.put_ne _ _ _ (by omega)]; exact keep bx.d3 hA.o3, by simp, ?_⟩
  have hci : CI H D ((B.put b1 (.row [slv r2])).put b3 (.row [slv Sl.nil])) b1 b3 b5 b7 b9 b13 ⟨0, s.op, s.out ++ [s.cur ++ [s.b]], [], []⟩ r2 Sl.nil :=
    ⟨le_put_new (le_put_new hBl bx.n1) bx.n3, hBd.put.put, by rw [Heap.put_ne _ _ _ (by omega), Heap.put_same], Heap.put_same .., (hO.kept (Kept.put bx.d1)).kept (Kept.put bx.d3), (hBB.but (Heap.but.put _ _ _ _) (by omega)).but (Heap.but.put _ _ _ _) (by omega),
      by rw [Heap.put_ne _ _ _ (by omega), Heap.put_ne _ _ _ (by omega)]; exact keep bx.d7 hA.st, by rw [Heap.put_ne _ _ _ (by omega), Heap.put_ne _ _ _ (by omega)]; exact keep bx.d9 hA.op, by rw [Heap.put_ne _ _ _ (by omega), Heap.put_ne _ _ _ (by omega)]; exact keep bx.d13 hA.fn⟩
  refine ⟨_, hci.op, by simp, ?_⟩
  exact k _ _ (hci.putOp bx false)

/-- how much a machine holds -/
def CS.size (s : CS) : Nat := s.out.length + s.cur.length + s.b.length
theorem stepC_size {c : UInt8} {nl : Bool} {s s2 : CS} (h : stepC c nl s = some s2) : s2.size ≤ s.size + 1 := by
  unfold stepC at h
  repeat' split at h
  all_goals first | (injection h with h; subst h; simp [CS.size, CS.field, CS.over]; try omega) | cases h

theorem drop_cons {t : Str} {i : Nat} (h : i < t.length) : t.drop i = t.getD i 0 :: t.drop (i + 1) := by
  rw [List.drop_eq_getElem_cons h]; simp [List.getD, h]
theorem headNl_drop (t : Str) (i : Nat) : headNl (t.drop i) = if i < t.length then decide (t.getD i 0 = 10) else false := by
  split
  · rename_i h; rw [drop_cons h]; simp only [headNl]; rfl
  · rename_i h; rw [List.drop_eq_nil_of_le (by omega)]; rfl

theorem put_none {H : Heap} {b x : Nat} {g : GO} {m : Bool} (h : (H.put b g m) x = none) : H x = none ∧ x ≠ b := by
  have hne : x ≠ b := fun e => by subst e; rw [Heap.put_same] at h; cases h
  exact ⟨by rwa [Heap.put_ne _ _ _ hne] at h, hne⟩

theorem csv_Read_ok {t : Str} {K : Sl → Int → Int → Heap → Prop} (hl : t.length ≤ 100000000) (k : ∀ r H2, Recs H H2 r (readC t).1 → K r ((readC t).2.1 : Int) (readC t).2.2 H2) : c_csv_Read C t K H := by
  apply ad_csv_Read
  unfold sh_csv_Read
  intro b1 n1 b3 n3 b5 n5 b7 n7 b9 n9
  obtain ⟨n3, e31⟩ := put_none n3
  obtain ⟨n5, e53⟩ := put_none n5
  obtain ⟨n5, e51⟩ := put_none n5
  obtain ⟨n7, e75⟩ := put_none n7
  obtain ⟨n7, e73⟩ := put_none n7
  obtain ⟨n7, e71⟩ := put_none n7
  obtain ⟨n9, e97⟩ := put_none n9
  obtain ⟨n9, e95⟩ := put_none n9
  obtain ⟨n9, e93⟩ := put_none n9
  obtain ⟨n9, e91⟩ := put_none n9
  refine ⟨_, by rw [Heap.put_ne _ _ _ (Ne.symm e97)]; exact Heap.put_same .., by simp, ?_⟩
  refine ⟨_, by rw [Heap.put_ne _ _ _ e97]; exact Heap.put_same .., by simp, ?_⟩
  intro b13 n13
  obtain ⟨n13, e139⟩ := put_none n13
  obtain ⟨n13, e137⟩ := put_none n13
  obtain ⟨n13, _⟩ := put_none n13
  obtain ⟨n13, _⟩ := put_none n13
  obtain ⟨n13, e135⟩ := put_none n13
  obtain ⟨n13, e133⟩ := put_none n13
  obtain ⟨n13, e131⟩ := put_none n13
  refine ⟨_, Heap.put_same .., by simp, ?_⟩
  dsimp only at *
  have e75' := Ne.symm e75
  obtain ⟨D, hD⟩ : ∃ D, D = Heap.put (Heap.put (Heap.put (Heap.put (Heap.put (Heap.put (Heap.put (Heap.put (Heap.put H b1 (.row [slv Sl.nil])) b3 (.row [slv Sl.nil])) b5 (.trow 42 0 [pv none, slv Sl.nil])) b7 (.row [.int .i64 0])) b9 (.row [.bool false])) b7 (.row ([Value.int .i64 0].set 0 (.int .i64 0)))) b9 (.row ([Value.bool false].set 0 (.bool false)))) b13 (.row [.nilFunc])) b13 (.row ([Value.nilFunc].set 0 (.func (.func 17) (List.toArray []) (List.toArray [pv (some (b3, 0)), pv (some (b5, 0)), pv (some (b7, 0))])))) := ⟨_, rfl⟩
  rw [← hD]
  have q1 : D b1 = some (true, .row [slv Sl.nil]) := by
    rw [hD]; repeat rw [Heap.put_ne _ _ _ (by omega)]
    exact Heap.put_same ..
  have q3 : D b3 = some (true, .row [slv Sl.nil]) := by
    rw [hD]; repeat rw [Heap.put_ne _ _ _ (by omega)]
    exact Heap.put_same ..
  have q5 : D b5 = some (true, .trow tyB 0 [pv none, slv Sl.nil]) := by
    rw [hD]; repeat rw [Heap.put_ne _ _ _ (by omega)]
    exact Heap.put_same ..
  have q7 : D b7 = some (true, .row [.int .i64 ((0 : Nat) : Int)]) := by
    rw [hD]; repeat rw [Heap.put_ne _ _ _ (by omega)]
    exact Heap.put_same ..
  have q9 : D b9 = some (true, .row [.bool false]) := by
    rw [hD]; repeat rw [Heap.put_ne _ _ _ (by omega)]
    exact Heap.put_same ..
  have q13 : D b13 = some (true, .row [.func (.func 17) (List.toArray []) (List.toArray [pv (some (b3, 0)), pv (some (b5, 0)), pv (some (b7, 0))])]) := by rw [hD]; exact Heap.put_same ..
  have hle : H.le D := by
    rw [hD]
    exact le_put_new (le_put_new (le_put_new (le_put_new (le_put_new (le_put_new (le_put_new (le_put_new (le_put_new (Heap.le.refl H) n1) n3) n5) n7) n9) n7) n9) n13) n13
  clear hD
  have bx : Bx H D b1 b3 b5 b7 b9 b13 := ⟨hle, n1, n3, n5, n7, n9, n13, ⟨_, q1⟩, ⟨_, q3⟩, ⟨_, q5⟩, ⟨_, q7⟩, ⟨_, q9⟩, ⟨_, q13⟩, by omega⟩
  have ci0 : CI H D D b1 b3 b5 b7 b9 b13 ⟨0, false, [], [], []⟩ Sl.nil Sl.nil := ⟨hle, Dom.refl D, q1, q3, Outs.nil D D, .inr ⟨rfl, q5⟩, q7, q9, q13⟩
  have hne := bx.ne
  refine ⟨fun _ H18 => ∃ s so sr, CI H D H18 b1 b3 b5 b7 b9 b13 s so sr ∧ finC s = readC t ∧ s.size ≤ 100000000, ?_, ?_⟩
  · refine ⟨fun x H' => ∃ (i : Nat) (s : CS) (so sr : Sl), x = (i : Int) ∧ i ≤ t.length ∧ CI H D H' b1 b3 b5 b7 b9 b13 s so sr ∧ runC s (t.drop i) = readC t ∧ s.size ≤ i, fun x _ => t.length - x.toNat, ⟨0, _, _, _, rfl, Nat.zero_le _, ci0, rfl, Nat.zero_le _⟩, ?_⟩
    rintro x H' ⟨i, s, so, sr, rfl, hi, hci, hrun, hsz⟩
    refine ift.of (fun hc => ?_) (fun hc => ?_)
    rotate_left
    · have hie : i = t.length := by have := of_decide_eq_false hc; omega
      rw [hie, List.drop_length] at hrun
      exact ⟨s, so, sr, hci, hrun, by omega⟩
    have hlt : i < t.length := by have := of_decide_eq_true hc; omega
    have hbs : s.b.length ≤ 1000000000 := by unfold CS.size at hsz; omega
    have hcs : s.cur.length ≤ 1000000000 := by unfold CS.size at hsz; omega
    have hos : s.out.length ≤ 1000000000 := by unfold CS.size at hsz; omega
    rw [drop_cons hlt] at hrun
    simp only [runC] at hrun
    have hnl := headNl_drop t (i + 1)
    refine ⟨fun _ H26 => ∃ s2 so2 sr2, CI H D H26 b1 b3 b5 b7 b9 b13 s2 so2 sr2 ∧ stepC (t.getD i 0) (headNl (t.drop (i + 1))) s = some s2, ?_, ?_⟩
    rotate_left
    · rintro _ H26 ⟨s2, so2, sr2, hci2, hst⟩
      rw [hst] at hrun
      have := stepC_size hst
      rw [w_i64 (by omega) (by omega)]
      exact ⟨⟨i + 1, s2, so2, sr2, by omega, by omega, hci2, hrun, by omega⟩, by dsimp only; omega⟩
    refine ⟨t.getD i 0, by omega, getD_some hlt, ?_⟩
    generalize t.getD i 0 = c at *
    refine ⟨(s.st : Int), by rw [rd_row hci.st]; rfl, ?_⟩
    have est : ∀ n : Nat, (((s.st : Int)) == (n : Int)) = decide (s.st = n) := fun n => by rw [Bool.eq_iff_iff]; simp only [decide_eq_true_eq, beq_iff_eq]; omega
    have est2 := est 2
    rw [show ((2 : Nat) : Int) = 2 from rfl] at est2
    dsimp only
    rw [est2]
    refine ift.of (fun h2 => ?_) (fun h2 => ?_)
    · have h2 := of_decide_eq_true h2
      refine ⟨fun _ H26 => ∃ s2 so2 sr2, CI H D H26 b1 b3 b5 b7 b9 b13 s2 so2 sr2 ∧ stepC c (headNl (t.drop (i + 1))) s = some s2, ?_, fun _ _ h => h⟩
      rw [e34]
      refine ift.of (fun h => ?_) (fun h => ?_)
      · have h := of_decide_eq_true h
        refine ⟨_, hci.st, by simp, ?_⟩
        exact ⟨_, so, sr, hci.putSt bx 3, by simp [stepC, h2, h]⟩
      · have h := of_decide_eq_false h
        refine WriteByte_ok hci.bl (by omega) ?_
        exact ⟨_, so, sr, hci.putB bx _, by simp [stepC, h2, h]⟩
    have h2 := of_decide_eq_false h2
    refine ⟨_, hci.op, by simp, ?_⟩
    have ciO := hci.putOp bx true
    have e0 : H'.put b9 (.row ([Value.bool s.op].set 0 (.bool true))) = H'.put b9 (.row [.bool true]) := rfl
    dsimp only
    rw [e0]
    generalize H'.put b9 (.row [.bool true]) = H3 at *
    rw [e44]
    refine ift.of (fun h => ?_) (fun h44 => ?_)
    · have h := of_decide_eq_true h
      refine ⟨_, by rw [rd_row ciO.fn]; rfl, 17, [], [pv (some (b3, 0)), pv (some (b5, 0)), pv (some (b7, 0))], rfl, ok_csv_Read_1, ?_⟩
      refine Read_1_ok (K := fun H3 => ∃ s2 so2 sr2, CI H D H3 b1 b3 b5 b7 b9 b13 s2 so2 sr2 ∧ stepC c (headNl (t.drop (i + 1))) s = some s2) bx ciO hbs hcs fun A r hA => ?_
      exact ⟨_, so, r, hA, by subst h; simp [stepC, h2, CS.field]⟩
    have h44 := of_decide_eq_false h44
    refine ⟨fun b H59 => H3 = H59 ∧ b = (decide (c = 13) && !headNl (t.drop (i + 1))), ?_, ?_⟩
    · rw [e13]
      refine ift.of (fun h => ?_) (fun h => ⟨rfl, by rw [h]; rfl⟩)
      rw [h]
      refine ⟨fun b H58 => H3 = H58 ∧ b = !headNl (t.drop (i + 1)), ?_, fun b _ hh => ⟨hh.1, by rw [hh.2]; rfl⟩⟩
      rw [w_i64 (by omega) (by omega)]
      refine ift.of (fun hh => ⟨rfl, ?_⟩) (fun hh => ?_)
      · have : i + 1 = t.length := by have : ((i : Int) + 1) = (t.length : Int) := by simpa using hh
                                      omega
        rw [hnl, if_neg (by omega)]; rfl
      · have hlt1 : i + 1 < t.length := by have : ((i : Int) + 1) ≠ (t.length : Int) := by simpa using hh
                                           omega
        refine ⟨t.getD (i + 1) 0, by omega, ?_, rfl, ?_⟩
        · rw [show ((i : Int) + 1).toNat = i + 1 by omega]; exact getD_some hlt1
        · rw [n10, hnl, if_pos hlt1]
    rintro _ _ ⟨rfl, rfl⟩
    refine ift.of (fun h => ?_) (fun h13 => ?_)
    · simp only [Bool.and_eq_true, decide_eq_true_eq, Bool.not_eq_true'] at h
      refine ⟨_, ciO.st, by simp, ?_⟩
      have e1 : stepC c (headNl (t.drop (i + 1))) s = none := by rw [h.1, h.2]; simp [stepC, h2]
      rw [e1] at hrun
      refine ⟨_, so, sr, ciO.putSt bx 2, ?_, ?_⟩
      · rw [← hrun]; simp [finC]
      · unfold CS.size at hsz ⊢; dsimp only; omega
    rw [e13]
    refine ift.of (fun h => ?_) (fun hn13 => ?_)
    · refine ⟨_, so, sr, ciO, ?_⟩
      rw [h, Bool.true_and] at h13
      have h := of_decide_eq_true h
      have hh : headNl (t.drop (i + 1)) = true := by simpa using h13
      rw [hh, h]; simp [stepC, h2]
    have hn13 := of_decide_eq_false hn13
    rw [e10]
    refine ift.of (fun h => ?_) (fun hn10 => ?_)
    · have h := of_decide_eq_true h
      refine Read_2_ok bx ciO hbs hcs hos fun A r hA => ?_
      exact ⟨_, r, Sl.nil, hA, by rw [h]; simp [stepC, h2, CS.over]⟩
    have hn10 := of_decide_eq_false hn10
    have rst : rd H3 (b7, 0) = some (.int .i64 (s.st : Int)) := by rw [rd_row ciO.st]; rfl
    have est0 := est 0
    rw [show ((0 : Nat) : Int) = 0 from rfl] at est0
    have est3 := est 3
    rw [show ((3 : Nat) : Int) = 3 from rfl] at est3
    refine ⟨fun b H59 => H3 = H59 ∧ b = (decide (c = 34) && decide (s.st = 0)), ?_, ?_⟩
    · rw [e34]
      refine ift.of (fun h => ?_) (fun h => ⟨rfl, by rw [h]; rfl⟩)
      exact ⟨_, rst, rfl, by rw [h, est0]; rfl⟩
    rintro _ _ ⟨rfl, rfl⟩
    refine ift.of (fun h => ?_) (fun ha => ?_)
    · simp only [Bool.and_eq_true, decide_eq_true_eq] at h
      refine ⟨_, ciO.st, by simp, ?_⟩
      exact ⟨_, so, sr, ciO.putSt bx 2, by rw [h.1]; simp [stepC, h2, h.2]⟩
    refine ⟨fun b H59 => H3 = H59 ∧ b = (decide (c = 34) && decide (s.st = 3)), ?_, ?_⟩
    · rw [e34]
      refine ift.of (fun h => ?_) (fun h => ⟨rfl, by rw [h]; rfl⟩)
      exact ⟨_, rst, rfl, by rw [h, est3]; rfl⟩
    rintro _ _ ⟨rfl, rfl⟩
    refine ift.of (fun h => ?_) (fun hb => ?_)
    · simp only [Bool.and_eq_true, decide_eq_true_eq] at h
      refine WriteByte_ok ciO.bl (by dsimp only; omega) ?_
      have ciB := ciO.putB bx (s.b ++ [c])
      refine ⟨_, ciB.st, by simp, ?_⟩
      exact ⟨_, so, sr, ciB.putSt bx 2, by rw [h.1]; simp [stepC, h2, h.2]⟩
    refine ⟨fun b H59 => H3 = H59 ∧ b = (decide (c = 34) || decide (s.st = 3)), ?_, ?_⟩
    · rw [e34]
      refine ift.of (fun h => ⟨rfl, by rw [h]; rfl⟩) (fun h => ?_)
      exact ⟨_, rst, rfl, by rw [h, est3]; rfl⟩
    rintro _ _ ⟨rfl, rfl⟩
    refine ift.of (fun h => ?_) (fun hd => ?_)
    · refine ⟨_, ciO.st, by simp, ?_⟩
      have e1 : stepC c (headNl (t.drop (i + 1))) s = none := by
        by_cases h34 : c = 34
        · have h0 : s.st ≠ 0 := by simpa [h34] using ha
          have h3 : s.st ≠ 3 := by simpa [h34] using hb
          rw [h34]; simp [stepC, h2, h0, h3]
        · have h3 : s.st = 3 := by simpa [h34] using h
          simp [stepC, h3, h44, hn13, hn10, h34]
      rw [e1] at hrun
      refine ⟨_, so, sr, ciO.putSt bx 2, ?_, ?_⟩
      · rw [← hrun]; simp [finC]
      · unfold CS.size at hsz ⊢; dsimp only; omega
    · simp only [Bool.or_eq_false_iff, decide_eq_false_iff_not] at hd
      refine WriteByte_ok ciO.bl (by dsimp only; omega) ?_
      have ciB := ciO.putB bx (s.b ++ [c])
      refine ⟨_, ciB.st, by simp, ?_⟩
      exact ⟨_, so, sr, ciB.putSt bx 1, by simp [stepC, h2, h44, hn13, hn10, hd.1, hd.2]⟩
  · rintro _ H18 ⟨s, so, sr, hci, hfin, hsz⟩
    refine ⟨(s.st : Int), by rw [rd_row hci.st]; rfl, ?_⟩
    have est2 : (((s.st : Int)) == 2) = decide (s.st = 2) := by rw [Bool.eq_iff_iff]; simp only [decide_eq_true_eq, beq_iff_eq]; omega
    dsimp only
    rw [est2]
    have hos : so.len = s.out.length := by obtain ⟨ss, h1, h2, _⟩ := hci.o.out; have := h1.len1; simp at this; omega
    refine ift.of (fun h => ?_) (fun h => ?_)
    · have h := of_decide_eq_true h
      refine ⟨so, by rw [rd_row hci.o1]; rfl, ?_⟩
      have e1 : readC t = ([], s.out.length, 4) := by rw [← hfin]; simp [finC, h]
      have hk := k Sl.nil H18
      rw [e1] at hk
      dsimp only at hk ⊢
      rw [hos]
      exact hk ⟨hci.le, Outs.nil _ _⟩
    have h := of_decide_eq_false h
    refine ⟨fun _ H104 => ∃ s2 so2 sr2, CI H D H104 b1 b3 b5 b7 b9 b13 s2 so2 sr2 ∧ readC t = (s2.out, 0, 0), ?_, ?_⟩
    · refine ⟨s.op, by rw [rd_row hci.op]; rfl, ?_⟩
      refine ift.of (fun ho => ?_) (fun ho => ?_)
      · refine Read_2_ok bx hci (by unfold CS.size at hsz; omega) (by unfold CS.size at hsz; omega) (by unfold CS.size at hsz; omega) fun A r hA => ?_
        exact ⟨_, r, Sl.nil, hA, by rw [← hfin]; simp [finC, h, ho]⟩
      · exact ⟨s, so, sr, hci, by rw [← hfin]; simp [finC, h, ho]⟩
    · rintro _ H104 ⟨s2, so2, sr2, hci2, e1⟩
      refine ⟨so2, by rw [rd_row hci2.o1]; rfl, ?_⟩
      have hk := k so2 H104
      rw [e1] at hk
      exact hk ⟨hci2.le, (hci2.o.down bx.le).drop⟩
end
end Sx
