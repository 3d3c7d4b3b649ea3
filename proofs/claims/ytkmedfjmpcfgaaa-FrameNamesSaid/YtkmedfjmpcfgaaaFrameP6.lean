/-
  The laws FrameWrites and FrameFeeds over the ghost heap.
-/
import Derived.Test.YtkmedfjmpcfgaaaFrameP5
import Derived.Test.YtkmedfjmpcfgaaaFrameU
set_option linter.unusedVariables false
set_option maxRecDepth 10000
namespace Sx
open Go Go.Proofs

section
variable {C : Ctx} {H : Heap}

theorem FrameWrites_ok {s : Str} {K : Bool → Heap → Prop} (k : K true H) : c_law30_FrameWrites C s K H := by
  apply ad_law30_FrameWrites
  unfold sh_law30_FrameWrites
  refine ift.of (fun h => awake_ok k) (fun h => ?_)
  have hl : s.length ≤ 70000 := by simp at h; omega
  have fin : ∀ (a b : Str) (e : Int), a = b → jn (α := Bool) (fun b16 H22 => K b16 H22) (fun J17 => ift ((((iB (crcB s) : Int) == iB (crcB s)) && (a == b)) && ((e : Int) == e)) (c_law30_awake C (fun r20 H21 => J17 r20 H21) H) (J17 false H)) := by
    rintro a _ e rfl
    apply jn.inl
    exact ift_pos (by simp) (awake_ok k)
  by_cases h2 : s.length ≤ 65536
  · refine frame_Write_ok h2 (ref30_Write_ok h2 (frame_Sum_ok (by omega) (ref30_Sum_ok (by omega) ?_)))
    exact fin _ _ _ rfl
  · refine frame_Write_big (by omega) (ref30_Write_big (by omega) (frame_Sum_ok (by omega) (ref30_Sum_ok (by omega) ?_)))
    exact fin _ _ _ rfl

/-- the guard that counts -/
theorem total_ok {α : Type} (f : α → Nat) : ∀ (l : List α) (i : Nat), ((l.take i).map f).sum ≤ (l.map f).sum
  | [], i => by simp
  | a :: l, 0 => by simp
  | a :: l, i + 1 => by simp only [List.take_succ_cons, List.map_cons, List.sum_cons]; have := total_ok f l i; omega
theorem total_succ {α : Type} (f : α → Nat) {l : List α} {i : Nat} {c : α} (h : l[i]? = some c) : ((l.take (i + 1)).map f).sum = ((l.take i).map f).sum + f c := by
  rw [List.take_add_one, h, Option.toList_some, List.map_append, List.sum_append]; simp
theorem flatten_len_sum : ∀ (l : List Str), l.flatten.length = (l.map List.length).sum
  | [] => rfl
  | a :: l => by simp [flatten_len_sum l]

/-- spoiling what is owned -/
theorem spoil_ok {H0 H : Heap} {s : Sl} {cs : List Value} {v : Value} {R : Heap → Prop} (ho : OwnF H0 H 1 s cs) (hl : s.len ≤ 9223372036854775806)
    (k : ∀ H2, H0.le H2 → R H2) :
    lp (α := Int) 0 H (fun x87 J88 H89 =>
      ift (decide ((x87 : Int) < (Sl.len s : Int)))
      (ixa s x87 fun p91 => st (p91.1, p91.2 + (x87 : Int).toNat * 1) v (fun H96 => J88 (w .i64 (x87 + 1)) H96) H89)
      (R H89)) := by
  refine ⟨fun x H' => ∃ (i : Nat) (cs : List Value), x = i ∧ i ≤ s.len ∧ OwnF H0 H' 1 s cs, fun x _ => s.len - x.toNat, ⟨0, cs, rfl, Nat.zero_le _, ho⟩, ?_⟩
  rintro x H' ⟨i, cs, rfl, hi, ho⟩
  refine ift.of (fun h => ?_) (fun h => k _ ho.le)
  have hlt : i < s.len := by simpa using h
  obtain ⟨hcl, hx, hc, ⟨hp, h0⟩ | ⟨b, sp, hp, hb, hcap⟩⟩ := ho.own
  · omega
  refine ⟨(b, 0), hp, hx, by omega, by omega, _, hb, ?_, ?_⟩
  · simp only [List.length_append, Nat.mul_one] at hcl ⊢; simp; omega
  have hw : w .i64 ((i : Int) + 1) = ((i + 1 : Nat) : Int) := w_i64 (by omega) (by omega)
  rw [hw]
  refine ⟨⟨i + 1, cs.set i v, rfl, hlt, ⟨fun x e hx' => ?_, ⟨by simpa using hcl, hx, hc, .inr ⟨b, sp, hp, ?_, by simpa using hcap⟩⟩, ho.fresh⟩⟩, by dsimp only; omega⟩
  · have : x ≠ b := fun e' => by subst e'; have := ho.fresh _ hp; simp only at this; rw [this] at hx'; cases hx'
    rw [Heap.put_ne _ _ _ this]; exact ho.le _ _ hx'
  · rw [Heap.put_same]
    have : i < cs.length := by omega
    simp [this]

/-- the two readers stand alike -/
structure Alike (H : Heap) (b x : Nat) (A : Str) (H' : Heap) : Prop where
  le : H.le H'
  rd : Rd H' b (cut A).2.1 ((cut A).2.2 != 0)
  rf : H' x = some (true, .row [sv A, .int .i64 ((cut A).1.length : Nat), .int .i64 (cut A).2.2])

/-- behind both Feeds -/
theorem feeds_tail {b x : Nat} {A c : Str} {B : List Str} {H48 : Heap} {p r34 r36 r46 s : Sl} {ss : List Sl} {l : List Str} {i : Nat} {e : Int} {R : Heap → Prop} {K : Bool → Heap → Prop} (hal : Alike H b x A H48) (hA : A.length ≤ 1048576) (hb : H b = none) (hx : H x = none)
    (hch : Chunks H p l ss) (hsi : ss[i]? = some s) (hci : l[i]? = some c) (hcl : c.length ≤ 1048576) (hil : i < l.length)
    (h34 : Own H48 1 r34 (bytesV c)) (hl34 : r34.len = c.length) (f34 : ∀ q, r34.p = some q → q.1 ≠ b ∧ q.1 ≠ x ∧ H q.1 = none) (h36 : Own H48 1 r36 (B.map sv)) (f36 : ∀ q, r36.p = some q → q.1 ≠ b ∧ q.1 ≠ x ∧ H q.1 = none)
    (hd : ∀ q r, r34.p = some q → r36.p = some r → r.1 ≠ q.1) (h46 : rdsl H48 r46 (B.map sv)) (hl46 : r46.len = B.length) (hB : B.length ≤ 1048576)
    (k : ∀ H', Alike H b x A H' → R H') :
    jn (α := Bool) (fun x50 H51 =>
      ift x50
      (K false H51)
      (lp (α := Int) 0 H51 (fun x87 J88 H89 =>
      ift (decide ((x87 : Int) < (Sl.len r34 : Int)))
      (ixa r34 x87 fun p91 =>
      st (p91.1, p91.2 + (x87 : Int).toNat * 1) (.int .u8 238) (fun H96 =>
      J88 (w .i64 (x87 + 1)) H96) H89)
      (lp (α := Int) 0 H89 (fun x97 J98 H99 =>
      ift (decide ((x97 : Int) < (Sl.len r36 : Int)))
      (ixa r36 x97 fun p101 =>
      st (p101.1, p101.2 + (x97 : Int).toNat * 1) (sv [115, 112, 111, 105, 108, 116]) (fun H106 =>
      J98 (w .i64 (x97 + 1)) H106) H99)
      (R H99))))))
      (fun J49 => dr H48 fun Hs53 =>
      ift ((e : Int) != e)
      (J49 true H48)
      (c_ref30_Same C r36 r46 (fun r57 H58 =>
      Heap.le Hs53 H58 ∧
      ift (!r57)
      (J49 true H58)
      (b2s r34 (fun t60 =>
      ixa p (i : Int) fun p63 =>
      ldL Hs53 (p63.1, p63.2 + ((i : Int) : Int).toNat * 1) fun x68 =>
      b2s x68 (fun t70 =>
      ift (!(t60 == t70))
      (J49 true H58)
      (c_frame_Reader_Held C (some (b, 0)) (fun r75 H76 =>
      Heap.le Hs53 H76 ∧
      c_ref30_Reader_Held C (some (x, 0)) (fun r78 H79 =>
      Heap.le Hs53 H79 ∧
      ift ((r75 : Int) != r78)
      (J49 true H79)
      (ldI Hs53 .i64 ((x, 0).1, (x, 0).2 + 2) fun x81 =>
      c_frame_Reader_Shut C (some (b, 0)) (fun r84 H85 =>
      Heap.le Hs53 H85 ∧
      J49 (!(r84 == ((x81 : Int) != 0))) H85) H79)) H76) H58)) Hs53) Hs53)) H48)) := by
  have hch2 := hch.le hal.le
  have hpl : p.len = l.length := by rw [hch.len, hch.n]
  obtain ⟨hrc, hrl⟩ := hch2.el i s c hsi hci
  have hl36 : r36.len = B.length := by have := h36.1; simpa using this.symm
  refine ⟨fun v H' => v = false ∧ H48 = H', ?_, ?_⟩
  · refine ⟨H48, Heap.le.refl _, ift_neg (by simp) ?_⟩
    refine ref30_Same_ok h36.rdsl h46 hl36 hl46 hB ⟨Heap.le.refl _, ift_neg (by simp) ?_⟩
    refine ⟨c, by omega, h34.rdsl, ?_⟩
    refine ix_ldL hch2.rd (j := i) rfl (by omega) (x := s) (by simp [hsi]) ?_
    refine ⟨c, by omega, hrc, ift_neg (by simp) ?_⟩
    refine frame_Held_ok hal.rd ⟨Heap.le.refl _, ?_⟩
    refine ref30_Held_ok hal.rf hA ⟨Heap.le.refl _, ift_neg (by simp) ?_⟩
    refine ⟨(cut A).2.2, by rw [rd_row hal.rf]; rfl, ?_⟩
    refine frame_Shut_ok hal.rd ⟨Heap.le.refl _, ?_⟩
    simp
  · rintro _ _ ⟨rfl, rfl⟩
    refine ift_neg rfl ?_
    refine spoil_ok h34.off (by omega) fun H2 h2 => ?_
    have h36a : Own (H48.off r34) 1 r36 (B.map sv) := by
      obtain ⟨q1, q2, q3, q4 | ⟨bb, sp, hp, hh, hc⟩⟩ := h36
      · exact ⟨q1, q2, q3, .inl q4⟩
      · exact ⟨q1, q2, q3, .inr ⟨bb, sp, hp, Heap.off_some hh (fun q hq e => hd q _ hq hp (by simpa using e.symm)), hc⟩⟩
    refine spoil_ok (h36a.le h2).off (by omega) fun H3 h3 => ?_
    have h36b := h36a.le h2
    refine k H3 ⟨?_, ?_, ?_⟩
    · exact (Heap.le_off ((Heap.le_off hal.le (fun q hq => (f34 q hq).2.2)).trans h2) (fun q hq => (f36 q hq).2.2)).trans h3
    · exact (((hal.rd.off h34 (fun q hq => (f34 q hq).1)).le h2).off h36b (fun q hq => (f36 q hq).1)).le h3
    · exact h3 _ _ (Heap.off_some (h2 _ _ (Heap.off_some hal.rf (fun q hq => (f34 q hq).2.1))) (fun q hq => (f36 q hq).2.1))

theorem FrameFeeds_ok {p : Sl} {l : List Str} {ss : List Sl} {K : Bool → Heap → Prop} (hch : Chunks H p l ss) (hn : l.length ≤ 1152921504606846976) (hls : ∀ c ∈ l, c.length ≤ 1152921504606846976) (k : ∀ H2, H.le H2 → K true H2) : c_law30_FrameFeeds C p K H := by
  apply ad_law30_FrameFeeds
  unfold sh_law30_FrameFeeds
  have hpl : p.len = l.length := by rw [hch.len, hch.n]
  refine ⟨fun x H' => ∃ i : Nat, x = (((l.length + ((l.take i).map List.length).sum : Nat) : Int), (i : Int)) ∧ i ≤ l.length ∧ H = H' ∧ (0 < i → l.length + ((l.take (i - 1)).map List.length).sum < 3000), fun x _ => l.length - x.2.toNat, ⟨0, by simp [hpl], Nat.zero_le _, rfl, fun h => by omega⟩, ?_⟩
  rintro x _ ⟨i, rfl, hi, rfl, hprev⟩
  refine ift.of (fun h => ?_) (fun h => ?_)
  · simp only [Bool.and_eq_true, decide_eq_true_eq] at h
    obtain ⟨hi2, h3⟩ := h
    have hlt : i < l.length := by omega
    have hlts : i < ss.length := by rw [hch.n]; exact hlt
    have hci : l[i]? = some l[i] := by simp [hlt]
    obtain ⟨hrc, hrl⟩ := hch.el i ss[i] _ (by simp [hlts]) hci
    refine ix_ldL hch.rd (j := i) rfl (by omega) (x := ss[i]) (by simp [hlts]) ?_
    have hc := hls l[i] (List.getElem_mem hlt)
    have hsum := total_succ List.length hci
    have e1 : w .i64 (((l.length + ((l.take i).map List.length).sum : Nat) : Int) + (ss[i].len : Int)) = ((l.length + ((l.take (i + 1)).map List.length).sum : Nat) : Int) := by
      rw [w_i64 (by omega) (by omega)]; omega
    have e2 : w .i64 ((i : Int) + 1) = ((i + 1 : Nat) : Int) := w_i64 (by omega) (by omega)
    dsimp only
    rw [e1, e2]
    exact ⟨⟨i + 1, rfl, hlt, rfl, fun _ => by simp only [Nat.add_sub_cancel]; omega⟩, by omega⟩
  simp only [Bool.and_eq_false_iff, decide_eq_false_iff_not] at h
  refine ift.of (fun h3 => awake_ok (k H (Heap.le.refl H))) (fun h3 => ?_)
  simp only [decide_eq_false_iff_not] at h3
  have hi2 : i = l.length := by omega
  subst hi2
  rw [List.take_length] at h3
  have htot : l.length + (l.map List.length).sum < 3000 := by omega
  clear h h3 hprev hi
  have hfl := flatten_len_sum l
  refine frame_New_ok fun b Ha hb hlea hrda => ?_
  intro x hx
  refine ift_neg rfl ?_
  have hxb : x ≠ b := fun e => by
    obtain ⟨s, h1, _⟩ := hrda
    rw [← e, hx] at h1; cases h1
  have hxH : H x = none := hlea.none hx
  have hpos : ∀ A H', Alike H b x A H' → H' b ≠ none ∧ H' x ≠ none := fun A H' hal => by
    obtain ⟨s, h1, _⟩ := hal.rd
    rw [h1, hal.rf]; simp
  refine ⟨fun v H' => ∃ (i : Nat) (A : Str), v = (i : Int) ∧ i ≤ l.length ∧ A.length ≤ (l.take i).flatten.length ∧ Alike H b x A H', fun v _ => l.length - v.toNat, ⟨0, [], rfl, Nat.zero_le _, by simp, ?_⟩, ?_⟩
  · have h0 : cut [] = ([], [], 0) := cut_short (by simp)
    refine ⟨hlea.trans (Heap.le_put hx), ?_, ?_⟩
    · rw [h0]; exact hrda.le (Heap.le_put hx)
    · rw [h0, Heap.put_same]; rfl
  rintro v H23 ⟨i, A, rfl, hi, hA, hal⟩
  refine ift.of (fun h => ?_) (fun h => awake_ok (k _ hal.le))
  have hlt : i < l.length := by simp at h; omega
  clear h
  have hlts : i < ss.length := by rw [hch.n]; exact hlt
  have hci : l[i]? = some l[i] := by simp [hlt]
  have hsi : ss[i]? = some ss[i] := by simp [hlts]
  have hfi := flatten_take_len l i
  have hfi1 := flatten_take_len l (i + 1)
  have hfs := flatten_take_succ hci
  rw [hfs, List.length_append] at hfi1
  intro b25 h25
  have hch26 := hch.le (hal.le.trans (Heap.le_put (g := .row []) (m := true) h25))
  obtain ⟨hrc, hrl⟩ := hch26.el i _ _ hsi hci
  refine ix_ldL hch26.rd (j := i) rfl (by omega) (x := ss[i]) (by simp [hlts]) ?_
  refine apS_ownF (zc := [.int .u8 0]) (cs := []) (ys := bytesV l[i]) (H0 := H23) ⟨Heap.le_put h25, ⟨by simp, rfl, Nat.le_refl _, .inr ⟨b25, [], rfl, Heap.put_same .., by simp⟩⟩, fun q hq => (by simp only [Option.some.injEq] at hq; subst hq; exact h25)⟩ hrc (by simp [bytesV, hrl]) (bytes_one _) (by dsimp only; omega) (by dsimp only; omega) fun r34 H35 ho34 hl34 => ?_
  rw [List.nil_append] at ho34
  have hl34' : r34.len = l[i].length := by rw [hl34, hrl]; simp
  have halr : ∀ H', Alike H b x A H' → ∀ A', A' = A → Alike H b x A' H' := fun H' h A' e => by subst e; exact h
  have hnext : ∀ A', A'.length ≤ (l.take i).flatten.length + l[i].length → ∀ H', Alike H b x A' H' → (fun v' H' => (fun v H' => ∃ (i : Nat) (A : Str), v = (i : Int) ∧ i ≤ l.length ∧ A.length ≤ (l.take i).flatten.length ∧ Alike H b x A H') v' H' ∧ (fun (v : Int) (_ : Heap) => l.length - v.toNat) v' H' < (fun (v : Int) (_ : Heap) => l.length - v.toNat) (i : Int) H23) (w .i64 ((i : Int) + 1)) H' := by
    intro A' hA' H' hal'
    have hw : w .i64 ((i : Int) + 1) = ((i + 1 : Nat) : Int) := w_i64 (by omega) (by omega)
    rw [hw]
    exact ⟨⟨i + 1, A', rfl, hlt, by rw [hfs, List.length_append]; exact hA', hal'⟩, by dsimp only; omega⟩
  have hf34 : ∀ q, r34.p = some q → q.1 ≠ b ∧ q.1 ≠ x ∧ H q.1 = none := fun q hq => by
    have h0 := ho34.fresh q hq
    have := hpos A H23 hal
    exact ⟨fun e => this.1 (by rw [← e]; exact h0), fun e => this.2 (by rw [← e]; exact h0), hal.le.none h0⟩
  have hal35 : Alike H b x A H35 := ⟨hal.le.trans ho34.le, hal.rd.le ho34.le, ho34.le _ _ hal.rf⟩
  have hbA := cut_len A
  by_cases hwhy : (cut A).2.2 = 0
  · have happ := cut_append l[i] A hwhy
    have hrd := hal35.rd
    rw [hwhy] at hrd
    have hlr := cut_rest A
    have hAc := cut_len (A ++ l[i])
    refine frame_Feed_ok (held := (cut A).2.1) (c := l[i]) hrd ho34.own.rdsl hl34' (by rw [List.length_append]; omega) fun a H38 hb38 hrd38 hown38 hfr38 => ?_
    have hrf38 := hb38 _ _ hxb hal35.rf
    rw [hwhy] at hrf38
    have hle38 := hal35.le.of_but hb38 hb
    have hch38 := hch.le hle38
    refine ix_ldL hch38.rd (j := i) rfl (by omega) (x := ss[i]) (by simp [hlts]) ?_
    obtain ⟨hrc38, _⟩ := hch38.el i _ _ hsi hci
    refine ref30_Feed_ok (s := A) (c := l[i]) (n := (cut A).1.length) hrf38 hrc38 hrl (by rw [List.length_append]; omega) (by rw [happ]; simp) fun o H48 hb48 hrow48 hrd48 hl48 => ?_
    have eB : (cut (A ++ l[i])).1.drop (cut A).1.length = (cut ((cut A).2.1 ++ l[i])).1 := by rw [happ]; simp
    have e2 : (cut (A ++ l[i])).2 = (cut ((cut A).2.1 ++ l[i])).2 := by rw [happ]
    have hclen := cut_len ((cut A).2.1 ++ l[i])
    rw [List.length_append] at hclen hAc
    rw [eB] at hrd48 hl48
    rw [← e2] at hrd38 ⊢
    have f36 : ∀ q, a.p = some q → q.1 ≠ b ∧ q.1 ≠ x ∧ H q.1 = none := fun q hq => by
      have h0 := hfr38 q hq
      have := hpos A H35 hal35
      exact ⟨fun e => this.1 (by rw [← e]; exact h0), fun e => this.2 (by rw [← e]; exact h0), hal35.le.none h0⟩
    have hrdx : H38.ext H48 := fun q g hq => hb48 q _ (fun e => by subst e; rw [hrf38] at hq; cases hq) hq
    refine feeds_tail (A := A ++ l[i]) (c := l[i]) (B := (cut ((cut A).2.1 ++ l[i])).1) (s := ss[i]) ⟨hle38.of_but hb48 hxH, ?_, hrow48⟩ (by rw [List.length_append]; omega) hb hxH hch hsi hci (by omega) hlt
      ((ho34.own.but hb38 (fun q hq => (hf34 q hq).1)).but hb48 (fun q hq => (hf34 q hq).2.1)) hl34' hf34 (hown38.but hb48 (fun q hq => (f36 q hq).2.1)) f36 ?_ hrd48 hl48 (by omega) (hnext (A ++ l[i]) (by rw [List.length_append]; omega))
    · exact hrd38.but hb48 (Ne.symm hxb) hrdx
    · intro q r hq hr e
      obtain ⟨g, hg⟩ := ho34.own.mine hq
      have := hfr38 r hr
      rw [e, hg] at this; cases this
  · have hsh : ((cut A).2.2 != 0) = true := by simpa using hwhy
    have hrd := hal35.rd
    rw [hsh] at hrd
    refine frame_Feed_shut hrd ?_
    have hch35 := hch.le hal35.le
    refine ix_ldL hch35.rd (j := i) rfl (by omega) (x := ss[i]) (by simp [hlts]) ?_
    refine ref30_Feed_shut hal35.rf hwhy ?_
    exact feeds_tail (A := A) (c := l[i]) (B := []) (s := ss[i]) hal35 (by omega) hb hxH hch hsi hci (by omega) hlt ho34.own hl34' hf34 (Own.nil _ _) (fun q hq => by cases hq) (fun q r _ hr => by cases hr) (.inl rfl) rfl (by simp) (hnext A (by omega))
end
end Sx
