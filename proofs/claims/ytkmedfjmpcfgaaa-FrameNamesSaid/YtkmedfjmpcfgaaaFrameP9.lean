/-
  The law FrameChunks over the ghost heap.
-/
import Derived.Test.YtkmedfjmpcfgaaaFrameP8
set_option linter.unusedVariables false
set_option maxRecDepth 10000
namespace Sx
open Go Go.Proofs

/-- parts of bytes, each in memory -/
def Els (H : Heap) (ss : List Sl) (l : List Str) : Prop := ss.length = l.length ∧ ∀ (i : Nat) (s : Sl) (c : Str), ss[i]? = some s → l[i]? = some c → rdsl H s (bytesV c) ∧ s.len = c.length
theorem Els.snoc {H : Heap} {ss : List Sl} {l : List Str} (h : Els H ss l) {s : Sl} {c : Str} (hs : rdsl H s (bytesV c)) (hl : s.len = c.length) : Els H (ss ++ [s]) (l ++ [c]) := by
  refine ⟨by simp [h.1], fun i t d ht hd => ?_⟩
  by_cases hi : i < ss.length
  · rw [List.getElem?_append_left hi] at ht
    rw [List.getElem?_append_left (by rw [← h.1]; exact hi)] at hd
    exact h.2 i t d ht hd
  · rw [List.getElem?_append_right (by omega)] at ht
    rw [List.getElem?_append_right (by rw [← h.1]; omega)] at hd
    have h0 : i - ss.length = 0 := by
      have := (List.getElem?_eq_some_iff.1 ht).1
      simp at this; omega
    rw [h0] at ht
    rw [← h.1, h0] at hd
    simp at ht hd
    subst ht; subst hd
    exact ⟨hs, hl⟩
theorem Els.chunks {H H2 : Heap} {ss : List Sl} {l : List Str} (h : Els H ss l) (hle : H.le H2) {p : Sl} (hr : rdsl H2 p (ss.map slv)) (hp : p.len = ss.length) : Chunks H2 p l ss :=
  ⟨hr, hp, h.1, fun i s c hs hc => ⟨rdsl_le hle (h.2 i s c hs hc).1, (h.2 i s c hs hc).2⟩⟩

/-- a part of bytes -/
theorem part_of {H : Heap} {p : Sl} {a : Str} (hr : rdsl H p (bytesV a)) (hp : p.len = a.length) (hc : p.len ≤ p.cap) (lo hi : Nat) (h1 : lo ≤ hi) (h2 : hi ≤ a.length) :
    rdsl H ⟨if (p.cap : Int) = (lo : Int) then p.p else p.p.map (fun q => (q.1, q.2 + (lo : Int).toNat * 1)), ((hi : Int) - (lo : Int)).toNat, ((p.cap : Int) - (lo : Int)).toNat, if (p.cap : Int) = (lo : Int) ∨ (lo : Int).toNat * 1 = 0 then p.x else none⟩ (bytesV ((a.drop lo).take (hi - lo))) := by
  have hbl : (bytesV a).length = a.length := bytesV_length a
  have h := rdsl_slice hr (lo := (lo : Int)) (hi := (hi : Int)) (mx := (p.cap : Int)) (z := 1) (by omega) (by omega) (by omega) (by omega)
  have e : bytesV ((a.drop lo).take (hi - lo)) = ((bytesV a).drop ((lo : Int).toNat * 1)).take (((hi : Int) - (lo : Int)).toNat * 1) := by
    rw [show (lo : Int).toNat * 1 = lo by omega, show ((hi : Int) - (lo : Int)).toNat * 1 = hi - lo by omega, bytesV_drop, bytesV_take]
  rw [e]
  exact h
theorem take_part (a : Str) {lo hi : Nat} (h : lo ≤ hi) : a.take lo ++ (a.drop lo).take (hi - lo) = a.take hi := by
  rw [← List.take_add]; congr 1; omega

section
variable {C : Ctx} {H : Heap}

theorem FrameChunks_ok {p q : Sl} {a m : Str} {K : Bool → Heap → Prop} (hr : rdsl H p (bytesV a)) (hp : p.len = a.length) (hc : p.len ≤ p.cap) (hm : p.cap ≤ maxLen) (hq : rdsl H q (bytesV m)) (hql : q.len = m.length) (hb : q.len ≤ 1048576) (k : ∀ H2, H.le H2 → K true H2) : c_law30_FrameChunks C p q K H := by
  apply ad_law30_FrameChunks
  unfold sh_law30_FrameChunks
  by_cases hl : 1000 < a.length
  · refine ⟨fun v H' => v = true ∧ H = H', ift_pos (decide_eq_true (by omega)) ⟨rfl, rfl⟩, ?_⟩
    rintro _ _ ⟨rfl, rfl⟩
    exact ift_pos rfl (awake_ok (k H (Heap.le.refl H)))
  refine ⟨fun v H' => v = false ∧ H = H', ift_neg (decide_eq_false (by omega)) (awake_ok ⟨rfl, rfl⟩), ?_⟩
  rintro _ _ ⟨rfl, rfl⟩
  refine ift_neg rfl ?_
  refine ⟨fun x H' => ∃ (i at_ : Nat) (ss : List Sl) (l : List Str), x.2 = ((at_ : Int), (i : Int)) ∧ i ≤ m.length ∧ ss.length ≤ i ∧ at_ ≤ a.length ∧ OwnF H H' 1 x.1 (ss.map slv) ∧ Els H ss l ∧ l.flatten = a.take at_, fun x _ => m.length - x.2.2.toNat,
    ⟨0, 0, [], [], rfl, Nat.zero_le _, Nat.zero_le _, Nat.zero_le _, OwnF.nil H 1, ⟨rfl, fun i s c hs => by simp at hs⟩, by simp⟩, ?_⟩
  rintro ⟨ch, x2⟩ H' ⟨i, at_, ss, l, hx2, hi, hssi, hat, ho, hels, hfl⟩
  dsimp only at hx2 ho
  subst hx2
  dsimp only
  have hchl : ch.len = ss.length := by have := ho.own.1; simpa using this.symm
  refine ift.of (fun h => ?_) (fun h => ?_)
  · simp only [Bool.and_eq_true, decide_eq_true_eq] at h
    obtain ⟨h1, h2⟩ := h
    have hlt : i < m.length := by omega
    refine ix_ldI (rdsl_le ho.le hq) (j := i) rfl (by omega) (bytes_at hlt) ?_
    have hu := u8_lt (m.getD i 0)
    generalize (m.getD i 0).toNat = u at *
    have e1 : w .i64 (u : Int) = (u : Int) := w_i64 (by omega) (by omega)
    have e2 : w .i64 ((at_ : Int) + (u : Int)) = ((at_ + u : Nat) : Int) := by rw [w_i64 (by omega) (by omega)]; omega
    have e3 : w .i64 ((i : Int) + 1) = ((i + 1 : Nat) : Int) := w_i64 (by omega) (by omega)
    rw [e1, e2, e3]
    clear e1 e2 e3
    obtain ⟨to, hto, hto1, hto2⟩ : ∃ to : Nat, (if (p.len : Int) < ((at_ + u : Nat) : Int) then (p.len : Int) else ((at_ + u : Nat) : Int)) = (to : Int) ∧ at_ ≤ to ∧ to ≤ a.length := by
      by_cases hh : (p.len : Int) < ((at_ + u : Nat) : Int)
      · exact ⟨p.len, by rw [if_pos hh], by omega, by omega⟩
      · exact ⟨at_ + u, by rw [if_neg hh], by omega, by omega⟩
    rw [hto]
    refine ⟨by omega, by omega, by omega, by omega, _, rfl, ?_⟩
    refine apd_ownF (zc := [slv Sl.nil]) ho rfl (by omega) (by omega) fun r H2 ho2 hrl => ?_
    refine ⟨⟨i + 1, to, ss ++ [_], l ++ [(a.drop at_).take (to - at_)], rfl, by omega, by simp; omega, hto2, by rw [List.map_append]; exact ho2, hels.snoc (part_of hr hp hc at_ to hto1 hto2) (by simp; omega), ?_⟩, by omega⟩
    rw [List.flatten_append, hfl]; simp [take_part a hto1]
  · refine ⟨by omega, by omega, by omega, by omega, _, rfl, ?_⟩
    refine apd_ownF (zc := [slv Sl.nil]) ho rfl (by omega) (by omega) fun r H2 ho2 hrl => ?_
    intro b39 h39
    have hpart := part_of hr hp hc at_ a.length hat (Nat.le_refl _)
    rw [← hp] at hpart
    have hels2 := hels.snoc hpart (by simp; omega)
    have hflat : (l ++ [(a.drop at_).take (p.len - at_)]).flatten = a := by
      rw [List.flatten_append, hfl, hp]; simp [take_part a hat]
    have hle2 : H.le (H2.put b39 (.row [slv p])) := ho2.le.trans (Heap.le_put h39)
    refine law30_fed_ok (l := [a]) (chunks_one (Heap.put_same ..) (rdsl_le hle2 hr) hp) (by simp; omega) (by simp) fun o1 H4 ho4 => ?_
    have hle4 : H.le H4 := hle2.trans ho4.le
    have hr2 := rdsl_le ((Heap.le_put h39).trans ho4.le) ho2.own.rdsl
    refine law30_fed_ok (l := l ++ [(a.drop at_).take (p.len - at_)]) (hels2.chunks hle4 (by rw [List.map_append]; exact hr2) (by simp; omega)) (by rw [hflat]; omega) (by rw [← hels2.1]; simp; omega) fun o2 H5 ho5 => ?_
    rw [hflat] at ho5 ⊢
    simp only [List.flatten_cons, List.flatten_nil, List.append_nil] at ho4 ⊢
    have hl1 : o1.len = (cut a).1.length := by have := ho4.own.1; simpa using this.symm
    have hl2 : o2.len = (cut a).1.length := by have := ho5.own.1; simpa using this.symm
    have hcl := cut_len a
    refine ref30_Same_ok (rdsl_le ho5.le ho4.own.rdsl) ho5.own.rdsl hl1 hl2 (by omega) ?_
    have := k H5 (hle4.trans ho5.le)
    simpa using this
end
end Sx
