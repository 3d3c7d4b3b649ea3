/-
  More user-level lemmas: growing slices, bytes, loops' sums, slices of arguments.
-/
import Derived.Test.YtlpjpjbgfffffaaDoorSxBld
set_option linter.unusedVariables false
namespace Sx
open Go

def Heap.off (s : Sl) (H : Heap) : Heap := fun x => if s.p.map (fun p => p.1) = some x then none else H x
theorem Heap.off_le (s : Sl) (H : Heap) : (H.off s).le H := fun x e h => by
  unfold Heap.off at h
  split at h
  · cases h
  · exact h
theorem Heap.off_fresh (s : Sl) (H : Heap) : Fresh (H.off s) s := fun p hp => by
  unfold Heap.off; rw [if_pos (by rw [hp]; rfl)]
theorem Heap.off_some {s : Sl} {H : Heap} {x : Nat} {e : Bool × GO} (h : H x = some e) (hx : ∀ p, s.p = some p → p.1 ≠ x) : (H.off s) x = some e := by
  unfold Heap.off
  rw [if_neg]
  · exact h
  · intro hh
    obtain ⟨p, hp, rfl⟩ := Option.map_eq_some_iff.1 hh
    exact hx p hp rfl
theorem Heap.le_off {A H : Heap} {s : Sl} (h : A.le H) (hf : Fresh A s) : A.le (H.off s) := fun x e hx => Heap.off_some (h x e hx) fun p hp e' => by
  have := hf p hp
  rw [e', hx] at this; cases this
theorem Own.off {H : Heap} {z : Nat} {s : Sl} {cs : List Value} (h : Own H z s cs) : OwnF (H.off s) H z s cs := ⟨Heap.off_le s H, h, Heap.off_fresh s H⟩
theorem Own.mine {H : Heap} {z : Nat} {s : Sl} {cs : List Value} (h : Own H z s cs) {p : Nat × Nat} (hp : s.p = some p) : ∃ g, H p.1 = some (true, g) := by
  obtain ⟨_, _, _, ⟨h0, _⟩ | ⟨b, sp, hb, hh, _⟩⟩ := h
  · rw [h0] at hp; cases hp
  · rw [hb] at hp; injection hp with hp; subst hp; exact ⟨_, hh⟩
theorem Heap.le.of_but {A B D : Heap} {b : Nat} (h : A.le B) (h2 : Heap.but b B D) (hb : A b = Option.none) : A.le D := fun x e hx => h2 x e (fun e' => by subst e'; rw [hb] at hx; cases hx) (h x e hx)
theorem Heap.ext.of_but {A B : Heap} {b : Nat} {g : GO} (h : Heap.but b A B) (hb : A b = some (true, g)) : A.ext B := fun x g' hx => h x _ (fun e => by subst e; rw [hb] at hx; cases hx) hx

theorem apS_ownF {H0 H : Heap} {zc : List Value} {bytes : Nat} {s t : Sl} {cs ys : List Value} {K : Sl → Heap → Prop} (h : OwnF H0 H zc.length s cs) (ht : rdsl H t ys) (hy : ys.length = t.len * zc.length) (h1 : ∀ u ∈ ys, u.oneCell' = true)
    (hb : (s.len + t.len) * bytes ≤ 140737488355328) (h63 : s.len + t.len ≤ 9223372036854775807) (k : ∀ r H2, OwnF H0 H2 zc.length r (cs ++ ys) → r.len = s.len + t.len → K r H2) : apS zc bytes s t K H :=
  ⟨ys, ht, h1, apd_ownF h hy hb h63 k⟩

theorem bytes_one (s : Str) : ∀ u ∈ bytesV s, u.oneCell' = true := by
  intro v hv
  obtain ⟨c, _, rfl⟩ := List.mem_map.1 hv
  rfl
theorem sv_one (l : List Str) : ∀ v ∈ l.map sv, v.oneCell' = true := by
  intro v hv
  obtain ⟨s, _, rfl⟩ := List.mem_map.1 hv
  rfl
theorem slv_one (l : List Sl) : ∀ v ∈ l.map slv, v.oneCell' = true := by
  intro v hv
  obtain ⟨s, _, rfl⟩ := List.mem_map.1 hv
  rfl

/-- append of bytes to bytes -/
theorem apS_bytes {H0 H : Heap} {s t : Sl} {a c : Str} {K : Sl → Heap → Prop} (h : OwnF H0 H 1 s (bytesV a)) (ht : rdsl H t (bytesV c)) (hy : t.len = c.length) (hb : a.length + c.length ≤ 140737488355328)
    (k : ∀ r H2, OwnF H0 H2 1 r (bytesV (a ++ c)) → r.len = a.length + c.length → K r H2) : apS [.int .u8 0] 1 s t K H := by
  have hl : s.len = a.length := by have := h.own.1; simpa [bytesV] using this.symm
  refine apS_ownF h ht (by simp [bytesV, hy]) (bytes_one c) (by omega) (by omega) fun r H2 h2 hr => k r H2 ?_ (by omega)
  rw [bytesV_append]; exact h2

/-- the empty literal -/
theorem ownF_empty {H : Heap} {b z : Nat} (hb : H b = none) : OwnF H (H.put b (.row [])) z (Sl.of (some (b, 0)) 0 0) [] :=
  ⟨Heap.le_put hb, ⟨by simp, rfl, Nat.le_refl _, .inr ⟨b, [], rfl, by rw [Heap.put_same]; rfl, by simp⟩⟩, fun p hp => by injection hp with hp; subst hp; exact hb⟩

/-- a literal of bytes -/
theorem lit_bytes {H : Heap} {b : Nat} {m : Bool} {vs : List Value} {s : Str} (h : vs = bytesV s) : rdsl (H.put b (.row vs) m) (Sl.of (some (b, 0)) s.length s.length) (bytesV s) := by
  subst h; exact .inr ⟨rfl, _, rfl, rds_put_new⟩

theorem OwnF.len {H0 H : Heap} {s : Sl} {cs : List Value} (h : OwnF H0 H 1 s cs) : s.len = cs.length := by have := h.own.1; omega
theorem OwnF.lenB {H0 H : Heap} {s : Sl} {a : Str} (h : OwnF H0 H 1 s (bytesV a)) : s.len = a.length := by have := h.len; simpa [bytesV] using this
theorem OwnF.down {H1 H0 H : Heap} {z : Nat} {s : Sl} {cs : List Value} (h : OwnF H0 H z s cs) (hle : H1.le H0) : OwnF H1 H z s cs := ⟨hle.trans h.le, h.own, h.fresh.le hle⟩

theorem b2s_of {H : Heap} {b : Sl} {s : Str} {K : Str → Prop} (hr : rdsl H b (bytesV s)) (hl : b.len = s.length) (k : K s) : b2s b K H := ⟨s, hl.symm, hr, k⟩

theorem foldl_take_succ {α β : Type} (f : β → α → β) (x : β) (s : List α) (k : Nat) (c : α) (h : s[k]? = some c) : (s.take (k + 1)).foldl f x = f ((s.take k).foldl f x) c := by
  rw [List.take_add_one, h, Option.toList_some, List.foldl_append]
  rfl
theorem getD_some {s : Str} {i : Nat} (h : i < s.length) : s[i]? = some (s.getD i 0) := by simp [List.getD, h]
theorem bytes_at {s : Str} {i : Nat} (h : i < s.length) : (bytesV s)[i]? = some (.int .u8 ((s.getD i 0).toNat : Int)) := by rw [bytesV_get, getD_some h]; rfl

theorem total_ok {α : Type} (f : α → Nat) : ∀ (l : List α) (i : Nat), ((l.take i).map f).sum ≤ (l.map f).sum
  | [], i => by simp
  | a :: l, 0 => by simp
  | a :: l, i + 1 => by simp only [List.take_succ_cons, List.map_cons, List.sum_cons]; have := total_ok f l i; omega
theorem total_succ {α : Type} (f : α → Nat) {l : List α} {i : Nat} {c : α} (h : l[i]? = some c) : ((l.take (i + 1)).map f).sum = ((l.take i).map f).sum + f c := by
  rw [List.take_add_one, h, Option.toList_some, List.map_append, List.sum_append]; simp
theorem flatten_len_sum : ∀ (l : List Str), l.flatten.length = (l.map List.length).sum
  | [] => rfl
  | a :: l => by simp [flatten_len_sum l]

theorem s2b_ok {H : Heap} {s : Str} {K : Sl → Heap → Prop} (k : ∀ b cap H2, H b = none → H2 = H.put b (.row (bytesV s ++ List.replicate (cap - s.length) (Value.int .u8 0))) → s.length ≤ cap → rdsl H2 (Sl.of (some (b, 0)) s.length cap) (bytesV s) → K (Sl.of (some (b, 0)) s.length cap) H2) : s2b s K H := by
  intro b cap hb hc
  refine k b cap _ hb rfl hc (.inr ⟨rfl, (b, 0), rfl, rds_row (Heap.put_same ..) fun j v hj => ?_⟩)
  have := (List.getElem?_eq_some_iff.1 hj).1
  rw [Nat.zero_add, List.getElem?_append_left this]; exact hj

/-! numbers -/
theorem i64_ofInt {x : Int} (h0 : -9223372036854775808 ≤ x) (h1 : x ≤ 9223372036854775807) : (BitVec.ofInt 64 x).toInt = x := by
  rw [BitVec.toInt_ofInt]; unfold Int.bmod; simp; omega
theorem w_i64_of_bv (b : BitVec 64) : w .i64 (b.toNat : Int) = b.toInt := by
  have hb := b.isLt
  unfold w IntKind.wrap
  simp only [IntKind.bits, IntKind.signed, BitVec.toInt]
  simp
  omega
theorem bAnd_i64_nat {x : Int} (h0 : -9223372036854775808 ≤ x) (h1 : x ≤ 9223372036854775807) : ∃ n : Nat, bAnd .i64 x 2147483647 = (n : Int) ∧ n ≤ 2147483647 := by
  refine ⟨(BitVec.ofInt 64 x &&& 2147483647#64).toNat, ?_, ?_⟩
  · unfold bAnd
    simp only [IntKind.bits]
    have e : BitVec.ofInt 64 2147483647 = 2147483647#64 := rfl
    rw [e]
    have h2 : (BitVec.ofInt 64 x &&& 2147483647#64).toNat ≤ 2147483647 := by rw [BitVec.toNat_and]; exact Nat.and_le_right
    have e2 : ∀ k : Nat, k ≤ 2147483647 → IntKind.i64.wrap (k : Int) = (k : Int) := fun k hk => w_i64 (by omega) (by omega)
    exact e2 _ h2
  · rw [BitVec.toNat_and]; exact Nat.and_le_right

theorem xor_u8 (a t : UInt8) : bXor .u8 (a.toNat : Int) (t.toNat : Int) = ((a ^^^ t).toNat : Int) := by
  unfold bXor
  simp only [IntKind.bits]
  have e : ∀ x : UInt8, BitVec.ofInt 8 (x.toNat : Int) = x.toBitVec := fun x => by
    apply BitVec.eq_of_toNat_eq; simp
  rw [e, e]
  exact w_u8 (by omega) (by have := (a.toBitVec ^^^ t.toBitVec).isLt; omega)
end Sx
