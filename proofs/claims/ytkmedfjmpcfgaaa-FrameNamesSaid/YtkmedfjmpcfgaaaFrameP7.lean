/-
  The sum tells a turned bit; frames one behind the other.
-/
import Derived.Test.YtkmedfjmpcfgaaaFrameP6
set_option linter.unusedVariables false
set_option maxRecDepth 10000
namespace Sx
open Go Go.Proofs

theorem eq_of_half {n m : BitVec 32} (h : n >>> 1 = m >>> 1) (h2 : n &&& 1#32 = m &&& 1#32) : n = m := by
  apply BitVec.eq_of_toNat_eq
  have a := congrArg BitVec.toNat h
  have b := congrArg BitVec.toNat h2
  simp only [BitVec.toNat_ushiftRight, BitVec.toNat_and, BitVec.toNat_ofNat, Nat.shiftRight_eq_div_pow] at a b
  rw [show (1 % 2 ^ 32) = 1 from rfl, Nat.and_one_is_mod, Nat.and_one_is_mod] at b
  omega
theorem and_one_cases (n : BitVec 32) : n &&& 1#32 = 1#32 ∨ n &&& 1#32 = 0#32 := by
  have h : (n &&& 1#32).toNat = n.toNat % 2 := by
    simp only [BitVec.toNat_and, BitVec.toNat_ofNat]
    rw [show (1 % 2 ^ 32) = 1 from rfl, Nat.and_one_is_mod]
  rcases Nat.mod_two_eq_zero_or_one n.toNat with h0 | h0
  · right; apply BitVec.eq_of_toNat_eq; rw [h, h0]; rfl
  · left; apply BitVec.eq_of_toNat_eq; rw [h, h0]; rfl
theorem top_shift (n : BitVec 32) : (n >>> 1).toNat < 2147483648 := by
  rw [BitVec.toNat_ushiftRight, Nat.shiftRight_eq_div_pow]
  have := n.isLt
  omega
theorem top_ne (n m : BitVec 32) : (n >>> 1) ^^^ 3988292384#32 ≠ m >>> 1 := fun h => by
  have h1 : (n >>> 1) ^^^ (m >>> 1) = 3988292384#32 := by rw [← h, ← BitVec.xor_assoc, BitVec.xor_self, BitVec.zero_xor]
  have h2 := congrArg BitVec.toNat h1
  rw [BitVec.toNat_xor] at h2
  have h3 : (n >>> 1).toNat ^^^ (m >>> 1).toNat < 2 ^ 31 := Nat.xor_lt_two_pow (top_shift n) (top_shift m)
  rw [h2] at h3
  exact absurd h3 (by decide)
theorem xor_cancel {a b p : BitVec 32} (h : a ^^^ p = b ^^^ p) : a = b := by
  have := congrArg (· ^^^ p) h
  simpa [BitVec.xor_assoc] using this
theorem turnB_inj {n m : BitVec 32} (h : turnB n = turnB m) : n = m := by
  unfold turnB at h
  split at h <;> rename_i h1 <;> split at h <;> rename_i h2
  · exact eq_of_half (xor_cancel h) (by rw [h1, h2])
  · exact absurd h (top_ne n m)
  · exact absurd h.symm (top_ne m n)
  · refine eq_of_half h ?_
    rcases and_one_cases n with a | a
    · exact absurd a h1
    · rcases and_one_cases m with b | b
      · exact absurd b h2
      · rw [a, b]
theorem it_inj {α : Type} {f : α → α} (hf : ∀ {a b}, f a = f b → a = b) : ∀ (k : Nat) {a b : α}, it f k a = it f k b → a = b
  | 0, a, b, h => h
  | k + 1, a, b, h => hf (it_inj hf k h)
theorem byteB_inj {n m : BitVec 32} {c : UInt8} (h : byteB n c = byteB m c) : n = m := xor_cancel (it_inj turnB_inj 8 h)
theorem byteB_inj' {n : BitVec 32} {c d : UInt8} (h : byteB n c = byteB n d) : c = d := by
  have h1 := it_inj turnB_inj 8 h
  have h2 : c.toBitVec.setWidth 32 = d.toBitVec.setWidth 32 := by
    have : c.toBitVec.setWidth 32 ^^^ n = d.toBitVec.setWidth 32 ^^^ n := by rw [BitVec.xor_comm, h1, BitVec.xor_comm]
    exact xor_cancel this
  have h3 := congrArg BitVec.toNat h2
  simp only [BitVec.toNat_setWidth] at h3
  have a := c.toBitVec.isLt; have b := d.toBitVec.isLt
  rw [Nat.mod_eq_of_lt (by omega), Nat.mod_eq_of_lt (by omega)] at h3
  exact UInt8.toNat_inj.1 h3
theorem fold_inj : ∀ (s : Str) {n m : BitVec 32}, s.foldl byteB n = s.foldl byteB m → n = m
  | [], n, m, h => h
  | c :: s, n, m, h => byteB_inj (fold_inj s h)
theorem crcN_set {s : Str} {i : Nat} (hi : i < s.length) {c : UInt8} (hc : c ≠ s[i]) : crcN (s.set i c) ≠ crcN s := fun h => by
  have hs : s = s.take i ++ s[i] :: s.drop (i + 1) := by simp
  have hs2 : s.set i c = s.take i ++ c :: s.drop (i + 1) := by rw [List.set_eq_take_append_cons_drop, if_pos hi]
  unfold crcN crcB at h
  have h1 : 4294967295#32 ^^^ regB (s.set i c) = 4294967295#32 ^^^ regB s := BitVec.eq_of_toNat_eq h
  have h2 : regB (s.set i c) = regB s := by
    have : regB (s.set i c) ^^^ 4294967295#32 = regB s ^^^ 4294967295#32 := by rw [BitVec.xor_comm, h1, BitVec.xor_comm]
    exact xor_cancel this
  unfold regB at h2
  rw [hs2] at h2
  conv at h2 => rhs; rw [hs]
  rw [List.foldl_append, List.foldl_append, List.foldl_cons, List.foldl_cons] at h2
  exact hc (byteB_inj' (fold_inj _ h2))

theorem four_len (n : Nat) : (four n).length = 4 := rfl
theorem numS_four' {n : Nat} (h : n < 4294967296) : numS (four n) = n := by have := numS_four h []; rwa [List.append_nil] at this
/-- a frame's parts -/
theorem frame_head {s b t u : Str} (hs : s = four b.length ++ b ++ t ++ u) (hb : b.length ≤ 65536) (ht : t.length = 4) : 4 ≤ s.length ∧ numS s = b.length ∧ numS s + 8 ≤ s.length ∧ bodyS s = b ∧ numS (s.drop (4 + numS s)) = numS t ∧ s.drop (8 + numS s) = u := by
  have hn : numS s = b.length := by rw [hs, List.append_assoc, List.append_assoc]; exact numS_four (by omega) _
  have hl : s.length = 8 + b.length + u.length := by rw [hs]; simp [four_len, ht]; omega
  refine ⟨by omega, hn, by omega, ?_, ?_, ?_⟩
  · rw [bodyS_eq, hn, hs]
    have e : (four b.length ++ b ++ t ++ u).drop 4 = b ++ (t ++ u) := by rw [List.append_assoc, List.append_assoc, List.drop_left' (four_len _)]
    rw [e, List.take_left' rfl]
  · rw [hn, hs]
    have e : (four b.length ++ b ++ t ++ u).drop (4 + b.length) = t ++ u := by rw [List.append_assoc, List.drop_left' (by simp [four_len])]
    rw [e, numS_append (by omega)]
  · rw [hn, hs, List.drop_left' (by simp [four_len, ht]; omega)]

theorem cut_frame {b u : Str} (hb : b.length ≤ 65536) : cut (frameOf b ++ u) = (b :: (cut u).1, (cut u).2) := by
  have hs : frameOf b ++ u = four b.length ++ b ++ four (crcB b).toNat ++ u := rfl
  obtain ⟨h1, h2, h3, h4, h5, h6⟩ := frame_head hs hb (four_len _)
  have hc : numS (four (crcB b).toNat) = crcN b := by
    have : (crcB b).toNat = crcN b := by unfold crcN; rfl
    rw [this]; exact numS_four' (crcN_lt b)
  rw [cut_next h1 (by omega) h3 (by rw [h5, h4, hc]), h4, h6]

theorem cut_frames : ∀ {l : List Str}, (∀ b ∈ l, b.length ≤ 65536) → cut (l.map frameOf).flatten = (l, [], 0)
  | [], _ => cut_short (by simp)
  | b :: l, h => by
    rw [List.map_cons, List.flatten_cons, cut_frame (h b (List.mem_cons_self ..)), cut_frames fun c hc => h c (List.mem_cons_of_mem _ hc)]

/-- what is no frame by its sum -/
theorem cut_wrong {b t : Str} (hb : b.length ≤ 65536) (ht : t.length = 4) (hne : numS t ≠ crcN b) : cut (four b.length ++ b ++ t) = ([], [], 90) := by
  have hs : four b.length ++ b ++ t = four b.length ++ b ++ t ++ [] := by simp
  obtain ⟨h1, h2, h3, h4, h5, h6⟩ := frame_head hs hb ht
  exact cut_bad h1 (by omega) h3 (by rw [h5, h4]; exact hne)

theorem frameOf_len (s : Str) : (frameOf s).length = s.length + 8 := by simp [frameOf, four_len]; omega
theorem frames_len : ∀ (l : List Str), (l.map frameOf).flatten.length = (l.map List.length).sum + l.length * 8
  | [] => rfl
  | a :: l => by simp only [List.map_cons, List.flatten_cons, List.length_append, frameOf_len, frames_len l, List.sum_cons, List.length_cons]; omega

theorem mem_le_sum : ∀ {l : List Nat} {x : Nat}, x ∈ l → x ≤ l.sum
  | a :: l, x, h => by
    rcases List.mem_cons.1 h with rfl | h
    · simp
    · have := mem_le_sum h; simp only [List.sum_cons]; omega

section
variable {C : Ctx} {H : Heap}

theorem s2b_ok {s : Str} {K : Sl → Heap → Prop} (k : ∀ b cap H2, H b = none → H2 = H.put b (.row (bytesV s ++ List.replicate (cap - s.length) (Value.int .u8 0))) → s.length ≤ cap → rdsl H2 (Sl.of (some (b, 0)) s.length cap) (bytesV s) → K (Sl.of (some (b, 0)) s.length cap) H2) : s2b s K H := by
  intro b cap hb hc
  refine k b cap _ hb rfl hc (.inr ⟨rfl, (b, 0), rfl, rds_row (Heap.put_same ..) fun j v hj => ?_⟩)
  have := (List.getElem?_eq_some_iff.1 hj).1
  rw [Nat.zero_add, List.getElem?_append_left this]; exact hj

theorem chunks_one {b : Nat} {s : Sl} {c : Str} {m : Bool} (hb : H b = some (m, .row [slv s])) (hs : rdsl H s (bytesV c)) (hl : s.len = c.length) : Chunks H (Sl.of (some (b, 0)) 1 1) [c] [s] :=
  ⟨.inr ⟨rfl, (b, 0), rfl, rds_row hb fun j v hj => by simpa using hj⟩, rfl, rfl, fun i t d ht hd => by
    cases i with
    | zero => simp at ht hd; subst ht; subst hd; exact ⟨hs, hl⟩
    | succ i => simp at ht⟩

theorem FrameBack_ok {p : Sl} {l : List Str} {K : Bool → Heap → Prop} (hr : rdsl H p (l.map sv)) (hpl : p.len = l.length) (hn : l.length ≤ 1048576) (hls : ∀ c ∈ l, c.length ≤ 1048576) (k : ∀ H2, H.le H2 → K true H2) : c_law30_FrameBack C p K H := by
  apply ad_law30_FrameBack
  unfold sh_law30_FrameBack
  refine ⟨fun x H' => ∃ i : Nat, x = (((l.length + ((l.take i).map List.length).sum : Nat) : Int), (i : Int)) ∧ i ≤ l.length ∧ H = H' ∧ (0 < i → l.length + ((l.take (i - 1)).map List.length).sum < 5000), fun x _ => l.length - x.2.toNat, ⟨0, by simp [hpl], Nat.zero_le _, rfl, fun h => by omega⟩, ?_⟩
  rintro x _ ⟨i, rfl, hi, rfl, hprev⟩
  refine ift.of (fun h => ?_) (fun h => ?_)
  · simp only [Bool.and_eq_true, decide_eq_true_eq] at h
    obtain ⟨hi2, h3⟩ := h
    have hlt : i < l.length := by omega
    have hci : l[i]? = some l[i] := by simp [hlt]
    refine ix_ldS hr (j := i) rfl (by omega) (x := l[i]) (by simp [hlt]) ?_
    have hc := hls l[i] (List.getElem_mem hlt)
    have hsum := total_succ List.length hci
    have e1 : w .i64 (((l.length + ((l.take i).map List.length).sum : Nat) : Int) + (l[i].length : Int)) = ((l.length + ((l.take (i + 1)).map List.length).sum : Nat) : Int) := by
      rw [w_i64 (by omega) (by omega)]; omega
    have e2 : w .i64 ((i : Int) + 1) = ((i + 1 : Nat) : Int) := w_i64 (by omega) (by omega)
    dsimp only
    rw [e1, e2]
    exact ⟨⟨i + 1, rfl, hlt, rfl, fun _ => by simp only [Nat.add_sub_cancel]; omega⟩, by omega⟩
  simp only [Bool.and_eq_false_iff, decide_eq_false_iff_not] at h
  by_cases h3 : 5000 ≤ l.length + ((l.take i).map List.length).sum
  · refine ⟨fun v H' => v = true ∧ H = H', ift_pos (decide_eq_true (by dsimp only; omega)) ⟨rfl, rfl⟩, ?_⟩
    rintro _ _ ⟨rfl, rfl⟩
    exact ift_pos rfl (awake_ok (k H (Heap.le.refl H)))
  have hi2 : i = l.length := by omega
  subst hi2
  rw [List.take_length] at h3 ⊢
  have htot : l.length + (l.map List.length).sum < 5000 := by omega
  clear hprev hi h
  refine ⟨fun v H' => v = false ∧ H = H', ift_neg (decide_eq_false (by dsimp only; omega)) (awake_ok ⟨rfl, rfl⟩), ?_⟩
  rintro _ _ ⟨rfl, rfl⟩
  refine ift_neg rfl ?_
  have hlen : ∀ c ∈ l, c.length ≤ 65536 := fun c hc => by
    have : c.length ≤ (l.map List.length).sum := mem_le_sum (List.mem_map_of_mem hc)
    omega
  refine ⟨fun x H' => ∃ i : Nat, x = (((l.take i).map frameOf).flatten, (i : Int)) ∧ i ≤ l.length ∧ H = H', fun x _ => l.length - x.2.toNat, ⟨0, by simp, Nat.zero_le _, rfl⟩, ?_⟩
  rintro x _ ⟨i, rfl, hi, rfl⟩
  refine ift.of (fun h => ?_) (fun h => ?_)
  · have hlt : i < l.length := by simp at h; omega
    refine ix_ldS hr (j := i) rfl (by omega) (x := l[i]) (by simp [hlt]) ?_
    have hc := hlen l[i] (List.getElem_mem hlt)
    have hci : l[i]? = some l[i] := by simp [hlt]
    refine frame_Write_ok hc (ift_neg (by simp) ?_)
    have h1 := frames_len (l.take i)
    have h2 := total_ok List.length l i
    have h4 : (l.take i).length ≤ l.length := by simp; omega
    have e2 : w .i64 ((i : Int) + 1) = ((i + 1 : Nat) : Int) := w_i64 (by omega) (by omega)
    dsimp only
    rw [e2]
    refine ⟨?_, ⟨i + 1, ?_, hlt, rfl⟩, by omega⟩
    · unfold catOk; rw [frameOf_len]; omega
    · rw [List.take_add_one, hci, Option.toList_some, List.map_append, List.flatten_append]; simp
  · have hi2 : i = l.length := by simp at h; omega
    subst hi2
    rw [List.take_length]
    dsimp only
    have h1 := frames_len l
    refine s2b_ok fun b cap H2 hb hH2 hcap hrd => ?_
    intro b41 h41
    have hle : H.le (H2.put b41 (.row [slv (Sl.of (some (b, 0)) (l.map frameOf).flatten.length cap)])) := by
      subst hH2; exact (Heap.le_put hb).trans (Heap.le_put h41)
    refine law30_fed_ok (chunks_one (Heap.put_same ..) (rdsl_le (Heap.le_put h41) hrd) rfl) (by simp only [List.flatten_cons, List.flatten_nil, List.append_nil]; omega) (by simp) fun o H4 ho => ?_
    simp only [List.flatten_cons, List.flatten_nil, List.append_nil] at ho ⊢
    rw [cut_frames hlen] at ho ⊢
    apply jn.inl
    refine ift_pos (by simp) ?_
    have hol : o.len = l.length := by have := ho.own.1; simpa using this.symm
    refine ref30_Same_ok ho.own.rdsl (rdsl_le (hle.trans ho.le) hr) hol hpl hn ?_
    have : (l == l) = true := by simp
    rw [this]
    exact k _ (hle.trans ho.le)
end
end Sx
