/-
  The examples (awake), and what chunks tell together (fed).
-/
import Derived.Test.YtkmedfjmpcfgaaaFrameP4
set_option linter.unusedVariables false
set_option maxRecDepth 10000
namespace Sx
open Go Go.Proofs

def Heap.off (s : Sl) (H : Heap) : Heap := fun x => if s.p.map (fun p => p.1) = some x then none else H x
theorem Heap.off_le (s : Sl) (H : Heap) : (H.off s).le H := fun x e h => by
  unfold Heap.off at h
  split at h
  · cases h
  · exact h
theorem Heap.off_fresh (s : Sl) (H : Heap) : Fresh (H.off s) s := fun p hp => by
  unfold Heap.off; rw [if_pos (by rw [hp]; rfl)]
theorem Heap.off_some {s : Sl} {H : Heap} {x : Nat} {e : Bool × GO} (h : H x = some e) (hx : ∀ p, s.p = some p → p.1 ≠ x) : (H.off s) x = some e := by
  unfold Heap.off
  rw [if_neg]
  · exact h
  · intro hh
    obtain ⟨p, hp, rfl⟩ := Option.map_eq_some_iff.1 hh
    exact hx p hp rfl
theorem Heap.le_off {A H : Heap} {s : Sl} (h : A.le H) (hf : Fresh A s) : A.le (H.off s) := fun x e hx => Heap.off_some (h x e hx) fun p hp e' => by
  have := hf p hp
  rw [e', hx] at this; cases this
theorem Own.off {H : Heap} {z : Nat} {s : Sl} {cs : List Value} (h : Own H z s cs) : OwnF (H.off s) H z s cs := ⟨Heap.off_le s H, h, Heap.off_fresh s H⟩
theorem Own.mine {H : Heap} {z : Nat} {s : Sl} {cs : List Value} (h : Own H z s cs) {p : Nat × Nat} (hp : s.p = some p) : ∃ g, H p.1 = some (true, g) := by
  obtain ⟨_, _, _, ⟨h0, _⟩ | ⟨b, sp, hb, hh, _⟩⟩ := h
  · rw [h0] at hp; cases hp
  · rw [hb] at hp; injection hp with hp; subst hp; exact ⟨_, hh⟩
theorem Rd.off {H : Heap} {b : Nat} {held : Str} {shut : Bool} (h : Rd H b held shut) {z : Nat} {s : Sl} {cs : List Value} (ho : Own H z s cs) (hne : ∀ p, s.p = some p → p.1 ≠ b) : Rd (H.off s) b held shut := by
  obtain ⟨t, h1, h2, h3, h4⟩ := h
  refine ⟨t, Heap.off_some h1 hne, h2, h3, ?_⟩
  rcases h4 with h4 | ⟨hx, bb, o, c, hp, hb, hc⟩
  · exact .inl h4
  · refine .inr ⟨hx, bb, o, c, hp, Heap.off_some hb fun p hp e => ?_, hc⟩
    obtain ⟨g, hg⟩ := ho.mine hp
    rw [e, hb] at hg; cases hg
theorem Heap.le.of_but {A B D : Heap} {b : Nat} (h : A.le B) (h2 : Heap.but b B D) (hb : A b = Option.none) : A.le D := fun x e hx => h2 x e (fun e' => by subst e'; rw [hb] at hx; cases hx) (h x e hx)

theorem apS_ownF {H0 H : Heap} {zc : List Value} {bytes : Nat} {s t : Sl} {cs ys : List Value} {K : Sl → Heap → Prop} (h : OwnF H0 H zc.length s cs) (ht : rdsl H t ys) (hy : ys.length = t.len * zc.length) (h1 : ∀ u ∈ ys, u.oneCell' = true)
    (hb : (s.len + t.len) * bytes ≤ 140737488355328) (h63 : s.len + t.len ≤ 9223372036854775807) (k : ∀ r H2, OwnF H0 H2 zc.length r (cs ++ ys) → r.len = s.len + t.len → K r H2) : apS zc bytes s t K H :=
  ⟨ys, ht, h1, apd_ownF h hy hb h63 k⟩

/-- where it is shut, it stays -/
theorem cutG_stuck {num sum : Str → Nat} (hn : ∀ s t : Str, 4 ≤ s.length → num (s ++ t) = num s) (t : Str) : ∀ (s : Str), (cutG num sum s).2.2 ≠ 0 → cutG num sum (s ++ t) = cutG num sum s :=
  cut_ind fun s ih h0 => by
    rcases hd num sum s with h | ⟨h, h2⟩ | ⟨h, h2, h3⟩ | ⟨h, h2, h3, h4⟩ | ⟨h, h2, h3, h4⟩
    · rw [cutG_short h] at h0; simp at h0
    · rw [cutG_large h h2, cutG_large (by simp; omega) (by rw [hn _ _ h]; exact h2)]
    · rw [cutG_wait h h2 h3] at h0; simp at h0
    · have e1 : num (s ++ t) = num s := hn _ _ h
      have e2 : bodyG num (s ++ t) = bodyG num s := bodyG_append hn h h3
      have e3 : num ((s ++ t).drop (4 + num s)) = num (s.drop (4 + num s)) := by
        rw [List.drop_append_of_le_length (by omega)]
        exact hn _ _ (by simp; omega)
      rw [cutG_bad h h2 h3 h4, cutG_bad (by simp; omega) (by omega) (by simp; omega) (by rw [e1, e3, e2]; exact h4)]
    · have e := cutG_next h h2 h3 h4
      rw [e] at h0 ⊢
      have ih := ih (s.drop (8 + num s)) (by simp; omega) h0
      have e1 : num (s ++ t) = num s := hn _ _ h
      have e2 : bodyG num (s ++ t) = bodyG num s := bodyG_append hn h h3
      have e3 : num ((s ++ t).drop (4 + num s)) = num (s.drop (4 + num s)) := by
        rw [List.drop_append_of_le_length (by omega)]
        exact hn _ _ (by simp; omega)
      have e4 : (s ++ t).drop (8 + num s) = s.drop (8 + num s) ++ t := List.drop_append_of_le_length (by omega)
      have := cutG_next (num := num) (sum := sum) (s := s ++ t) (by simp; omega) (by omega) (by simp; omega) (by rw [e1, e3, e2]; exact h4)
      rw [this, e1, e2, e4, ih]
theorem cut_stuck (t s : Str) (h : (cut s).2.2 ≠ 0) : cut (s ++ t) = cut s := by
  unfold cut at *; exact cutG_stuck numS_app t s h

section
variable {C : Ctx} {H : Heap}

/-- chunks: a slice of slices of bytes -/
structure Chunks (H : Heap) (p : Sl) (l : List Str) (ss : List Sl) : Prop where
  rd : rdsl H p (ss.map slv)
  len : p.len = ss.length
  n : ss.length = l.length
  el : ∀ (i : Nat) (s : Sl) (c : Str), ss[i]? = some s → l[i]? = some c → rdsl H s (bytesV c) ∧ s.len = c.length
theorem Chunks.le {A B : Heap} {p : Sl} {l : List Str} {ss : List Sl} (h : Chunks A p l ss) (hle : A.le B) : Chunks B p l ss :=
  ⟨rdsl_le hle h.rd, h.len, h.n, fun i s c hs hc => ⟨rdsl_le hle (h.el i s c hs hc).1, (h.el i s c hs hc).2⟩⟩

theorem flatten_take_succ {l : List Str} {i : Nat} {c : Str} (h : l[i]? = some c) : (l.take (i + 1)).flatten = (l.take i).flatten ++ c := by
  rw [List.take_add_one, h, Option.toList_some, List.flatten_append]; simp
theorem flatten_take_len (l : List Str) (i : Nat) : (l.take i).flatten.length ≤ l.flatten.length := by
  conv => rhs; rw [← List.take_append_drop i l, List.flatten_append, List.length_append]
  omega

theorem law30_fed_ok {p : Sl} {l : List Str} {ss : List Sl} {K : Sl → Int → Int → Heap → Prop} (hch : Chunks H p l ss) (hl : l.flatten.length ≤ 1048576) (hn : l.length ≤ 1099511627776)
    (k : ∀ o H2, OwnF H H2 1 o ((cut l.flatten).1.map sv) → K o (cut l.flatten).2.2 ((cut l.flatten).2.1.length : Int) H2) : c_law30_fed C p K H := by
  apply ad_law30_fed
  unfold sh_law30_fed
  refine frame_New_ok fun b H2 hb hle hrd => ?_
  have hpl : p.len = l.length := by rw [hch.len, hch.n]
  refine ⟨fun x H' => ∃ (i : Nat) (L : List Str) (held : Str), x.2.2 = i ∧ i ≤ l.length ∧ H.le H' ∧ Rd H' b held (x.2.1 != 0) ∧ Own H' 1 x.1 (L.map sv) ∧ Fresh H x.1 ∧ (∀ q, x.1.p = some q → q.1 ≠ b) ∧ cut (l.take i).flatten = (L, held, x.2.1),
    fun x _ => l.length - x.2.2.toNat, ⟨0, [], [], rfl, Nat.zero_le _, hle, hrd, Own.nil _ _, Fresh.nil _, (fun q hq => by cases hq), by rw [List.take_zero]; exact cut_short (by simp)⟩, ?_⟩
  rintro ⟨o, why, i'⟩ H5 ⟨i, L, held, hi', hi, hle5, hrd5, ho, hf, hob, hcut⟩
  dsimp only at hi' hrd5 ho hf hob hcut ⊢
  subst hi'
  have hol : L.length = o.len := by have := ho.1; simpa using this
  have hLl : L.length * 8 ≤ 1048576 := by
    have := cut_len (l.take i).flatten
    rw [hcut] at this
    dsimp only at this
    have := flatten_take_len l i
    omega
  refine ift.of (fun h => ?_) (fun h => ?_)
  · have hlt : i < l.length := by simp at h; omega
    have hlts : i < ss.length := by rw [hch.n]; exact hlt
    have hci : l[i]? = some l[i] := by simp [hlt]
    have hsi : ss[i]? = some ss[i] := by simp [hlts]
    have hlen1 := flatten_take_len l (i + 1)
    rw [flatten_take_succ hci] at hlen1
    have hch5 := hch.le hle5
    obtain ⟨hrc, hrl⟩ := hch5.el i _ _ hsi hci
    apply jn.inl
    refine ix_ldL hch5.rd (j := i) rfl (by omega) (x := ss[i]) (by simp [hlts]) ?_
    have hw : w .i64 ((i : Int) + 1) = ((i + 1 : Nat) : Int) := w_i64 (by omega) (by omega)
    rw [hw]
    clear hw
    have hlt2 : l.length - (((i + 1 : Nat) : Int)).toNat < l.length - ((i : Int)).toNat := by omega
    by_cases hwhy : why = 0
    · subst hwhy
      have happ := cut_append l[i] (l.take i).flatten (by rw [hcut])
      rw [hcut] at happ
      dsimp only at happ
      have hlen2 := cut_rest (l.take i).flatten
      rw [hcut] at hlen2
      refine frame_Feed_ok (held := held) (c := l[i]) hrd5 hrc hrl (by simp only [List.length_append] at hlen1 hlen2 ⊢; omega) fun a H20 hbut hrd20 hown20 hfr20 => ?_
      have hal : (cut (held ++ l[i])).1.length = a.len := by have := hown20.1; simpa using this
      have hclen := cut_len (held ++ l[i])
      have hle20 : H.le H20 := hle5.of_but hbut hb
      have ho20 := ho.but hbut hob
      refine apS_ownF (zc := [sv []]) (ys := (cut (held ++ l[i])).1.map sv) ho20.off hown20.rdsl (by simpa using hal) (sv_one _) (by simp only [List.length_append] at hlen1 hlen2 hclen; omega) (by simp only [List.length_append] at hlen1 hlen2 hclen; omega) fun r H22 hr hrl => ?_
      have hfin : (fun x' H' => ∃ (i : Nat) (L : List Str) (held : Str), x'.2.2 = (i : Int) ∧ i ≤ l.length ∧ H.le H' ∧ Rd H' b held (x'.2.1 != 0) ∧ Own H' 1 x'.1 (L.map sv) ∧ Fresh H x'.1 ∧ (∀ q, x'.1.p = some q → q.1 ≠ b) ∧ cut (l.take i).flatten = (L, held, x'.2.1)) (r, (cut (held ++ l[i])).2.2, ((i + 1 : Nat) : Int)) H22 := by
        refine ⟨i + 1, L ++ (cut (held ++ l[i])).1, (cut (held ++ l[i])).2.1, rfl, hlt, (Heap.le_off hle20 hf).trans hr.le, (hrd20.off ho20 hob).le hr.le, by simpa using hr.own, hr.fresh.le (Heap.le_off hle20 hf), fun q hq e => ?_, ?_⟩
        · have := hr.fresh q hq
          obtain ⟨s, hbs, _⟩ := hrd20
          rw [e, Heap.off_some hbs hob] at this
          cases this
        · rw [flatten_take_succ hci, happ]
      refine ift.of (fun h => ⟨hfin, hlt2⟩) (fun h => ?_)
      have h0 : (cut (held ++ l[i])).2.2 = 0 := by simpa using h
      rw [h0] at hfin
      exact ⟨hfin, hlt2⟩
    · have hsh : (why != 0) = true := by simpa using hwhy
      rw [hsh] at hrd5
      refine frame_Feed_shut hrd5 ?_
      refine apS_ownF (zc := [sv []]) (ys := []) ho.off (.inl rfl) (by simp [Sl.nil]) (by simp) (by simp only [Sl.nil]; omega) (by simp only [Sl.nil]; omega) fun r H22 hr hrl => ?_
      refine ift_neg (by simp [hwhy]) ⟨⟨i + 1, L, held, rfl, hlt, (Heap.le_off hle5 hf).trans hr.le, ?_, by simpa using hr.own, hr.fresh.le (Heap.le_off hle5 hf), fun q hq e => ?_, ?_⟩, hlt2⟩
      · rw [hsh]; exact (hrd5.off ho hob).le hr.le
      · have := hr.fresh q hq
        obtain ⟨s, hbs, _⟩ := hrd5
        rw [e, Heap.off_some hbs hob] at this
        cases this
      · dsimp only
        rw [flatten_take_succ hci, cut_stuck _ _ (by rw [hcut]; exact hwhy), hcut]
  · have hi2 : i = l.length := by simp at h; omega
    subst hi2
    refine frame_Held_ok hrd5 ?_
    rw [List.take_length] at hcut
    have := k o H5
    rw [hcut] at this
    exact this ⟨hle5, ho, hf⟩

theorem crc_a : crcB [97] = 3904355907#32 := by decide +kernel
theorem frameOf_a : frameOf [97] = [0, 0, 0, 1, 97, 232, 183, 190, 67] := by
  unfold frameOf; rw [crc_a]; decide +kernel
theorem cut_a1 : cut ([] ++ [0, 0]) = ([], [0, 0], 0) := cut_short (by decide)
theorem num_a : numS [0, 0, 0, 1, 97] = 1 := by decide +kernel
theorem num_b : numS [0, 0, 0, 1, 97, 232, 183, 190, 67, 0] = 1 := by decide +kernel
theorem cut_a2 : cut ([0, 0] ++ [0, 1, 97]) = ([], [0, 0, 0, 1, 97], 0) := cut_wait (s := [0, 0, 0, 1, 97]) (by decide) (by rw [num_a]; decide) (by rw [num_a]; decide)
theorem cut_a3 : cut ([0, 0, 0, 1, 97] ++ [232, 183, 190, 67, 0]) = ([[97]], [0], 0) := by
  have hb : bodyS [0, 0, 0, 1, 97, 232, 183, 190, 67, 0] = [97] := by rw [bodyS_eq, num_b]; rfl
  have hs : crcN [97] = 3904355907 := by unfold crcN; rw [crc_a]; rfl
  have := cut_next (s := [0, 0, 0, 1, 97, 232, 183, 190, 67, 0]) (by decide) (by rw [num_b]; decide) (by rw [num_b]; decide) (by rw [hb, hs, num_b]; decide +kernel)
  rw [hb, num_b] at this
  have e : cut (List.drop (8 + 1) [0, 0, 0, 1, 97, 232, 183, 190, 67, 0]) = ([], [0], 0) := cut_short (s := [0]) (by decide)
  rw [e] at this
  exact this

theorem awake_ok {K : Bool → Heap → Prop} (k : K true H) : c_law30_awake C K H := by
  apply c_law30_awake.gh
  apply ad_law30_awake
  unfold sh_law30_awake
  refine frame_Write_ok (by decide) ?_
  rw [frameOf_a]
  refine frame_New_ok fun b H2 hb hle hrd => ?_
  refine ift_neg (by simp) ?_
  intro b9 h9
  refine frame_Feed_ok (held := []) (c := [0, 0]) (hrd.le (Heap.le_put h9)) (.inr ⟨rfl, _, rfl, rds_put_new⟩) rfl (by decide) fun o1 H3 hb3 hrd3 hown3 hfr3 => ?_
  rw [cut_a1] at hrd3 hown3 ⊢
  have hl1 : o1.len = 0 := by have := hown3.1; simpa using this.symm
  intro b14 h14
  refine ⟨_, _, rfl, rfl, Heap.put_same .., ?_⟩
  refine frame_Feed_ok (held := [0, 0]) (c := [0, 1, 97]) (hrd3.le (Heap.le_put h14)) (.inr ⟨rfl, _, rfl, rds_put_new⟩) rfl (by decide) fun o2 H4 hb4 hrd4 hown4 hfr4 => ?_
  rw [cut_a2] at hrd4 hown4 ⊢
  have hl2 : o2.len = 0 := by have := hown4.1; simpa using this.symm
  intro b19 h19
  refine ⟨_, _, rfl, rfl, Heap.put_same .., ?_⟩
  refine frame_Feed_ok (held := [0, 0, 0, 1, 97]) (c := [232, 183, 190, 67, 0]) (hrd4.le (Heap.le_put h19)) (.inr ⟨rfl, _, rfl, rds_put_new⟩) rfl (by decide) fun o3 H5 hb5 hrd5 hown5 hfr5 => ?_
  rw [cut_a3] at hrd5 hown5 ⊢
  have hl3 : o3.len = 1 := by have := hown5.1; simpa using this.symm
  apply jn.inl
  refine ift_pos (by simp [hl1, hl2]) ?_
  intro b31 h31
  refine ref30_Same_ok (l := [[97]]) (m := [[97]]) (hown5.le (Heap.le_put h31)).rdsl (.inr ⟨rfl, _, rfl, rds_put_new⟩) (by simpa using hl3) rfl (by decide) ?_
  apply jn.inl
  refine ift_pos (by simp) ?_
  refine frame_Held_ok (hrd5.le (Heap.le_put h31)) ?_
  apply jn.inl
  refine ift_pos (by simp) ?_
  refine frame_Shut_ok (hrd5.le (Heap.le_put h31)) ?_
  refine ⟨H, Gh.le ?_, k⟩
  have q2 := Heap.le.of_but (hle.trans (Heap.le_put h9)) hb3 hb
  have q3 := Heap.le.of_but (q2.trans (Heap.le_put h14)) hb4 hb
  have q4 := Heap.le.of_but (q3.trans (Heap.le_put h19)) hb5 hb
  exact q4.trans (Heap.le_put h31)
end
end Sx
