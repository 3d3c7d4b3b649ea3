/-
  The readers' methods.
-/
import Derived.Test.YtkmedfjmpcfgaaaFrameP3
set_option linter.unusedVariables false
set_option maxRecDepth 10000
namespace Sx
open Go Go.Proofs

section
variable {C : Ctx} {H : Heap}

/-- a frame.Reader: what it holds, whether it is shut -/
def Rd (H : Heap) (b : Nat) (held : Str) (shut : Bool) : Prop :=
  ∃ s : Sl, H b = some (true, .row [slv s, .bool shut]) ∧ s.len = held.length ∧ s.cap = s.len ∧ Im H s (bytesV held)

theorem Rd.but {A B : Heap} {b k : Nat} {held : Str} {shut : Bool} (h : Rd A b held shut) (hb : Heap.but k A B) (hk : b ≠ k) (he : A.ext B) : Rd B b held shut := by
  obtain ⟨s, h1, h2, h3, h4⟩ := h
  exact ⟨s, hb _ _ hk h1, h2, h3, h4.ext he⟩
theorem Rd.le {A B : Heap} {b : Nat} {held : Str} {shut : Bool} (h : Rd A b held shut) (hb : A.le B) : Rd B b held shut := by
  obtain ⟨s, h1, h2, h3, h4⟩ := h
  exact ⟨s, hb _ _ h1, h2, h3, h4.ext hb.ext⟩

theorem frame_New_ok {K : Option (Nat × Nat) → Heap → Prop} (k : ∀ b H2, H b = none → H.le H2 → Rd H2 b [] false → K (some (b, 0)) H2) : c_frame_New C K H := by
  apply ad_frame_New
  unfold sh_frame_New
  intro b hb
  exact k b _ hb (Heap.le_put hb) ⟨Sl.nil, Heap.put_same .., rfl, rfl, .inl rfl⟩

theorem Heap.ext.of_but {A B : Heap} {b : Nat} {g : GO} (h : Heap.but b A B) (hb : A b = some (true, g)) : A.ext B := fun x g' hx => h x _ (fun e => by subst e; rw [hb] at hx; cases hx) hx

/-- append to a slice that has no room -/
theorem apS_full {zc : List Value} {bytes : Nat} {s t : Sl} {cs ys : List Value} {K : Sl → Heap → Prop} (hr : rdsl H s cs) (hcl : cs.length = s.len * zc.length) (hcap : s.cap = s.len) (ht : rdsl H t ys) (hyl : ys.length = t.len * zc.length)
    (h1 : ∀ u ∈ ys, u.oneCell' = true) (hb : (s.len + t.len) * bytes ≤ 140737488355328) (h63 : s.len + t.len ≤ 9223372036854775807) (k0 : t.len = 0 → K s H)
    (k1 : ∀ b cap, 0 < t.len → H b = none → s.len + t.len ≤ cap → K (Sl.of (some (b, 0)) (s.len + t.len) cap) (H.put b (.row (cs ++ ys ++ zeros zc (cap - (s.len + t.len)))))) : apS zc bytes s t K H := by
  refine ⟨ys, ht, h1, cs, hr, hcl, hyl, hb, h63, fun hfit => .inl ?_, fun hgrow b cap hn hc => k1 b cap (by omega) hn hc⟩
  have h0 : t.len = 0 := by omega
  have hy0 : ys = [] := List.length_eq_zero_iff.1 (by rw [hyl, h0, Nat.zero_mul])
  refine ⟨hy0, ?_⟩
  have := k0 h0
  have e : (⟨s.p, s.len + t.len, s.cap, s.x⟩ : Sl) = s := by rw [h0]; rfl
  rw [e]; exact this

theorem bytes_one (s : Str) : ∀ u ∈ bytesV s, u.oneCell' = true := by
  intro v hv
  obtain ⟨c, _, rfl⟩ := List.mem_map.1 hv
  rfl

theorem frame_close_ok {b : Nat} {o : Sl} {e : Int} {x : Value} {y : Value} {K : Sl → Int → Heap → Prop} (hb : H b = some (true, .row [x, y])) (k : K o e (H.put b (.row [slv Sl.nil, .bool true]))) : c_frame_Reader_close C (some (b, 0)) o e K H := by
  apply ad_frame_Reader_close
  unfold sh_frame_Reader_close
  refine ⟨_, rfl, _, hb, by simp, _, rfl, _, Heap.put_same .., by simp, ?_⟩
  rw [Heap.put_put]
  exact k

theorem frame_Feed_nil {c : Sl} {K : Sl → Int → Heap → Prop} (k : K Sl.nil 2 H) : c_frame_Reader_Feed C none c K H := by
  apply ad_frame_Reader_Feed
  unfold sh_frame_Reader_Feed
  exact ift_pos rfl k

theorem frame_Feed_shut {b : Nat} {held : Str} {c : Sl} {K : Sl → Int → Heap → Prop} (h : Rd H b held true) (k : K Sl.nil 50 H) : c_frame_Reader_Feed C (some (b, 0)) c K H := by
  obtain ⟨s, h1, h2, h3, h4⟩ := h
  apply ad_frame_Reader_Feed
  unfold sh_frame_Reader_Feed
  refine ift_neg rfl ⟨_, rfl, true, by rw [rd_row h1]; rfl, ift_pos rfl k⟩

/-- where the loop of Feed stands: what was told, what is left -/
structure FeedR (H0 H : Heap) (S : Str) (x : Sl × Sl) (H' : Heap) (l : List Str) (t : Str) : Prop where
  cut : Sx.cut S = (l ++ (Sx.cut t).1, (Sx.cut t).2)
  len : t.length + l.length * 8 ≤ S.length
  own : OwnF H H' 1 x.2 (l.map sv)
  rd : rdsl H x.1 (bytesV t)
  xl : x.1.len = t.length
  xc : x.1.len ≤ x.1.cap
  xs : t ≠ [] → ∀ p, x.1.p = some p → (∃ g, H p.1 = some (false, g)) ∨ H0 p.1 = none

theorem feed_slice {x : Sl} {H : Heap} {t : Str} (hx : rdsl H x (bytesV t)) (hxl : x.len = t.length) (hxc : x.len ≤ x.cap) {a : Int} (k : Nat) (ha : a = k) (hk : k ≤ t.length) :
    rdsl H ⟨if (x.cap : Int) = a then x.p else x.p.map (fun p => (p.1, p.2 + a.toNat * 1)), ((x.len : Int) - a).toNat, ((x.cap : Int) - a).toNat, if (x.cap : Int) = a ∨ a.toNat * 1 = 0 then x.x else none⟩ (bytesV (t.drop k)) := by
  subst ha
  have hbl : (bytesV t).length = t.length := bytesV_length t
  have h1 := rdsl_slice hx (lo := (k : Int)) (hi := (x.len : Int)) (mx := (x.cap : Int)) (z := 1) (by omega) (by omega) (by omega) (by omega)
  have e : bytesV (t.drop k) = ((bytesV t).drop ((k : Int).toNat * 1)).take (((x.len : Int) - (k : Int)).toNat * 1) := by
    rw [show (k : Int).toNat * 1 = k by omega, show ((x.len : Int) - (k : Int)).toNat * 1 = (t.drop k).length by simp; omega, bytesV_drop, bytesV_take, List.take_length]
  rw [e]
  exact h1

theorem feed_body {x : Sl} {H : Heap} {t : Str} (hx : rdsl H x (bytesV t)) (hxl : x.len = t.length) (hxc : x.len ≤ x.cap) {b : Int} (n : Nat) (hb : b = 4 + (n : Int)) (hk : n + 8 ≤ t.length) :
    rdsl H ⟨if (x.cap : Int) = 4 then x.p else x.p.map (fun p => (p.1, p.2 + (4 : Int).toNat * 1)), (b - 4).toNat, ((x.cap : Int) - 4).toNat, if (x.cap : Int) = 4 ∨ (4 : Int).toNat * 1 = 0 then x.x else none⟩ (bytesV ((t.drop 4).take n)) := by
  subst hb
  have hbl : (bytesV t).length = t.length := bytesV_length t
  have h1 := rdsl_slice hx (lo := 4) (hi := 4 + (n : Int)) (mx := (x.cap : Int)) (z := 1) (by omega) (by omega) (by omega) (by omega)
  have e : bytesV ((t.drop 4).take n) = ((bytesV t).drop ((4 : Int).toNat * 1)).take (((4 + (n : Int)) - 4).toNat * 1) := by
    rw [show ((4 + (n : Int)) - 4).toNat * 1 = n by omega, show (4 : Int).toNat * 1 = 4 by omega, bytesV_drop, bytesV_take]
  rw [e]
  exact h1

/-- what a slice of a row of another slice's keeps -/
theorem feed_block {x : Sl} {a : Int} {l c : Nat} {y : Option Nat} {p : Nat × Nat} (h : (⟨if (x.cap : Int) = a then x.p else x.p.map (fun p => (p.1, p.2 + a.toNat * 1)), l, c, y⟩ : Sl).p = some p) : ∃ q, x.p = some q ∧ q.1 = p.1 := by
  dsimp only at h
  split at h
  · exact ⟨p, h, rfl⟩
  · obtain ⟨q, hq, rfl⟩ := Option.map_eq_some_iff.1 h
    exact ⟨q, hq, rfl⟩

theorem feed_step {n : Nat} (hn : n ≤ 65536) : w .i64 (n : Int) = n ∧ w .i64 (4 + (n : Int)) = 4 + n ∧ w .i64 (4 + (n : Int) + 4) = 4 + n + 4 := ⟨w_i64 (by omega) (by omega), w_i64 (by omega) (by omega), w_i64 (by omega) (by omega)⟩

def FeedK (C : Ctx) (b : Nat) (H0 : Heap) (S : Str) (K : Sl → Int → Heap → Prop) : Prop :=
  ∀ o H2, Heap.but b H0 H2 → Rd H2 b (cut S).2.1 ((cut S).2.2 != 0) → Own H2 1 o ((cut S).1.map sv) → Fresh H0 o → K o (cut S).2.2 H2

theorem feed_shut {b : Nat} {S : Str} {s : Sl} {K : Sl → Int → Heap → Prop} {H0 : Heap} (hle : H0.le H) (hb : H0 b = some (true, .row [slv s, .bool false])) (k : FeedK C b H0 S K) {x : Sl × Sl} {H' : Heap} {l : List Str} {t : Str} {e : Int} (hR : FeedR H0 H S x H' l t)
    (e1 : cut t = ([], [], e)) (he : e ≠ 0) : c_frame_Reader_close C (some (b, 0)) x.2 e (fun r24 r25 H26 => ∃ H0, Gh C H26 H0 ∧ K r24 r25 H0) H' := by
  have hbH : H' b = some (true, .row [slv s, .bool false]) := hR.own.le _ _ (hle _ _ hb)
  have hne : ∀ p, x.2.p = some p → p.1 ≠ b := fun p hp e => by
    have := hR.own.fresh p hp
    rw [e, hle _ _ hb] at this; cases this
  refine frame_close_ok hbH ⟨_, Gh.refl _, ?_⟩
  have eS : cut S = (l, [], e) := by rw [hR.cut, e1]; simp
  have := k x.2 (H'.put b (.row [slv Sl.nil, .bool true])) ?_ ?_ ?_ (hR.own.fresh.le hle)
  · rw [eS] at this; exact this
  · exact Heap.but.trans (Heap.le.but (hle.trans hR.own.le)) (Heap.but.put _ _ _ _)
  · rw [eS]
    have : (e != 0) = true := by simpa using he
    rw [this]
    exact ⟨Sl.nil, Heap.put_same .., rfl, rfl, .inl rfl⟩
  · rw [eS]
    exact hR.own.own.but (Heap.but.put _ _ _ _) hne

/-- what is held is sealed -/
theorem feed_hold {b : Nat} {S t : Str} {s x o : Sl} {K : Sl → Int → Heap → Prop} {H0 H' : Heap} (hle : H0.le H) (hb : H0 b = some (true, .row [slv s, .bool false])) (k : FeedK C b H0 S K) {l : List Str} (hR : FeedR H0 H S (x, o) H' l t)
    (ht : Sx.cut t = ([], t, 0)) {y : Sl} (hyl : y.len = t.length) (hyc : y.cap = t.length) (hyp : ∀ p, x.p = some p → t ≠ [] → y.p = some p) (hyx : x.x = none → y.x = none) :
    ∃ H2, Gh C (H'.put b (.row [slv y, .bool false])) H2 ∧ K o 0 H2 := by
  obtain ⟨hcut, hlen, ho, hx, hxl, hxc, hxs⟩ := hR
  dsimp only at hcut hlen ho hx hxl hxc hxs
  have hbH : H' b = some (true, .row [slv s, .bool false]) := ho.le _ _ (hle _ _ hb)
  have eS : Sx.cut S = (l, t, 0) := by rw [hcut, ht]; simp
  have hne : ∀ p, o.p = some p → p.1 ≠ b := fun p hp e => by
    have := ho.fresh p hp
    rw [e, hle _ _ hb] at this; cases this
  unfold FeedK at k
  rw [eS] at k
  cases t with
  | nil =>
    refine ⟨_, Gh.refl _, k o _ (Heap.but.trans (Heap.le.but (hle.trans ho.le)) (Heap.but.put _ _ _ _)) ?_ (ho.own.but (Heap.but.put _ _ _ _) hne) (ho.fresh.le hle)⟩
    exact ⟨y, Heap.put_same .., hyl, by rw [hyc, hyl], .inl rfl⟩
  | cons c t =>
    rcases hx with hx | ⟨hx0, p, hp, hr⟩
    · simp [bytesV] at hx
    have h0 := rds_get hr 0 _ (by simp [bytesV]; rfl)
    simp only [rd] at h0
    split at h0
    · rename_i m row hrow
      have hpb : p.1 ≠ b := fun e => by
        rcases hxs (by simp) p hp with ⟨g, hg⟩ | hg
        · rw [e, hle _ _ hb] at hg; cases hg
        · rw [e, hb] at hg; cases hg
      have hpo : ∀ q, o.p = some q → q.1 ≠ p.1 := fun q hq e => by
        have := ho.fresh q hq
        rw [e, hrow] at this; cases this
      have hrow' : (H'.put b (.row [slv y, .bool false])) p.1 = some (m, .row row) := by rw [Heap.put_ne _ _ _ hpb]; exact ho.le _ _ hrow
      refine ⟨_, Gh.seal_ hrow', k o _ ?_ ?_ ?_ (ho.fresh.le hle)⟩
      · intro q e hq hh
        by_cases hqp : q = p.1
        · subst hqp
          rw [Heap.put_same]
          rcases hxs (by simp) p hp with ⟨g, hg⟩ | hg
          · rw [hle _ _ hh] at hg
            rw [hle _ _ hh] at hrow
            injection hrow with hrow
            injection hg with hg
            rw [hrow] at hg
            injection hg with h1 h2
            rw [hrow, h1]
          · rw [hg] at hh; cases hh
        · rw [Heap.put_ne _ _ _ hqp, Heap.put_ne _ _ _ hq]
          exact ho.le _ _ (hle _ _ hh)
      · refine ⟨y, by rw [Heap.put_ne _ _ _ (Ne.symm hpb), Heap.put_same]; simp, hyl, by rw [hyc, hyl], .inr ⟨hyx hx0, p.1, p.2, row, hyp p hp (by simp), Heap.put_same .., fun j v hj => ?_⟩⟩
        have := rds_get hr j v hj
        simp only [rd, hrow] at this
        exact this
      · refine (ho.own.but (Heap.but.put _ _ _ _) hne).but (Heap.but.put _ _ _ _) hpo
    · cases h0

/-- the loop of Feed -/
theorem frame_Feed_go {b : Nat} {S : Str} {s r : Sl} {K : Sl → Int → Heap → Prop} {H0 : Heap} (hle : H0.le H) (hb : H0 b = some (true, .row [slv s, .bool false])) (hr : rdsl H r (bytesV S)) (hrl : r.len = S.length) (hrc : r.len ≤ r.cap)
    (hl : S.length ≤ 1048576) (hsl : S ≠ [] → ∀ p, r.p = some p → (∃ g, H p.1 = some (false, g)) ∨ H0 p.1 = none)
    (k : FeedK C b H0 S K) :
    jn (α := Sl × Sl) (fun x14 H15 =>
      slL x14.1 0 (Sl.len x14.1 : Int) (Sl.len x14.1 : Int) 1 fun t59 =>
      nck (some (b, 0)) fun p65 =>
      st (p65.1, p65.2 + 0) (slv t59) (fun H67 => ∃ H0, Gh C H67 H0 ∧ K x14.2 0 H0) H15)
    (fun J13 => lp (α := Sl × Sl) (r, Sl.nil) H (fun x17 J18 H19 =>
      ift (decide (((Sl.len x17.1 : Int) : Int) ≥ 4))
      (c_frame_get C x17.1 (fun r21 H22 =>
      ift (decide ((r21 : Int) > 65536))
      (c_frame_Reader_close C (some (b, 0)) x17.2 40 (fun r24 r25 H26 =>
      ∃ H0, Gh C H26 H0 ∧ K r24 r25 H0) H22)
      (ift (decide (((Sl.len x17.1 : Int) : Int) < (w .i64 ((w .i64 (4 + (w .i64 r21))) + 4))))
      (J13 (x17.1, x17.2) H22)
      (slL x17.1 4 (w .i64 (4 + (w .i64 r21))) (Sl.cap x17.1 : Int) 1 fun t28 =>
      b2s t28 (fun t34 =>
      slL x17.1 (w .i64 (4 + (w .i64 r21))) (Sl.len x17.1 : Int) (Sl.cap x17.1 : Int) 1 fun t37 =>
      c_frame_get C t37 (fun r43 H44 =>
      c_frame_Sum C t34 (fun r45 H46 =>
      ift ((r43 : Int) != r45)
      (c_frame_Reader_close C (some (b, 0)) x17.2 90 (fun r48 r49 H50 =>
      ∃ H0, Gh C H50 H0 ∧ K r48 r49 H0) H46)
      (apd ([sv []]) 16 x17.2 ([sv t34]) 1 (fun r51 H52 =>
      slL x17.1 (w .i64 ((w .i64 (4 + (w .i64 r21))) + 4)) (Sl.len x17.1 : Int) (Sl.cap x17.1 : Int) 1 fun t53 =>
      J18 (t53, r51) H52) H46)) H44) H22) H22))) H19)
      (J13 (x17.1, x17.2) H19))) := by
  refine ⟨fun x H' => ∃ l t, FeedR H0 H S x H' l t ∧ cut t = ([], t, 0), ?_, ?_⟩
  · refine ⟨fun x H' => ∃ l t, FeedR H0 H S x H' l t, fun x _ => x.1.len, ⟨[], S, by simp, by simp, OwnF.nil H 1, hr, hrl, hrc, hsl⟩, ?_⟩
    rintro ⟨x, o⟩ H' ⟨l, t, hR⟩
    obtain ⟨hcut, hlen, ho, hxH, hxl, hxc, hxs⟩ := id hR
    dsimp only at hcut hlen ho hxH hxl hxc hxs ⊢
    have hx := rdsl_le ho.le hxH
    have hol : o.len = l.length := by have := ho.own.1; simpa using this.symm
    refine ift.of (fun h => ?_) (fun h => ?_)
    · have h1 : 4 ≤ t.length := by simp at h; omega
      refine frame_get_ok hx (by omega) h1 ?_
      have hn := numS_lt t
      refine ift.of (fun h => ?_) (fun h => ?_)
      · have h2 : 65536 < numS t := by simp at h; omega
        exact feed_shut (x := (x, o)) hle hb k hR (cut_large h1 h2) (by decide)
      have h2 : numS t ≤ 65536 := by simp at h; omega
      obtain ⟨e1, e2, e3⟩ := feed_step h2
      rw [e1, e2, e3]
      clear e1 e2 e3
      refine ift.of (fun h => ?_) (fun h => ?_)
      · have h3 : t.length < numS t + 8 := by simp at h; omega
        exact ⟨l, t, hR, cut_wait h1 h2 h3⟩
      have h3 : numS t + 8 ≤ t.length := by simp at h; omega
      have hb1 := bodyS_len h3
      have hb2 := bodyS_eq t
      have hstep := fun h4 => cut_go (s0 := S) (l := l) hcut h1 h2 h3 h4
      have hbad := fun h4 => cut_bad h1 h2 h3 h4
      generalize bodyS t = B at *
      generalize numS t = n at *
      refine ⟨by omega, by omega, by omega, by omega, _, rfl, B, (show B.length = ((4 + (n : Int)) - 4).toNat by omega), ?_, ?_⟩
      · rw [hb2]; exact feed_body hx hxl hxc n rfl h3
      refine ⟨by omega, by omega, by omega, by omega, _, rfl, ?_⟩
      refine frame_get_ok (s := t.drop (4 + n)) (feed_slice hx hxl hxc (4 + n) (by omega) (by omega)) (by dsimp only; omega) (by simp; omega) ?_
      refine frame_Sum_ok (by omega) ?_
      refine ift.of (fun h => ?_) (fun h => ?_)
      · exact feed_shut (x := (x, o)) hle hb k hR (hbad ((iB_ne _ _).1 h)) (by decide)
      have h4 : numS (t.drop (4 + n)) = crcN B := by
        by_cases hh : numS (t.drop (4 + n)) = crcN B
        · exact hh
        · have := (iB_ne _ _).2 hh; rw [this] at h; cases h
      refine apd_ownF (zc := [sv []]) ho rfl (by omega) (by omega) fun o2 H2 ho2 ho2l => ?_
      refine ⟨by omega, by omega, by omega, by omega, _, rfl, ?_⟩
      refine ⟨⟨l ++ [B], t.drop (8 + n), hstep h4, by simp; omega, by simpa using ho2, ?_, by simp; omega, by dsimp only; omega, fun hne p hp => ?_⟩, by dsimp only; omega⟩
      · have := feed_slice hxH hxl hxc (a := 4 + (n : Int) + 4) (8 + n) (by omega) (by omega)
        exact this
      · obtain ⟨q, hq, e⟩ := feed_block hp
        rw [← e]; exact hxs (fun h0 => hne (by rw [h0]; simp)) q hq
    · have h1 : t.length < 4 := by simp at h; omega
      exact ⟨l, t, hR, cut_short h1⟩
  · rintro ⟨x, o⟩ H' ⟨l, t, hR, ht⟩
    have hbH : H' b = some (true, .row [slv s, .bool false]) := hR.own.le _ _ (hle _ _ hb)
    have hxl := hR.xl
    have hxc := hR.xc
    dsimp only at hxl hxc ⊢
    refine ⟨by omega, by omega, by omega, by omega, _, rfl, _, rfl, _, hbH, by simp, ?_⟩
    refine feed_hold hle hb k hR ht (by dsimp only; omega) (by dsimp only; omega) (fun p hp hne => ?_) (fun h => by simp [h])
    have : 0 < t.length := List.length_pos_iff.2 hne
    simp only [hp]
    rw [if_neg (by omega)]
    simp
theorem frame_Feed_ok {b : Nat} {held c : Str} {ch : Sl} {K : Sl → Int → Heap → Prop} (h : Rd H b held false) (hc : rdsl H ch (bytesV c)) (hcl : ch.len = c.length) (hl : (held ++ c).length ≤ 1048576)
    (k : ∀ o H2, Heap.but b H H2 → Rd H2 b (cut (held ++ c)).2.1 ((cut (held ++ c)).2.2 != 0) → Own H2 1 o ((cut (held ++ c)).1.map sv) → Fresh H o → K o (cut (held ++ c)).2.2 H2) : c_frame_Reader_Feed C (some (b, 0)) ch K H := by
  obtain ⟨s, hb, hsl, hsc, him⟩ := h
  apply c_frame_Reader_Feed.gh
  apply ad_frame_Reader_Feed
  unfold sh_frame_Reader_Feed
  have hl2 : held.length + c.length ≤ 1048576 := by simpa using hl
  refine ift_neg rfl ⟨_, rfl, false, by rw [rd_row hb]; rfl, ift_neg rfl ⟨_, rfl, s, by rw [rd_row hb]; rfl, ?_⟩⟩
  refine apS_full (cs := bytesV held) (ys := bytesV c) him.rdsl (by simp [bytesV, hsl]) hsc hc (by simp [bytesV, hcl]) (bytes_one c) (by omega) (by omega) (fun h0 => ?_) (fun b2 cap hpos hnone hcap => ?_)
  · have hc0 : c = [] := List.length_eq_zero_iff.1 (by omega)
    subst hc0
    refine frame_Feed_go (Heap.le.refl H) hb (S := held ++ []) (by rw [List.append_nil]; exact him.rdsl) (by simpa using hsl) (by omega) hl (fun hne p hp => ?_) k
    rcases him with hnil | ⟨hx, bb, o, row, hp', hbb, _⟩
    · exact absurd (by simpa [bytesV] using hnil) hne
    · rw [hp'] at hp; injection hp with hp; subst hp
      exact .inl ⟨_, hbb⟩
  · refine frame_Feed_go (Heap.le_put hnone) hb (S := held ++ c) (.inr ⟨rfl, (b2, 0), rfl, ?_⟩) (by simp [hsl, hcl]) hcap hl (fun hne p hp => ?_) k
    · refine rds_row (Heap.put_same ..) fun j v hj => ?_
      rw [bytesV_append] at hj
      have := (List.getElem?_eq_some_iff.1 hj).1
      rw [Nat.zero_add, List.getElem?_append_left this]; exact hj
    · injection hp with hp; subst hp; exact .inr hnone

theorem frame_Held_ok {b : Nat} {held : Str} {shut : Bool} {K : Int → Heap → Prop} (h : Rd H b held shut) (k : K (held.length : Int) H) : c_frame_Reader_Held C (some (b, 0)) K H := by
  obtain ⟨s, hb, hsl, hsc, him⟩ := h
  apply ad_frame_Reader_Held
  unfold sh_frame_Reader_Held
  refine ift_neg rfl ⟨_, rfl, s, by rw [rd_row hb]; rfl, ?_⟩
  dsimp only
  rw [hsl]; exact k
theorem frame_Held_nil {K : Int → Heap → Prop} (k : K 0 H) : c_frame_Reader_Held C none K H := by
  apply ad_frame_Reader_Held
  unfold sh_frame_Reader_Held
  exact ift_pos rfl k
theorem frame_Shut_ok {b : Nat} {held : Str} {shut : Bool} {K : Bool → Heap → Prop} (h : Rd H b held shut) (k : K shut H) : c_frame_Reader_Shut C (some (b, 0)) K H := by
  obtain ⟨s, hb, hsl, hsc, him⟩ := h
  apply ad_frame_Reader_Shut
  unfold sh_frame_Reader_Shut
  exact jn.inl (ift_pos rfl ⟨_, rfl, shut, by rw [rd_row hb]; rfl, k⟩)
theorem frame_Shut_nil {K : Bool → Heap → Prop} (k : K false H) : c_frame_Reader_Shut C none K H := by
  apply ad_frame_Reader_Shut
  unfold sh_frame_Reader_Shut
  exact jn.inl (ift_neg rfl k)

theorem ref30_Held_ok {b : Nat} {s : Str} {x y : Value} {K : Int → Heap → Prop} (h : H b = some (true, .row [sv s, x, y])) (hl : s.length ≤ 1048576) (k : K ((cut s).2.1.length : Int) H) : c_ref30_Reader_Held C (some (b, 0)) K H := by
  apply c_ref30_Reader_Held.gh
  apply ad_ref30_Reader_Held
  unfold sh_ref30_Reader_Held
  refine ⟨_, rfl, s, by rw [rd_row h]; rfl, ref30_Cut_ok hl fun o H2 ho => ⟨H, Gh.le ho.le, k⟩⟩

theorem ref30_Feed_shut {b : Nat} {s : Str} {n w : Int} {c : Sl} {K : Sl → Int → Heap → Prop} (h : H b = some (true, .row [sv s, .int .i64 n, .int .i64 w])) (hw : w ≠ 0) (k : K Sl.nil 50 H) : c_ref30_Reader_Feed C (some (b, 0)) c K H := by
  apply ad_ref30_Reader_Feed
  unfold sh_ref30_Reader_Feed
  refine ⟨_, rfl, w, by rw [rd_row h]; rfl, ift_pos (by simpa using hw) k⟩

theorem ref30_Feed_ok {b : Nat} {s c : Str} {n : Nat} {ch : Sl} {K : Sl → Int → Heap → Prop} (h : H b = some (true, .row [sv s, .int .i64 n, .int .i64 0])) (hc : rdsl H ch (bytesV c)) (hcl : ch.len = c.length) (hl : (s ++ c).length ≤ 1048576)
    (hn : n ≤ (cut (s ++ c)).1.length)
    (k : ∀ o H2, Heap.but b H H2 → H2 b = some (true, .row [sv (s ++ c), .int .i64 ((cut (s ++ c)).1.length : Nat), .int .i64 (cut (s ++ c)).2.2]) → rdsl H2 o (((cut (s ++ c)).1.drop n).map sv) → o.len = ((cut (s ++ c)).1.drop n).length → K o (cut (s ++ c)).2.2 H2) :
    c_ref30_Reader_Feed C (some (b, 0)) ch K H := by
  apply ad_ref30_Reader_Feed
  unfold sh_ref30_Reader_Feed
  have hl2 : s.length + c.length ≤ 1048576 := by simpa using hl
  refine ⟨_, rfl, 0, by rw [rd_row h]; rfl, ift_neg rfl ⟨H, Heap.le.refl H, _, rfl, s, by rw [rd_row h]; rfl, c, by omega, hc, by unfold catOk; omega, _, rfl, _, h, by simp, _, rfl, s ++ c, by rw [rd_same]; rfl, ?_⟩⟩
  refine ref30_Cut_ok hl fun o H2 ho => ?_
  have hb2 : H2 b = some (true, .row [sv (s ++ c), .int .i64 n, .int .i64 0]) := ho.le _ _ (Heap.put_same ..)
  have hlen := ho.own.1
  simp only [List.length_map, Nat.mul_one] at hlen
  have hcap := ho.own.2.2.1
  refine ⟨_, rfl, n, by rw [rd_row hb2]; rfl, by omega, by omega, by omega, by omega, _, rfl, _, rfl, _, hb2, by simp, _, rfl, _, Heap.put_same .., by simp, ?_⟩
  rw [Heap.put_put]
  have hne : ∀ p, o.p = some p → p.1 ≠ b := fun p hp e => by
    have := ho.fresh p hp
    rw [e, Heap.put_same] at this; cases this
  refine k _ _ ?_ ?_ ?_ ?_
  · exact Heap.but.trans (Heap.but.trans (Heap.but.put _ _ _ _) (Heap.le.but ho.le)) (Heap.but.put _ _ _ _)
  · rw [Heap.put_same, hlen]; rfl
  · have e : ((cut (s ++ c)).1.drop n).map sv = (((cut (s ++ c)).1.map sv).drop ((n : Int).toNat * 1)).take (((o.len : Int) - (n : Int)).toNat * 1) := by
      rw [show (n : Int).toNat * 1 = n by omega, show ((o.len : Int) - (n : Int)).toNat * 1 = (((cut (s ++ c)).1.map sv).drop n).length by simp; omega, List.take_length, List.map_drop]
    rw [e]; exact rdsl_slice (ho.own.but (Heap.but.put _ _ _ _) hne).rdsl (lo := (n : Int)) (hi := (o.len : Int)) (mx := (o.cap : Int)) (z := 1) (by omega) (by omega) (by omega) (by simp; omega)
  · simp; omega
end
end Sx
