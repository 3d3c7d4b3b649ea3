/-
  The reader's questions; the examples.
-/
import Derived.Test.YtlpjpjbgfffffaaDoorCodeP3
set_option linter.unusedVariables false
set_option maxRecDepth 10000
namespace Sx
open Go Go.Proofs

def numK (c : UInt8) : Int := (if c < 128 then 255 - (c.toNat : Int) else (c.toNat : Int)) - 128
def numR (r : RS) : Int × RS :=
  let below := decide ((nextR r).1 < 128)
  let q := numberR (numK (nextR r).1) 8 (flipR below (nextR r).2)
  let z := askR (decide (q.1 ≤ 9223372036854775807)) (flipR below q.2)
  (if z.f then 0 else if below then -1 - (q.1 : Int) else (q.1 : Int), z)
def countR (most : Int) (r : RS) : Int × RS :=
  let q := numberR ((nextR r).1.toNat : Int) 4 (nextR r).2
  let z := askR (decide (0 ≤ most) && decide (q.1 ≤ 2147483647) && decide ((q.1 : Int) ≤ most)) q.2
  (if z.f then 0 else (q.1 : Int), z)
def flagR (r : RS) : Bool × RS :=
  let z := askR (decide ((nextR r).1.toNat ≤ 1)) (nextR r).2
  (!z.f && decide ((nextR r).1.toNat = 1), z)
def strF : Nat → Int → Str → RS → Str × RS
  | 0, _, _, r => ([], r)
  | n + 1, most, acc, r =>
    if (askR (decide ((acc.length : Int) ≤ most)) r).f then ([], askR (decide ((acc.length : Int) ≤ most)) r)
    else if (nextR (askR (decide ((acc.length : Int) ≤ most)) r)).1 = 0 then
      let q := nextR (nextR (askR (decide ((acc.length : Int) ≤ most)) r)).2
      let z := askR (decide (q.1 = 0) || decide (q.1 = 255)) q.2
      if z.f then ([], z) else if q.1 = 0 then (acc, z) else strF n most (acc ++ [0]) z
    else strF n most (acc ++ [(nextR (askR (decide ((acc.length : Int) ≤ most)) r)).1]) (nextR (askR (decide ((acc.length : Int) ≤ most)) r)).2
def strR (most : Int) (r : RS) : Str × RS := strF (r.s.length + 2) most [] r

section
variable {C : Ctx} {H : Heap}

theorem u8_lt_iff (a : UInt8) (n : Nat) (hn : n < 256) : decide ((a.toNat : Int) < (n : Int)) = decide (a < UInt8.ofNat n) := by
  rw [Bool.eq_iff_iff]
  simp only [decide_eq_true_eq, UInt8.lt_iff_toNat_lt, UInt8.toNat_ofNat']
  omega

theorem readNum_ok {b : Nat} {r : RS} {K : Int → Heap → Prop} (h : Rdr H b r) (k : ∀ H2, Heap.but b H H2 → Rdr H2 b (numR r).2 → K (numR r).1 H2) : c_code_Reader_Num C (some (b, 0)) K H := by
  apply ad_code_Reader_Num
  unfold sh_code_Reader_Num
  refine ift_neg rfl (next_ok h fun H2 hb2 hr2 => ?_)
  have hc := u8_lt (nextR r).1
  have e0 : decide (((nextR r).1.toNat : Int) < 128) = decide ((nextR r).1 < 128) := u8_lt_iff (nextR r).1 128 (by omega)
  rw [e0]
  refine ⟨fun x H' => x = (if (nextR r).1 < 128 then 255 - ((nextR r).1.toNat : Int) else ((nextR r).1.toNat : Int)) ∧ H2 = H', ?_, ?_⟩
  · refine ift.of (fun hh => ⟨?_, rfl⟩) (fun hh => ⟨?_, rfl⟩)
    · rw [if_pos (of_decide_eq_true hh)]
      have e1 : bXor .u8 255 ((nextR r).1.toNat : Int) = (((255 : UInt8) ^^^ (nextR r).1).toNat : Int) := xor_u8 255 _
      rw [e1]
      have e2 : ∀ c : UInt8, ((255 : UInt8) ^^^ c).toNat + c.toNat = 255 := by
        intro c
        have : ∀ i : Fin 256, ((255 : UInt8) ^^^ UInt8.ofNat i.val).toNat + (UInt8.ofNat i.val).toNat = 255 := by decide +kernel
        have h := this ⟨c.toNat, u8_lt c⟩
        simpa using h
      have := e2 (nextR r).1
      omega
    · rw [if_neg (of_decide_eq_false hh)]
  rintro x _ ⟨rfl, rfl⟩
  refine flip_ok hr2 fun H3 hb3 hr3 => ?_
  have e4 : w .i64 (w .i64 (if (nextR r).1 < 128 then 255 - ((nextR r).1.toNat : Int) else ((nextR r).1.toNat : Int)) - 128) = numK (nextR r).1 := by
    unfold numK
    split
    · rw [w_i64 (x := 255 - ((nextR r).1.toNat : Int)) (by omega) (by omega)]; exact w_i64 (by omega) (by omega)
    · rw [w_i64 (x := ((nextR r).1.toNat : Int)) (by omega) (by omega)]; exact w_i64 (by omega) (by omega)
  rw [e4]
  have hk : numK (nextR r).1 ≤ 1000000 := by unfold numK; split <;> omega
  refine number_ok hk hr3 fun H4 hb4 hr4 hlt => ?_
  refine flip_ok hr4 fun H5 hb5 hr5 => ?_
  have e5 : decide (((numberR (numK (nextR r).1) 8 (flipR (decide ((nextR r).1 < 128)) (nextR r).2)).1 : Int) ≤ 9223372036854775807) = decide ((numberR (numK (nextR r).1) 8 (flipR (decide ((nextR r).1 < 128)) (nextR r).2)).1 ≤ 9223372036854775807) := by
    rw [Bool.eq_iff_iff]; simp only [decide_eq_true_eq]; omega
  rw [e5]
  refine ask_ok hr5 fun H6 hb6 hr6 => ?_
  have hb := (((hb2.trans hb3).trans hb4).trans hb5).trans hb6
  have hk2 := k H6 hb hr6
  unfold numR at hk2
  dsimp only at hk2
  generalize hq : (numberR (numK (nextR r).1) 8 (flipR (decide ((nextR r).1 < 128)) (nextR r).2)).1 = q at *
  generalize hz : askR (decide (q ≤ 9223372036854775807)) (flipR (decide ((nextR r).1 < 128)) (numberR (numK (nextR r).1) 8 (flipR (decide ((nextR r).1 < 128)) (nextR r).2)).2) = z at *
  refine ift.of (fun hf => ?_) (fun hf => ?_)
  · have hf : z.f = true := by simpa using hf
    rw [if_pos hf] at hk2; exact hk2
  · have hf : z.f = false := by simpa using hf
    rw [if_neg (by rw [hf]; decide)] at hk2
    have hq63 : q ≤ 9223372036854775807 := by
      rcases Nat.lt_or_ge 9223372036854775807 q with hgt | hle
      · rw [← hz, decide_eq_false (by omega)] at hf; cases hf
      · exact hle
    rw [w_i64 (by omega) (by omega)]
    refine ift.of (fun hbl => ?_) (fun hbl => ?_)
    · rw [if_pos hbl] at hk2
      rw [bnot_i64 (by omega) (by omega)]; exact hk2
    · rw [if_neg (by rw [hbl]; decide)] at hk2; exact hk2

theorem readCount_ok {b : Nat} {r : RS} {most : Int} {K : Int → Heap → Prop} (h : Rdr H b r) (k : ∀ H2, Heap.but b H H2 → Rdr H2 b (countR most r).2 → K (countR most r).1 H2) : c_code_Reader_Count C (some (b, 0)) most K H := by
  apply ad_code_Reader_Count
  unfold sh_code_Reader_Count
  refine ift_neg rfl (next_ok h fun H2 hb2 hr2 => ?_)
  have hc := u8_lt (nextR r).1
  rw [w_i64 (x := ((nextR r).1.toNat : Int)) (by omega) (by omega)]
  refine number_ok (by omega) hr2 fun H3 hb3 hr3 hlt => ?_
  have hk2 := fun H4 hb hr => k H4 hb hr
  unfold countR at hk2
  dsimp only at hk2
  generalize hq : (numberR ((nextR r).1.toNat : Int) 4 (nextR r).2).1 = q at *
  have e0 : (decide (most ≥ 0) && decide ((q : Int) ≤ 2147483647) && decide (w .i64 (q : Int) ≤ most)) = (decide (0 ≤ most) && decide (q ≤ 2147483647) && decide ((q : Int) ≤ most)) := by
    by_cases hq31 : q ≤ 2147483647
    · rw [w_i64 (by omega) (by omega), decide_eq_true hq31, decide_eq_true (show (q : Int) ≤ 2147483647 by omega)]
    · rw [decide_eq_false hq31, decide_eq_false (show ¬ (q : Int) ≤ 2147483647 by omega)]; simp
  rw [e0]
  refine ask_ok hr3 fun H4 hb4 hr4 => ?_
  have hk3 := hk2 H4 ((hb2.trans hb3).trans hb4) hr4
  generalize hz : askR (decide (0 ≤ most) && decide (q ≤ 2147483647) && decide ((q : Int) ≤ most)) (numberR ((nextR r).1.toNat : Int) 4 (nextR r).2).2 = z at *
  refine ift.of (fun hf => ?_) (fun hf => ?_)
  · have hf : z.f = true := by simpa using hf
    rw [if_pos hf] at hk3; exact hk3
  · have hf : z.f = false := by simpa using hf
    rw [if_neg (by rw [hf]; decide)] at hk3
    have hq31 : q ≤ 2147483647 := by
      rcases Nat.lt_or_ge 2147483647 q with hgt | hle
      · rw [← hz, decide_eq_false (show ¬ q ≤ 2147483647 by omega)] at hf
        simp [askR] at hf
      · exact hle
    rw [w_i64 (by omega) (by omega)]; exact hk3

theorem readFlag_ok {b : Nat} {r : RS} {K : Bool → Heap → Prop} (h : Rdr H b r) (k : ∀ H2, Heap.but b H H2 → Rdr H2 b (flagR r).2 → K (flagR r).1 H2) : c_code_Reader_Flag C (some (b, 0)) K H := by
  apply ad_code_Reader_Flag
  unfold sh_code_Reader_Flag
  refine ift_neg rfl (next_ok h fun H2 hb2 hr2 => ?_)
  have e0 : decide (((nextR r).1.toNat : Int) ≤ 1) = decide ((nextR r).1.toNat ≤ 1) := by rw [Bool.eq_iff_iff]; simp only [decide_eq_true_eq]; omega
  rw [e0]
  refine ask_ok hr2 fun H3 hb3 hr3 => ?_
  have hk := k H3 (hb2.trans hb3) hr3
  have e1 : (((nextR r).1.toNat : Int) == 1) = decide ((nextR r).1.toNat = 1) := by rw [Bool.eq_iff_iff]; simp only [decide_eq_true_eq, beq_iff_eq]; omega
  rw [e1]; exact hk

theorem ok_ok {b : Nat} {r : RS} {K : Bool → Heap → Prop} (h : Rdr H b r) (k : K (!r.f) H) : c_code_Reader_OK C (some (b, 0)) K H := by
  obtain ⟨sl, h1, h2, h3, h4⟩ := h.ok
  apply ad_code_Reader_OK
  unfold sh_code_Reader_OK
  exact jn.inl (ift_pos rfl ⟨_, rfl, r.f, by rw [rd_row h1]; rfl, k⟩)
theorem left_ok {b : Nat} {r : RS} {K : Int → Heap → Prop} (h : Rdr H b r) (k : K (r.s.length : Int) H) : c_code_Reader_Left C (some (b, 0)) K H := by
  obtain ⟨sl, h1, h2, h3, h4⟩ := h.ok
  apply ad_code_Reader_Left
  unfold sh_code_Reader_Left
  refine ift_neg rfl ⟨_, rfl, sl, by rw [rd_row h1]; rfl, ?_⟩
  dsimp only
  rw [h2]; exact k
theorem done_ok {b : Nat} {r : RS} {K : Bool → Heap → Prop} (h : Rdr H b r) (k : K (!r.f && decide (r.s.length = 0)) H) : c_code_Reader_Done C (some (b, 0)) K H := by
  apply ad_code_Reader_Done
  unfold sh_code_Reader_Done
  refine ok_ok h ?_
  refine jn.inl (ift.of (fun hf => left_ok h ?_) (fun hf => ?_))
  · have e : ((r.s.length : Int) == 0) = decide (r.s.length = 0) := by rw [Bool.eq_iff_iff]; simp only [decide_eq_true_eq, beq_iff_eq]; omega
    rw [e]; rw [hf] at k; simpa using k
  · rw [hf] at k; exact k

theorem NewReader_ok {s : Sl} {a : Str} {K : Option (Nat × Nat) → Heap → Prop} (hr : rdsl H s (bytesV a)) (hl : s.len = a.length) (hm : a.length ≤ 140737488355328) (k : ∀ b H2, H b = none → H.le H2 → Rdr H2 b ⟨a, 0, false⟩ → K (some (b, 0)) H2) : c_code_NewReader C s K H := by
  apply c_code_NewReader.gh
  apply ad_code_NewReader
  unfold sh_code_NewReader
  refine clone_ok hr hl hm (rdsl_nil hr) fun r H2 h2 => ?_
  intro b hb
  obtain ⟨hle, ⟨hcl, hx, hc, hcase⟩, hfr⟩ := h2
  have hlen : r.len = a.length := by simp [bytesV] at hcl; omega
  rcases hcase with ⟨hp, h0⟩ | ⟨g, sp, hp, hg, hgl⟩
  · have ha : a = [] := List.length_eq_zero_iff.1 (by omega)
    subst ha
    refine ⟨_, Gh.refl _, k b _ (hle.none hb) (hle.trans (Heap.le_put hb)) ⟨r, Heap.put_same .., hlen, hc, .inl rfl⟩⟩
  · have hgb : g ≠ b := fun e => by subst e; rw [hg] at hb; cases hb
    have hg2 : (H2.put b (.row (T_code_Reader.c ⟨r, 0, false⟩))) g = some (true, .row (bytesV a ++ sp)) := by rw [Heap.put_ne _ _ _ hgb]; exact hg
    refine ⟨_, Gh.seal_ hg2, k b _ (hle.none hb) (fun x e hx' => ?_) ⟨r, ?_, hlen, hc, .inr ⟨hx, g, 0, bytesV a ++ sp, hp, Heap.put_same .., fun j v hj => ?_⟩⟩⟩
    · have h1 : x ≠ g := fun e' => by subst e'; have := hfr _ hp; dsimp only at this; rw [this] at hx'; cases hx'
      have h2' : x ≠ b := fun e' => by subst e'; rw [hle.none hb] at hx'; cases hx'
      rw [Heap.put_ne _ _ _ h1, Heap.put_ne _ _ _ h2']; exact hle _ _ hx'
    · rw [Heap.put_ne _ _ _ (Ne.symm hgb), Heap.put_same]; rfl
    · have := (List.getElem?_eq_some_iff.1 hj).1
      rw [Nat.zero_add, List.getElem?_append_left this]; exact hj

theorem nextR_len (r : RS) : (nextR r).2.s.length ≤ r.s.length ∧ ((nextR r).2.f = false → (nextR r).2.s.length < r.s.length) := by
  by_cases hh : 0 < r.s.length
  · have e2 : askR (decide (0 < r.s.length)) r = r := by unfold askR; rw [decide_eq_true hh]; rfl
    unfold nextR
    rw [e2]
    split
    · rename_i hf; exact ⟨Nat.le_refl _, fun h => by dsimp only at h; rw [hf] at h; cases h⟩
    · exact ⟨by simp, fun _ => by simp; omega⟩
  · have e2 : askR (decide (0 < r.s.length)) r = ⟨[], r.t, true⟩ := by unfold askR; rw [decide_eq_false hh]; rfl
    unfold nextR
    rw [e2, if_pos rfl]
    exact ⟨Nat.zero_le _, fun h => by cases h⟩
theorem askR_f {ok : Bool} {r : RS} (h : (askR ok r).f = false) : ok = true ∧ askR ok r = r := by
  cases ok with
  | true => exact ⟨rfl, rfl⟩
  | false => cases h

def rdrLen (H : Heap) (b : Nat) : Nat := match rd H (b, 0) with | some (.slice _ n _) => n | _ => 0
theorem Rdr.len {b : Nat} {r : RS} (h : Rdr H b r) : rdrLen H b = r.s.length := by
  obtain ⟨sl, h1, h2, h3, h4⟩ := h.ok
  have : rd H (b, 0) = some (slv sl) := by rw [rd_row h1]; rfl
  unfold rdrLen
  rw [this]
  exact h2

/-- where the loop of Str stands -/
structure StrI (H H' : Heap) (b : Nat) (x : Sl) (acc : Str) (r : RS) : Prop where
  but : Heap.but b H H'
  rdr : Rdr H' b r
  own : Own H' 1 x (bytesV acc)
  fresh : Fresh H x
  ne : ∀ p, x.p = some p → p.1 ≠ b

theorem StrI.step {H' H2 : Heap} {b : Nat} {x : Sl} {acc : Str} {r r2 : RS} (h : StrI H H' b x acc r) (hb : Heap.but b H' H2) (hr : Rdr H2 b r2) : StrI H H2 b x acc r2 :=
  ⟨h.but.trans hb, hr, h.own.but hb h.ne, h.fresh, h.ne⟩

theorem StrI.push {H' : Heap} {b : Nat} {x : Sl} {acc : Str} {r : RS} (h : StrI H H' b x acc r) {c : UInt8} {K : Sl → Heap → Prop} (hl : acc.length + 1 ≤ 140737488355328) (k : ∀ x2 H2, StrI H H2 b x2 (acc ++ [c]) r → K x2 H2) :
    apd [.int .u8 0] 1 x [.int .u8 (c.toNat : Int)] 1 K H' := by
  have hof := h.own.off
  have hxl : x.len = acc.length := hof.lenB
  refine apd_ownF (zc := [.int .u8 0]) hof rfl (by omega) (by omega) fun x2 H2 ho _ => k x2 H2 ?_
  have hrd := h.rdr.off h.own h.ne
  obtain ⟨sl, hrow, _⟩ := hrd.ok
  have hxb : ∀ y e, H y = some e → y ≠ b → (H'.off x) y = some e := fun y e hy hyb => by
    refine Heap.off_some (h.but y e hyb hy) fun p hp e' => ?_
    have := h.fresh p hp
    rw [e', hy] at this; cases this
  have hne : ∀ p, x2.p = some p → p.1 ≠ b := fun p hp e' => by
    have := ho.fresh p hp
    rw [e', hrow] at this; cases this
  refine ⟨fun y e hyb hy => ho.le _ _ (hxb y e hy hyb), hrd.le ho.le, ?_, fun p hp => ?_, hne⟩
  · have := ho.own
    rw [bytesV_append]
    exact this
  · cases hy : H p.1 with
    | none => rfl
    | some e =>
      have h2 := hxb p.1 e hy (hne p hp)
      have h3 := ho.fresh p hp
      rw [h2] at h3; cases h3

theorem readStr_ok {b : Nat} {most : Int} {K : Str → Heap → Prop} {r0 : RS} (h : Rdr H b r0) (hl : r0.s.length ≤ 140737488355320) (k : ∀ H2, Heap.but b H H2 → Rdr H2 b (strR most r0).2 → K (strR most r0).1 H2) : c_code_Reader_Str C (some (b, 0)) most K H := by
  apply ad_code_Reader_Str
  unfold sh_code_Reader_Str
  refine ⟨fun _ H2 => Heap.but b H H2 ∧ Rdr H2 b (strR most r0).2 ∧ (strR most r0).1 = [], ?_, fun _ H2 ⟨h1, h2, h3⟩ => (by have := k H2 h1 h2; rw [h3] at this; exact this)⟩
  obtain ⟨sl0, hb0, _⟩ := h.ok
  refine ⟨fun x H' => ∃ (n : Nat) (acc : Str) (r : RS), strF (n + 1) most acc r = strR most r0 ∧ r.s.length ≤ n ∧ acc.length + r.s.length ≤ 140737488355320 ∧ StrI H H' b x acc r, 
    fun x H' => rdrLen H' b, ⟨r0.s.length + 1, [], r0, rfl, by omega, by simpa using hl, Heap.but.refl _ _, h, Own.nil _ _, Fresh.nil _, fun p hp => by cases hp⟩, ?_⟩
  rintro x H' ⟨n, acc, r, he, hn, hlen, hI⟩
  have hxl : x.len = acc.length := hI.own.off.lenB
  have hrl := hI.rdr.len
  apply jn.inl
  refine ift_pos rfl ?_
  dsimp only
  rw [hxl]
  refine ask_ok hI.rdr fun H2 hb2 hr2 => ?_
  have hI2 := hI.step hb2 hr2
  refine ift.of (fun hf => ?_) (fun hf => ?_)
  rotate_left
  · have hf : (askR (decide ((acc.length : Int) ≤ most)) r).f = true := by simpa using hf
    have e : strR most r0 = ([], askR (decide ((acc.length : Int) ≤ most)) r) := by rw [← he]; simp only [strF]; rw [if_pos hf]
    rw [e]
    exact ⟨hI2.but, hI2.rdr, rfl⟩
  have hf : (askR (decide ((acc.length : Int) ≤ most)) r).f = false := by simpa using hf
  have e0 := (askR_f hf).2
  have he2 : strF (n + 1) most acc r = if (nextR r).1 = 0 then
      (if (askR (decide ((nextR (nextR r).2).1 = 0) || decide ((nextR (nextR r).2).1 = 255)) (nextR (nextR r).2).2).f then ([], askR (decide ((nextR (nextR r).2).1 = 0) || decide ((nextR (nextR r).2).1 = 255)) (nextR (nextR r).2).2) else if (nextR (nextR r).2).1 = 0 then (acc, askR (decide ((nextR (nextR r).2).1 = 0) || decide ((nextR (nextR r).2).1 = 255)) (nextR (nextR r).2).2) else strF n most (acc ++ [0]) (askR (decide ((nextR (nextR r).2).1 = 0) || decide ((nextR (nextR r).2).1 = 255)) (nextR (nextR r).2).2))
      else strF n most (acc ++ [(nextR r).1]) (nextR r).2 := by
    simp only [strF]; rw [if_neg (by rw [hf]; decide), e0]
  rw [e0] at hI2 hf
  clear e0
  refine next_ok hI2.rdr fun H3 hb3 hr3 => ?_
  have hI3 := hI2.step hb3 hr3
  have hn1 := nextR_len r
  have e8 : ∀ c : UInt8, ((c.toNat : Int) == 0) = decide (c = 0) := fun c => by
    rw [Bool.eq_iff_iff]; simp only [decide_eq_true_eq, beq_iff_eq]
    constructor
    · intro hh; exact UInt8.toNat_inj.1 (by have h0 : (0 : UInt8).toNat = 0 := rfl; omega)
    · rintro rfl; rfl
  have e9 : ∀ c : UInt8, ((c.toNat : Int) == 255) = decide (c = 255) := fun c => by
    rw [Bool.eq_iff_iff]; simp only [decide_eq_true_eq, beq_iff_eq]
    constructor
    · intro hh; exact UInt8.toNat_inj.1 (by have h0 : (255 : UInt8).toNat = 255 := rfl; omega)
    · rintro rfl; rfl
  -- what is done with one more byte
  have push : ∀ (r2 : RS) (H4 : Heap), strF n most (acc ++ [(nextR r).1]) r2 = strR most r0 → r2.s.length < r.s.length → StrI H H4 b x acc r2 →
      apd [.int .u8 0] 1 x [.int .u8 ((nextR r).1.toNat : Int)] 1 (fun r33 H34 => (∃ (n : Nat) (acc : Str) (r : RS), strF (n + 1) most acc r = strR most r0 ∧ r.s.length ≤ n ∧ acc.length + r.s.length ≤ 140737488355320 ∧ StrI H H34 b r33 acc r) ∧ rdrLen H34 b < rdrLen H' b) H4 := by
    intro r2 H4 h1 h2 h3
    refine h3.push (by omega) fun x2 H5 h5 => ?_
    refine ⟨⟨n - 1, _, r2, ?_, by omega, by simp; omega, h5⟩, by rw [h5.rdr.len, hrl]; exact h2⟩
    rw [show n - 1 + 1 = n by omega]; exact h1
  refine ⟨fun _ H20 => apd [.int .u8 0] 1 x [.int .u8 ((nextR r).1.toNat : Int)] 1 (fun r33 H34 => (∃ (n : Nat) (acc : Str) (r : RS), strF (n + 1) most acc r = strR most r0 ∧ r.s.length ≤ n ∧ acc.length + r.s.length ≤ 140737488355320 ∧ StrI H H34 b r33 acc r) ∧ rdrLen H34 b < rdrLen H' b) H20, ?_, fun _ H20 h20 => h20⟩
  rw [e8]
  refine ift.of (fun hz => ?_) (fun hz => ?_)
  · have hz := of_decide_eq_true hz
    rw [if_pos hz] at he2
    refine next_ok hr3 fun H4 hb4 hr4 => ?_
    have hI4 := hI3.step hb4 hr4
    have hn2 := nextR_len (nextR r).2
    rw [e8, e9]
    refine ask_ok hr4 fun H5 hb5 hr5 => ?_
    have hI5 := hI4.step hb5 hr5
    generalize hzz : askR (decide ((nextR (nextR r).2).1 = 0) || decide ((nextR (nextR r).2).1 = 255)) (nextR (nextR r).2).2 = z at *
    refine ift.of (fun hf5 => ?_) (fun hf5 => ?_)
    · have hf5 : z.f = true := by simpa using hf5
      rw [if_pos hf5, he] at he2
      rw [he2]
      exact ⟨hI5.but, hI5.rdr, rfl⟩
    · have hf5 : z.f = false := by simpa using hf5
      rw [if_neg (by rw [hf5]; decide)] at he2
      refine ift.of (fun ha => ?_) (fun ha => ?_)
      · have ha := of_decide_eq_true ha
        rw [if_pos ha, he] at he2
        refine b2s_of (s := acc) hI5.own.rdsl hxl ?_
        have := k H5 hI5.but (by rw [he2]; exact hI5.rdr)
        rw [he2] at this
        exact this
      · have ha := of_decide_eq_false ha
        rw [if_neg ha, he] at he2
        rw [← hzz] at hf5
        have hq := (askR_f hf5).2
        have hzs : z = (nextR (nextR r).2).2 := by rw [← hzz, hq]
        rw [hq] at hf5
        have h22 := hn2.2 hf5
        refine push z H5 ?_ (by rw [hzs]; omega) hI5
        rw [hz]; exact he2.symm
  · have hz := of_decide_eq_false hz
    rw [if_neg hz, he] at he2
    have hf3 : (nextR r).2.f = false := by
      unfold nextR at hz ⊢
      split
      · rename_i hff; rw [if_pos hff] at hz; exact absurd rfl hz
      · exact hf
    exact push _ H3 he2.symm (hn1.2 hf3) hI3
end
end Sx
