/-
  The examples of layer 3; the order of bytes.
-/
import Derived.Test.YtlpjpjbgfffffaaDoorCodeP4
set_option linter.unusedVariables false
set_option linter.unusedSimpArgs false
set_option maxRecDepth 10000
namespace Sx
open Go Go.Proofs

theorem ex_ct : Ct 300 = [2, 1, 44] := by kernel_rfl
theorem ex_nm : Nm (-1) = [127] := by kernel_rfl
theorem ex_tx : Tx [97, 0] = [97, 0, 255, 0, 0] := by kernel_rfl
theorem ex_r1 : countR 300 ⟨[2, 1, 44, 127, 97, 0, 255, 0, 0, 1], 0, false⟩ = (300, ⟨[127, 97, 0, 255, 0, 0, 1], 0, false⟩) := by kernel_rfl
theorem ex_r2 : numR ⟨[127, 97, 0, 255, 0, 0, 1], 0, false⟩ = (-1, ⟨[97, 0, 255, 0, 0, 1], 0, false⟩) := by kernel_rfl
theorem ex_r3 : strR 2 ⟨[97, 0, 255, 0, 0, 1], 0, false⟩ = ([97, 0], ⟨[1], 0, false⟩) := by kernel_rfl
theorem ex_r4 : flagR ⟨[1], 0, false⟩ = (true, ⟨[], 0, false⟩) := by kernel_rfl

section
variable {C : Ctx} {H : Heap}

theorem rdsl_none {H : Heap} : rdsl H Sl.nil (bytesV []) := .inl rfl

theorem works_ok {K : Bool → Heap → Prop} (k : ∀ H2, H.le H2 → K true H2) : c_law03_works C K H := by
  apply ad_law03_works
  unfold sh_law03_works
  refine code_Count_ok (a := []) rdsl_none rfl (by decide) fun r1 H1 h1 => ?_
  rw [ex_ct] at h1
  refine code_Num_ok (a := [2, 1, 44]) h1.own.rdsl h1.lenB (by omega) (by omega) (by decide) fun r2 H2 h2 => ?_
  rw [ex_nm] at h2
  refine code_Str_ok (a := [2, 1, 44, 127]) h2.own.rdsl h2.lenB (by decide) fun r3 H3 h3 => ?_
  rw [ex_tx] at h3
  refine code_Flag_ok (a := [2, 1, 44, 127, 97, 0, 255, 0, 0]) h3.own.rdsl h3.lenB (by decide) fun r4 H4 h4 => ?_
  refine NewReader_ok (a := [2, 1, 44, 127, 97, 0, 255, 0, 0, 1]) h4.own.rdsl h4.lenB (by decide) fun b H5 hb hle hr => ?_
  refine b2s_of (s := [2, 1, 44, 127, 97, 0, 255, 0, 0, 1]) (rdsl_le hle h4.own.rdsl) h4.lenB ?_
  have hle5 : H.le H4 := ((h1.le.trans h2.le).trans h3.le).trans h4.le
  have hnb : H b = none := hle5.none hb
  have hle5 := hle5.trans hle
  apply jn.inl
  refine ift_pos (by decide) (readCount_ok hr fun H6 hb6 hr6 => ?_)
  rw [ex_r1] at hr6 ⊢
  apply jn.inl
  refine ift_pos rfl (readNum_ok hr6 fun H7 hb7 hr7 => ?_)
  rw [ex_r2] at hr7 ⊢
  apply jn.inl
  refine ift_pos rfl (readStr_ok hr7 (by decide) fun H8 hb8 hr8 => ?_)
  rw [ex_r3] at hr8 ⊢
  apply jn.inl
  refine ift_pos (by decide) (done_ok hr8 ?_)
  apply jn.inl
  refine ift_pos rfl (readFlag_ok hr8 fun H9 hb9 hr9 => ?_)
  rw [ex_r4] at hr9 ⊢
  apply jn.inl
  refine ift_pos rfl (done_ok hr9 ?_)
  exact k _ (hle5.of_but (((hb6.trans hb7).trans hb8).trans hb9) hnb)

theorem law_behind_ok {p q : Sl} {a c : Str} {K : Sl → Heap → Prop} (hp : rdsl H p (bytesV a)) (hpl : p.len = a.length) (hq : rdsl H q (bytesV c)) (hql : q.len = c.length) (hm : a.length + c.length ≤ 140737488355328)
    (k : ∀ r H2, OwnF H H2 1 r (bytesV (a ++ c)) → K r H2) : c_law03_behind C p q K H := by
  apply ad_law03_behind
  unfold sh_law03_behind
  intro b hb
  refine apS_bytes (a := []) (ownF_empty hb) (rdsl_le (Heap.le_put hb) hp) hpl (by simp; omega) fun r H2 h2 _ => ?_
  refine apS_bytes h2 (rdsl_le h2.le hq) hql (by simpa using hm) fun r3 H3 h3 _ => ?_
  exact k r3 H3 (by simpa using h3)

/-- how bytes stand -/
def cmpS : Str → Str → Int
  | [], [] => 0
  | [], _ :: _ => -1
  | _ :: _, [] => 1
  | a :: s, b :: t => if a < b then -1 else if b < a then 1 else cmpS s t

theorem u8_tri (a b : UInt8) : a < b ∨ b < a ∨ a = b := by
  rcases Nat.lt_trichotomy a.toNat b.toNat with h | h | h
  · exact .inl h
  · exact .inr (.inr (UInt8.toNat_inj.1 h))
  · exact .inr (.inl h)
theorem u8_irr (a : UInt8) : ¬ a < a := fun h => Nat.lt_irrefl _ h
theorem u8_asym {a b : UInt8} (h : a < b) : ¬ b < a := fun h2 => Nat.lt_asymm h h2

theorem slt_cons (a b : UInt8) (s t : Str) : slt (a :: s) (b :: t) = (decide (a < b) || (decide (a = b) && slt s t)) := by
  simp only [slt, Op.bytesLess]
  by_cases h : a < b
  · simp [h]
  · by_cases h2 : a = b
    · subst h2; simp [h]
    · simp [h, h2]

theorem slt_cmp : ∀ s t : Str, slt s t = decide (cmpS s t < 0) ∧ (cmpS s t = 0 ↔ s = t)
  | [], [] => ⟨rfl, by simp [cmpS]⟩
  | [], b :: t => ⟨rfl, by simp [cmpS]⟩
  | a :: s, [] => ⟨rfl, by simp [cmpS]⟩
  | a :: s, b :: t => by
    obtain ⟨h1, h2⟩ := slt_cmp s t
    rw [slt_cons, h1]
    simp only [cmpS]
    rcases u8_tri a b with h | h | rfl
    · have hne : a ≠ b := fun e => by subst e; exact u8_irr _ h
      simp [h, hne]
    · have hne : a ≠ b := fun e => by subst e; exact u8_irr _ h
      simp [h, u8_asym h, hne]
    · simp [u8_irr, h2]

theorem stands_ok {p q : Sl} {a c : Str} {K : Int → Heap → Prop} (hp : rdsl H p (bytesV a)) (hpl : p.len = a.length) (hq : rdsl H q (bytesV c)) (hql : q.len = c.length) (k : ∀ r : Int, (r < 0 ↔ cmpS a c < 0) → (r = 0 ↔ cmpS a c = 0) → -1 ≤ r → r ≤ 1 → K r H) : c_law03_stands C p q K H := by
  apply ad_law03_stands
  unfold sh_law03_stands
  obtain ⟨h1, h2⟩ := slt_cmp a c
  refine b2s_of hp hpl (b2s_of hq hql ?_)
  refine ift.of (fun h => ?_) (fun h => ?_)
  · rw [h1] at h
    have := of_decide_eq_true h
    exact k (-1) ⟨fun _ => this, fun _ => by omega⟩ ⟨fun h => by omega, fun h => by omega⟩ (by omega) (by omega)
  · rw [h1] at h
    have h3 := of_decide_eq_false h
    refine b2s_of hp hpl (b2s_of hq hql ?_)
    refine ift.of (fun h => ?_) (fun h => ?_)
    · have hne : cmpS a c ≠ 0 := fun e => by rw [h2] at e; subst e; simp at h
      exact k 1 ⟨fun h => by omega, fun h => by omega⟩ ⟨fun h => by omega, fun h => by omega⟩ (by omega) (by omega)
    · have he : cmpS a c = 0 := by
        rw [h2]
        rw [h1, decide_eq_false h3] at h
        simpa using h
      exact k 0 ⟨fun h => by omega, fun h => by omega⟩ ⟨fun _ => he, fun _ => rfl⟩ (by omega) (by omega)
end
end Sx
