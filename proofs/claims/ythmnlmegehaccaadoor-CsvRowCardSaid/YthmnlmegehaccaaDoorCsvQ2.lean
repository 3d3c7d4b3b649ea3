/-
  Plain laws of records: what is written, and that it is read as it was.
-/
import Derived.Test.YthmnlmegehaccaaDoorCsvQ
set_option linter.unusedVariables false
set_option linter.unusedSimpArgs false
namespace Sx
open Go

def spc (c : UInt8) : Bool := c == 34 || c == 44 || c == 10 || c == 13
def dq (s : Str) : Str := s.flatMap fun c => if c = 34 then [34, 34] else [c]
def ownS (s : Str) : Str := if s.any spc then [34] ++ dq s ++ [34] else s
def joinS : List Str → Str
  | [] => []
  | [f] => ownS f
  | f :: g :: r => ownS f ++ 44 :: joinS (g :: r)
def recT (r : List Str) : Str := if r = [[]] then [34, 34] else joinS r
def writeS (l : List (List Str)) : Str := l.flatMap fun r => recT r ++ [13, 10]
def anyE (l : List (List Str)) : Bool := l.any fun r => r.isEmpty
def wrS (l : List (List Str)) : Str := if anyE l then [] else writeS l
def wrE (l : List (List Str)) : Int := if anyE l then 1 else 0

theorem dq_cons (c : UInt8) (s : Str) : dq (c :: s) = (if c = 34 then [34, 34] else [c]) ++ dq s := rfl
theorem dq_append (a b : Str) : dq (a ++ b) = dq a ++ dq b := by simp [dq]
theorem dq_none : ∀ {s : Str}, (34 : UInt8) ∉ s → dq s = s
  | [], _ => rfl
  | c :: s, h => by
    have h1 : c ≠ 34 := fun e => h (by rw [e]; exact List.mem_cons_self ..)
    rw [dq_cons, if_neg h1, dq_none fun hh => h (List.mem_cons_of_mem _ hh)]; rfl
theorem dq_len (s : Str) : (dq s).length ≤ 2 * s.length := by
  induction s with
  | nil => simp [dq]
  | cons c s ih => rw [dq_cons]; simp only [List.length_append, List.length_cons]; split <;> simp <;> omega
theorem ownS_len (s : Str) : (ownS s).length ≤ 2 * s.length + 2 := by
  unfold ownS
  have := dq_len s
  split
  · simp; omega
  · omega

theorem qf_dq : ∀ (f acc : Str) (rest : Str), (∀ d r, rest = d :: r → d ≠ 34) → qf acc (dq f ++ 34 :: rest) = some (acc ++ f, rest)
  | [], acc, rest, h => by
    cases rest with
    | nil => simp [dq, qf]
    | cons d r => simp [dq, qf, h d r rfl]
  | c :: f, acc, rest, h => by
    rw [dq_cons]
    by_cases hc : c = 34
    · subst hc
      have := qf_dq f (acc ++ [34]) rest h
      simp only [if_pos, List.cons_append, List.nil_append, qf]
      rw [this]; simp
    · have := qf_dq f (acc ++ [c]) rest h
      rw [if_neg hc]
      simp only [List.cons_append, List.nil_append]
      have e : qf acc (c :: (dq f ++ 34 :: rest)) = qf (acc ++ [c]) (dq f ++ 34 :: rest) := by
        generalize dq f ++ 34 :: rest = u
        cases u <;> simp only [qf, if_neg hc]
      rw [e, this]; simp

/-- a field ends here -/
def Ends (rest : Str) : Prop := rest = [] ∨ ∃ d r, rest = d :: r ∧ (d = 44 ∨ endC (d :: r) ≠ 0)
theorem Ends.ne34 {rest : Str} (h : Ends rest) : ∀ d r, rest = d :: r → d ≠ 34 := fun d r e e34 => by
  rcases h with rfl | ⟨d2, r2, rfl, h⟩
  · cases e
  · injection e with e1 e2; subst e1; subst e34
    rcases h with h | h
    · cases h
    · exact h (by simp [endC])

theorem pf_plain : ∀ (f acc : Str) (rest : Str), f.any spc = false → Ends rest → pf acc (f ++ rest) = some (acc ++ f, rest)
  | [], acc, rest, _, h => by
    rcases h with rfl | ⟨d, r, rfl, h⟩
    · simp [pf]
    · simp only [List.nil_append, pf]
      rw [if_pos (by rcases h with h | h; exact .inl h; exact .inr h)]; simp
  | c :: f, acc, rest, hf, h => by
    simp only [List.any_cons, Bool.or_eq_false_iff] at hf
    have hc := hf.1
    simp only [spc, Bool.or_eq_false_iff, beq_eq_false_iff_ne, ne_eq] at hc
    obtain ⟨⟨⟨h34, h44⟩, h10⟩, h13⟩ := hc
    have he : endC (c :: (f ++ rest)) = 0 := by simp [endC, h10, h13]
    simp only [List.cons_append, pf]
    rw [if_neg (fun hh => hh.elim h44 fun h2 => h2 he), if_neg (fun hh => hh.elim h34 h13), pf_plain f _ rest hf.2 h]
    simp

theorem fieldC_own (f : Str) {rest : Str} (h : Ends rest) : fieldC (ownS f ++ rest) = some (f, rest) := by
  unfold ownS
  split
  · simp only [List.append_assoc, List.cons_append, List.nil_append, fieldC, if_pos]
    have := qf_dq f [] rest h.ne34
    simpa using this
  · rename_i hf
    have hf : f.any spc = false := by simpa using hf
    have hp := pf_plain f [] rest hf h
    rw [List.nil_append] at hp
    cases f with
    | nil =>
      rcases h with rfl | ⟨d, r, rfl, h⟩
      · rfl
      · have h34 := Ends.ne34 (.inr ⟨d, r, rfl, h⟩) d r rfl
        simp only [List.nil_append, fieldC, if_neg h34]; exact hp
    | cons c f =>
      have hc : c ≠ 34 := fun e => by subst e; simp [spc] at hf
      simp only [List.cons_append, fieldC, if_neg hc]; exact hp

theorem fieldC_q {rest : Str} (h : Ends rest) : fieldC (34 :: 34 :: rest) = some ([], rest) := by
  have := qf_dq [] [] rest h.ne34
  simpa [fieldC, dq] using this

/-- an end -/
def IsEnd (e : Str) : Prop := e = [10] ∨ e = [13, 10]
theorem IsEnd.endC {e : Str} (h : IsEnd e) (s : Str) : ∃ d r, e ++ s = d :: r ∧ d ≠ 44 ∧ Sx.endC (d :: r) ≠ 0 ∧ (d :: r).drop (Sx.endC (d :: r)) = s := by
  rcases h with rfl | rfl
  · exact ⟨10, s, rfl, by decide, by simp [Sx.endC], by simp [Sx.endC]⟩
  · exact ⟨13, 10 :: s, rfl, by decide, by simp [Sx.endC, headNl], by simp [Sx.endC, headNl]⟩
theorem IsEnd.ends {e : Str} (h : IsEnd e) (s : Str) : Ends (e ++ s) := by
  obtain ⟨d, r, h1, _, h2, _⟩ := h.endC s
  rw [h1]; exact .inr ⟨d, r, rfl, .inr h2⟩
theorem behind_end {e : Str} (h : IsEnd e) (s : Str) (out : List (List Str)) (cur : List Str) (f : Str) : behindC out cur f (e ++ s) = runC ⟨0, false, out ++ [cur ++ [f]], [], []⟩ s := by
  obtain ⟨d, r, h1, h2, h3, h4⟩ := h.endC s
  rw [h1]
  simp only [behindC, if_neg h2, if_neg h3, h4]

theorem run_join : ∀ (r : List Str) (out : List (List Str)) (cur : List Str) (op : Bool) (rest : Str), r ≠ [] → Ends rest → (rest = [] ∨ ∃ d u, rest = d :: u ∧ d ≠ 44) → (op = true ∨ joinS r ++ rest ≠ []) →
    ∃ f init, r = init ++ [f] ∧ runC ⟨0, op, out, cur, []⟩ (joinS r ++ rest) = behindC out (cur ++ init) f rest
  | [], _, _, _, _, h, _, _, _ => absurd rfl h
  | [f], out, cur, op, rest, _, he, _, hop => by
    refine ⟨f, [], rfl, ?_⟩
    rw [run_field _ _ _ _ hop]
    simp only [joinS]
    rw [fieldC_own f he]; simp
  | f :: g :: r, out, cur, op, rest, _, he, hn, hop => by
    obtain ⟨f2, init, h1, h2⟩ := run_join (g :: r) out (cur ++ [f]) true rest (by simp) he hn (.inl rfl)
    refine ⟨f2, f :: init, by rw [h1]; rfl, ?_⟩
    rw [run_field _ _ _ _ hop]
    simp only [joinS, List.append_assoc, List.cons_append]
    rw [fieldC_own f (.inr ⟨44, _, rfl, .inl rfl⟩)]
    have eb : behindC out cur f (44 :: (joinS (g :: r) ++ rest)) = runC ⟨0, true, out, cur ++ [f], []⟩ (joinS (g :: r) ++ rest) := by simp only [behindC, if_pos]
    dsimp only
    rw [eb, h2]; simp

theorem recT_ne {r : List Str} (h : r ≠ []) : recT r ≠ [] := by
  unfold recT
  split
  · simp
  · rename_i h1
    cases r with
    | nil => exact absurd rfl h
    | cons f r =>
      cases r with
      | nil =>
        have hf : f ≠ [] := fun e => h1 (by rw [e])
        simp only [joinS]
        unfold ownS
        split
        · simp
        · exact hf
      | cons g r => simp [joinS]

/-- a record, behind which an end stands, or nothing -/
theorem run_rec {r : List Str} (hr : r ≠ []) (out : List (List Str)) {rest : Str} (he : Ends rest) (hn : rest = [] ∨ ∃ d u, rest = d :: u ∧ d ≠ 44) :
    ∃ f init, r = init ++ [f] ∧ runC ⟨0, false, out, [], []⟩ (recT r ++ rest) = behindC out init f rest := by
  by_cases h1 : r = [[]]
  · subst h1
    refine ⟨[], [], rfl, ?_⟩
    rw [run_field _ _ _ _ (.inr (by simp [recT]))]
    simp only [recT, if_pos, List.cons_append, List.nil_append]
    rw [fieldC_q he]
  · have e : recT r = joinS r := by unfold recT; rw [if_neg h1]
    have := run_join r out [] false rest hr he hn (.inr (by rw [← e]; have := recT_ne hr; intro hh; exact this (List.append_eq_nil_iff.1 hh).1))
    rw [e]; simpa using this

theorem run_rec_end {r : List Str} (hr : r ≠ []) (out : List (List Str)) {e : Str} (he : IsEnd e) (s : Str) : runC ⟨0, false, out, [], []⟩ (recT r ++ (e ++ s)) = runC ⟨0, false, out ++ [r], [], []⟩ s := by
  obtain ⟨d, u, h1, h2, _⟩ := he.endC s
  obtain ⟨f, init, hf, hrun⟩ := run_rec hr out (he.ends s) (.inr ⟨d, u, h1, h2⟩)
  rw [hrun, behind_end he, hf]
theorem run_rec_last {r : List Str} (hr : r ≠ []) (out : List (List Str)) : runC ⟨0, false, out, [], []⟩ (recT r) = (out ++ [r], 0, 0) := by
  obtain ⟨f, init, hf, hrun⟩ := run_rec hr out (rest := []) (.inl rfl) (.inl rfl)
  rw [List.append_nil] at hrun
  rw [hrun, hf]; rfl

theorem run_write : ∀ (l : List (List Str)) (out : List (List Str)) (s : Str), anyE l = false → runC ⟨0, false, out, [], []⟩ (writeS l ++ s) = runC ⟨0, false, out ++ l, [], []⟩ s
  | [], out, s, _ => by simp [writeS]
  | r :: l, out, s, h => by
    simp only [anyE, List.any_cons, Bool.or_eq_false_iff] at h
    have hr : r ≠ [] := fun e => by subst e; simp at h
    have e : writeS (r :: l) ++ s = recT r ++ ([13, 10] ++ (writeS l ++ s)) := by simp [writeS]
    rw [e, run_rec_end hr out (.inr rfl), run_write l _ s h.2]; simp

/-- what stood ahead -/
def shift (o : List (List Str)) (r : CR) : CR := if r.2.2 = 0 then (o ++ r.1, r.2.1, 0) else ([], r.2.1 + o.length, r.2.2)
theorem stepC_out {c : UInt8} {nl : Bool} {s : CS} (o : List (List Str)) : stepC c nl ⟨s.st, s.op, o ++ s.out, s.cur, s.b⟩ = (stepC c nl s).map fun s2 => ⟨s2.st, s2.op, o ++ s2.out, s2.cur, s2.b⟩ := by
  unfold stepC
  repeat' split
  all_goals first | rfl | simp_all [CS.field, CS.over]
theorem run_out : ∀ (t : Str) (s : CS) (o : List (List Str)), runC ⟨s.st, s.op, o ++ s.out, s.cur, s.b⟩ t = shift o (runC s t)
  | [], s, o => by
    simp only [runC, finC, CS.over]
    split
    · simp [shift]; omega
    · split
      · simp [shift]
      · simp [shift]
  | c :: t, s, o => by
    simp only [runC]
    rw [stepC_out]
    cases hs : stepC c (headNl t) s with
    | none => simp [shift]; omega
    | some s2 => exact run_out t s2 o
theorem run_from (l : List (List Str)) (s : Str) : runC ⟨0, false, l, [], []⟩ s = shift l (readC s) := by
  have := run_out s ⟨0, false, [], [], []⟩ l
  simpa [readC] using this

/-- what is written is read as it was, whatever stands behind -/
theorem read_write (l : List (List Str)) (h : anyE l = false) (s : Str) : readC (writeS l ++ s) = shift l (readC s) := by
  rw [← run_from]
  have := run_write l [] s h
  simpa [readC] using this
theorem readC_nil : readC [] = ([], 0, 0) := rfl
theorem read_write0 (l : List (List Str)) (h : anyE l = false) : readC (writeS l) = (l, 0, 0) := by
  have := read_write l h []
  rw [List.append_nil, readC_nil] at this
  rw [this]; simp [shift]

/-- what is read has no empty record, and is no greater than the text -/
def wR (r : List Str) : Nat := (r.map fun f => f.length + 1).sum + 1
def wL (l : List (List Str)) : Nat := (l.map wR).sum
def CS.w (s : CS) : Nat := wL s.out + (s.cur.map fun f => f.length + 1).sum + s.b.length
theorem stepC_w {c : UInt8} {nl : Bool} {s s2 : CS} (h : stepC c nl s = some s2) (hn : anyE s.out = false) : s2.w ≤ s.w + 2 ∧ anyE s2.out = false := by
  unfold stepC at h
  repeat' split at h
  all_goals first | (injection h with h; subst h; refine ⟨?_, ?_⟩ <;> simp_all [CS.w, CS.field, CS.over, wL, wR, anyE] <;> try omega) | cases h
theorem run_w : ∀ (t : Str) (s : CS), anyE s.out = false → anyE (runC s t).1 = false ∧ wL (runC s t).1 ≤ s.w + 2 * t.length + 2
  | [], s, h => by
    simp only [runC, finC]
    split
    · exact ⟨rfl, by simp [wL]⟩
    · split
      · exact ⟨by simp_all [anyE, CS.over], by simp [CS.w, CS.over, wL, wR]; omega⟩
      · exact ⟨h, by simp [CS.w]; omega⟩
  | c :: t, s, h => by
    simp only [runC]
    cases hs : stepC c (headNl t) s with
    | none => exact ⟨rfl, by simp [wL]⟩
    | some s2 =>
      obtain ⟨h1, h2⟩ := stepC_w hs h
      obtain ⟨h3, h4⟩ := run_w t s2 h2
      refine ⟨h3, ?_⟩
      simp only [List.length_cons]; omega
theorem readC_w (t : Str) : anyE (readC t).1 = false ∧ wL (readC t).1 ≤ 2 * t.length + 2 := by
  have := run_w t ⟨0, false, [], [], []⟩ rfl
  unfold readC
  simpa [CS.w, wL] using this

theorem readC_e : ∀ (t : Str) (s : CS), ((runC s t).2.2 = 0 → (runC s t).2.1 = 0) ∧ ((runC s t).2.2 = 0 ∨ (runC s t).2.2 = 4) ∧ ((runC s t).2.2 ≠ 0 → (runC s t).1 = [])
  | [], s => by
    simp only [runC, finC]
    split
    · simp
    · split <;> simp
  | c :: t, s => by
    simp only [runC]
    cases hs : stepC c (headNl t) s with
    | none => simp
    | some s2 => exact readC_e t s2
end Sx
