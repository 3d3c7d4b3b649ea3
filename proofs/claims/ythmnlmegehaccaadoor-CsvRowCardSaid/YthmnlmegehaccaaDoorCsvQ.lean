/-
  Plain laws of records with commas: the machine, the reader by its words, what is written.
-/
import Derived.Test.YthmnlmegehaccaaDoorSxUse2
set_option linter.unusedVariables false
set_option linter.unusedSimpArgs false
namespace Sx
open Go

structure CS where
  st : Nat
  op : Bool
  out : List (List Str)
  cur : List Str
  b : Str

def CS.field (s : CS) : CS := ⟨0, s.op, s.out, s.cur ++ [s.b], []⟩
def CS.over (s : CS) : CS := ⟨0, false, s.out ++ [s.cur ++ [s.b]], [], []⟩
/-- a step in the machine; none: it is wrong -/
def stepC (c : UInt8) (nl : Bool) (s : CS) : Option CS :=
  if s.st = 2 then (if c = 34 then some { s with st := 3 } else some { s with b := s.b ++ [c] })
  else if c = 44 then some { s.field with op := true }
  else if c = 13 then (if nl then some { s with op := true } else none)
  else if c = 10 then some s.over
  else if c = 34 then (if s.st = 0 then some { s with op := true, st := 2 } else if s.st = 3 then some { s with op := true, b := s.b ++ [c], st := 2 } else none)
  else if s.st = 3 then none
  else some { s with op := true, b := s.b ++ [c], st := 1 }
def headNl : Str → Bool
  | c :: _ => c == 10
  | [] => false

abbrev CR := List (List Str) × Nat × Int
def finC (s : CS) : CR := if s.st = 2 then ([], s.out.length, 4) else if s.op then (s.over.out, 0, 0) else (s.out, 0, 0)
def runC : CS → Str → CR
  | s, [] => finC s
  | s, c :: t => match stepC c (headNl t) s with
    | some s2 => runC s2 t
    | none => ([], s.out.length, 4)
def readC (t : Str) : CR := runC ⟨0, false, [], [], []⟩ t

/-! the reader by its words -/
def qf : Str → Str → Option (Str × Str)
  | _, [] => none
  | acc, c :: t =>
    if c = 34 then (match t with
      | d :: t2 => if d = 34 then qf (acc ++ [34]) t2 else some (acc, d :: t2)
      | [] => some (acc, []))
    else qf (acc ++ [c]) t
def endC : Str → Nat
  | c :: t => if c = 10 then 1 else if c = 13 ∧ headNl t = true then 2 else 0
  | [] => 0
def pf : Str → Str → Option (Str × Str)
  | acc, [] => some (acc, [])
  | acc, c :: t => if c = 44 ∨ endC (c :: t) ≠ 0 then some (acc, c :: t) else if c = 34 ∨ c = 13 then none else pf (acc ++ [c]) t
def fieldC : Str → Option (Str × Str)
  | c :: t => if c = 34 then qf [] t else pf [] (c :: t)
  | [] => some ([], [])

theorem qf_len : ∀ (t acc : Str) {f r : Str}, qf acc t = some (f, r) → r.length ≤ t.length
  | [], _, _, _, h => by simp [qf] at h
  | [c], acc, f, r, h => by
    simp only [qf] at h
    split at h
    · simp at h; simp [h.2]
    · simp at h
  | c :: d :: t, acc, f, r, h => by
    simp only [qf] at h
    split at h
    · split at h
      · have := qf_len t _ h; simp; omega
      · simp at h; rw [← h.2]; simp
    · have := qf_len (d :: t) _ h; simp at this ⊢; omega
theorem pf_len : ∀ (t acc : Str) {f r : Str}, pf acc t = some (f, r) → r.length ≤ t.length
  | [], _, _, _, h => by simp [pf] at h; simp [h.2]
  | c :: t, acc, f, r, h => by
    simp only [pf] at h
    split at h
    · simp at h; rw [← h.2]; simp
    · split at h
      · simp at h
      · have := pf_len t _ h; simp; omega
theorem fieldC_len {t f r : Str} (h : fieldC t = some (f, r)) : r.length ≤ t.length := by
  cases t with
  | nil => simp [fieldC] at h; simp [h.2]
  | cons c t =>
    simp only [fieldC] at h
    split at h
    · have := qf_len t _ h; simp; omega
    · exact pf_len _ _ h

/-- records, by fuel; inside one (cur), or at a record's begin -/
def refR : Nat → List (List Str) → Option (List Str) → Str → CR
  | 0, out, _, _ => ([], 0, 0)
  | n + 1, out, none, [] => (out, 0, 0)
  | n + 1, out, none, c :: t => refR n out (some []) (c :: t)
  | n + 1, out, some cur, t => match fieldC t with
    | none => ([], out.length, 4)
    | some (f, r) => match r with
      | [] => (out ++ [cur ++ [f]], 0, 0)
      | d :: r2 => if d = 44 then refR n out (some (cur ++ [f])) r2
        else if endC (d :: r2) = 0 then ([], out.length, 4)
        else refR n (out ++ [cur ++ [f]]) none ((d :: r2).drop (endC (d :: r2)))

theorem run_q : ∀ (t : Str) (out : List (List Str)) (cur : List Str) (acc : Str), runC ⟨2, true, out, cur, acc⟩ t = match qf acc t with
    | none => ([], out.length, 4)
    | some (f, r) => runC ⟨3, true, out, cur, f⟩ r
  | [], out, cur, acc => rfl
  | [c], out, cur, acc => by
    by_cases h : c = 34
    · subst h; rfl
    · simp [runC, stepC, qf, h, finC]
  | c :: d :: t, out, cur, acc => by
    by_cases h : c = 34
    · subst h
      by_cases h2 : d = 34
      · subst h2
        have := run_q t out cur (acc ++ [34])
        simp [runC, stepC, qf] at this ⊢
        exact this
      · simp [runC, stepC, qf, h2]
    · have := run_q (d :: t) out cur (acc ++ [c])
      simp only [qf, if_neg h]
      rw [← this]
      simp [runC, stepC, h]

/-- behind a field: what stands there -/
def behindC (out : List (List Str)) (cur : List Str) (f : Str) : Str → CR
  | [] => (out ++ [cur ++ [f]], 0, 0)
  | d :: r2 => if d = 44 then runC ⟨0, true, out, cur ++ [f], []⟩ r2 else if endC (d :: r2) = 0 then ([], out.length, 4) else runC ⟨0, false, out ++ [cur ++ [f]], [], []⟩ ((d :: r2).drop (endC (d :: r2)))

theorem run_end {st : Nat} (hst : st ≠ 2) (op : Bool) (out : List (List Str)) (cur : List Str) (f : Str) : ∀ (d : UInt8) (r : Str), d ≠ 44 → endC (d :: r) ≠ 0 → runC ⟨st, op, out, cur, f⟩ (d :: r) = runC ⟨0, false, out ++ [cur ++ [f]], [], []⟩ ((d :: r).drop (endC (d :: r))) := by
  intro d r h1 h2
  simp only [endC] at h2 ⊢
  by_cases h10 : d = 10
  · subst h10
    simp [runC, stepC, hst, CS.over]
  · rw [if_neg h10] at h2 ⊢
    split at h2
    · rename_i h13
      obtain ⟨rfl, hn⟩ := h13
      rw [if_pos ⟨rfl, hn⟩]
      cases r with
      | nil => simp [headNl] at hn
      | cons e r =>
        have : e = 10 := by simpa [headNl] using hn
        subst this
        simp [runC, stepC, hst, CS.over, headNl]
    · exact absurd rfl h2

theorem qf_next : ∀ (t acc : Str) {f : Str} {d : UInt8} {r : Str}, qf acc t = some (f, d :: r) → d ≠ 34
  | [], _, _, _, _, h => by simp [qf] at h
  | [c], acc, f, d, r, h => by
    simp only [qf] at h
    split at h <;> simp at h
  | c :: e :: t, acc, f, d, r, h => by
    simp only [qf] at h
    split at h
    · split at h
      · exact qf_next t _ h
      · rename_i h2
        simp at h
        rw [← h.2.1]; exact h2
    · exact qf_next (e :: t) _ h

theorem run_behind3 (out : List (List Str)) (cur : List Str) (f : Str) (r : Str) (hd : ∀ d r2, r = d :: r2 → d ≠ 34) : runC ⟨3, true, out, cur, f⟩ r = behindC out cur f r := by
  cases r with
  | nil => rfl
  | cons d r2 =>
    have h34 := hd d r2 rfl
    by_cases h44 : d = 44
    · subst h44; simp [runC, stepC, behindC, CS.field]
    · by_cases he : endC (d :: r2) = 0
      · simp only [behindC, if_neg h44, if_pos he]
        have h10 : d ≠ 10 := fun e => by subst e; simp [endC] at he
        by_cases h13 : d = 13
        · subst h13
          have hn : headNl r2 = false := by
            by_cases hh : headNl r2 = true
            · simp [endC, hh] at he
            · simpa using hh
          simp [runC, stepC, hn]
        · simp [runC, stepC, h44, h10, h13, h34]
      · simp only [behindC, if_neg h44, if_neg he]
        exact run_end (by omega) _ _ _ _ _ _ h44 he

theorem run_p : ∀ (t : Str) (st : Nat) (op : Bool) (out : List (List Str)) (cur : List Str) (acc : Str), (st = 1 ∧ op = true ∨ st = 0 ∧ acc = [] ∧ (op = true ∨ t ≠ []) ∧ ∀ c t2, t = c :: t2 → c ≠ 34) → runC ⟨st, op, out, cur, acc⟩ t = match pf acc t with
    | none => ([], out.length, 4)
    | some (f, r) => behindC out cur f r
  | [], st, op, out, cur, acc, h => by
    have hop : op = true := by
      rcases h with h | ⟨_, _, h, _⟩
      · exact h.2
      · rcases h with h | h
        · exact h
        · exact absurd rfl h
    have hst : st ≠ 2 := by omega
    subst hop
    simp [runC, finC, pf, behindC, hst, CS.over]
  | c :: t, st, op, out, cur, acc, h => by
    have hst : st ≠ 2 := by omega
    have hst3 : st ≠ 3 := by omega
    simp only [pf]
    by_cases h44 : c = 44
    · subst h44
      simp [runC, stepC, behindC, CS.field, hst]
    by_cases he : endC (c :: t) ≠ 0
    · rw [if_pos (.inr he)]
      simp only [behindC, if_neg h44, if_neg he]
      exact run_end hst _ _ _ _ _ _ h44 he
    have he : endC (c :: t) = 0 := by omega
    have h10 : c ≠ 10 := fun e => by subst e; simp [endC] at he
    rw [if_neg (by simp [h44, he])]
    by_cases h13 : c = 13
    · subst h13
      have hn : headNl t = false := by
        by_cases hh : headNl t = true
        · simp [endC, hh] at he
        · simpa using hh
      simp [runC, stepC, hn, hst]
    by_cases h34 : c = 34
    · subst h34
      have hst0 : st ≠ 0 := by
        rcases h with h | ⟨_, _, _, h⟩
        · omega
        · exact absurd rfl (h 34 t rfl)
      simp [runC, stepC, hst, hst0, hst3]
    rw [if_neg (by simp [h13, h34])]
    have := run_p t 1 true out cur (acc ++ [c]) (.inl ⟨rfl, rfl⟩)
    rw [← this]
    simp [runC, stepC, hst, hst3, h44, h10, h13, h34]

theorem run_field (t : Str) (op : Bool) (out : List (List Str)) (cur : List Str) (h : op = true ∨ t ≠ []) : runC ⟨0, op, out, cur, []⟩ t = match fieldC t with
    | none => ([], out.length, 4)
    | some (f, r) => behindC out cur f r := by
  cases t with
  | nil => exact run_p [] 0 op out cur [] (.inr ⟨rfl, rfl, h, fun c t2 e => by cases e⟩)
  | cons c t =>
    by_cases h34 : c = 34
    · subst h34
      have h1 : runC ⟨0, op, out, cur, []⟩ (34 :: t) = runC ⟨2, true, out, cur, []⟩ t := by simp [runC, stepC]
      rw [h1, run_q]
      simp only [fieldC, if_pos]
      cases hq : qf [] t with
      | none => rfl
      | some q =>
        obtain ⟨f, r⟩ := q
        exact run_behind3 out cur f r fun d r2 e => by subst e; exact qf_next t _ hq
    · have := run_p (c :: t) 0 op out cur [] (.inr ⟨rfl, rfl, .inr (by simp), fun d t2 e => by injection e with e1 e2; subst e1; exact h34⟩)
      rw [this]
      simp [fieldC, h34]

theorem endC_le (t : Str) : endC t ≤ t.length := by
  cases t with
  | nil => simp [endC]
  | cons c t =>
    simp only [endC]
    split
    · simp
    · split
      · rename_i h; cases t with
        | nil => simp [headNl] at h
        | cons d t => simp
      · simp

/-- the machine reads as the words say -/
theorem ref_run : ∀ (n : Nat) (t : Str) (out : List (List Str)), (2 * t.length + 2 ≤ n → refR n out none t = runC ⟨0, false, out, [], []⟩ t) ∧ (∀ cur op, (op = true ∨ t ≠ []) → 2 * t.length + 1 ≤ n → refR n out (some cur) t = runC ⟨0, op, out, cur, []⟩ t)
  | 0, t, out => ⟨fun h => by omega, fun _ _ _ h => by omega⟩
  | n + 1, t, out => by
    refine ⟨fun h => ?_, fun cur op hop h => ?_⟩
    · cases t with
      | nil => rfl
      | cons c t =>
        simp only [refR]
        exact (ref_run n (c :: t) out).2 [] false (.inr (by simp)) (by simp at h ⊢; omega)
    · rw [run_field t op out cur hop]
      simp only [refR]
      cases hf : fieldC t with
      | none => rfl
      | some q =>
        obtain ⟨f, r⟩ := q
        have hl := fieldC_len hf
        cases r with
        | nil => rfl
        | cons d r2 =>
          simp only [behindC]
          simp only [List.length_cons] at hl
          split
          · exact (ref_run n r2 out).2 (cur ++ [f]) true (.inl rfl) (by omega)
          · split
            · rfl
            · rename_i he
              refine (ref_run n _ _).1 ?_
              rw [List.length_drop]
              simp only [List.length_cons]
              omega
end Sx
